/- Proof of FnWordsToldCardSaid, part 5 of 6: the texts Pf21, Pf70, Pf22, Pf4, T, Mx, Word, WordB, Frac, Cur, joined by a program of this session. -/
import Derived.Test.YtdclgghdilbheaaDoorBLawFnWordsTold1
import Derived.Test.YtdclgghdilbheaaDoorBLawFnWordsTold3
import Derived.Test.YtdclgghdilbheaaDoorBLawFnWordsTold2
-- By a program of this session.
namespace Go.Proofs.YtdclgghdilbheaaDoor.P
open Go.RowKit Go.Proofs.YtdclgghdilbheaaDoorW.PrintWords Go.Proofs.YtdclgghdilbheaaDoorW.PrintLast Go.Proofs.YtdclgghdilbheaaDoorW.PrintMore
attribute [local go_sem] max2_int min2_int max_two min_two max_three min_three max_four min_four
set_option linter.unusedVariables false
set_option linter.unusedSimpArgs false

/-! ### spec_MoveFraction: function 21 -/
mutual
def spec_MoveFraction.j0 : Nat → Bool → Int → Int → Int → Int → Int → Int → Option (Int × Int × Bool)
 | 0, _, _, _, _, _, _, _ => none
 | k + 1, x16, x461000, x461001, x461002, x461003, x462000, x462001 => if x16 = true then (some (0, 0, false)) else (if (wrap64 ((wrap64 (x461002 * x462000)) + (wrap64 (x461003 * x462001)))) < 0 then (spec_MoveFraction.j1 k (wrap64 ((wrap64 (x461000 * x462000)) + (wrap64 (x461001 * x462001)))) (wrap64 ((wrap64 (x461002 * x462000)) + (wrap64 (x461003 * x462001)))) true) else (if (wrap64 ((wrap64 (x461002 * x462000)) + (wrap64 (x461003 * x462001)))) = 0 then (spec_MoveFraction.j1 k (wrap64 ((wrap64 (x461000 * x462000)) + (wrap64 (x461001 * x462001)))) (wrap64 ((wrap64 (x461002 * x462000)) + (wrap64 (x461003 * x462001)))) (decide ((wrap64 ((wrap64 (x461000 * x462000)) + (wrap64 (x461001 * x462001)))) < 0))) else (spec_MoveFraction.j1 k (wrap64 ((wrap64 (x461000 * x462000)) + (wrap64 (x461001 * x462001)))) (wrap64 ((wrap64 (x461002 * x462000)) + (wrap64 (x461003 * x462001)))) false)))
def spec_MoveFraction.j1 : Nat → Int → Int → Bool → Option (Int × Int × Bool)
 | 0, _, _, _ => none
 | k + 1, x7, x8, x48 => if x48 = true then ((spec_l1Abs.f (wrap64 (-x7))).bind fun t464 => (if t464 > 1000000000000000 then (some (0, 0, false)) else (if (wrap64 (-x8)) > 1000000000000000 then (some (0, 0, false)) else (some (wrap64 (-x7), wrap64 (-x8), true))))) else ((spec_l1Abs.f x7).bind fun t465 => (if t465 > 1000000000000000 then (some (0, 0, false)) else (if x8 > 1000000000000000 then (some (0, 0, false)) else (some (x7, x8, true)))))
end
def spec_MoveFraction.f (k : Nat) (a0_0 : Int) (a0_1 : Int) (a0_2 : Int) (a0_3 : Int) (a1_0 : Int) (a1_1 : Int) : Option (Int × Int × Bool) := (spec_mxGood.f k a0_0 a0_1 a0_2 a0_3).bind fun t462 => (if t462 = true then ((spec_nbGood.f k a1_0 a1_1).bind fun t463 => (spec_MoveFraction.j0 k (!t463) a0_0 a0_1 a0_2 a0_3 a1_0 a1_1)) else (spec_MoveFraction.j0 k true a0_0 a0_1 a0_2 a0_3 a1_0 a1_1))
theorem spec_MoveFraction.mono_l : ∀ k, (∀ y0 y1 y2 y3 y4 y5 y6, LeO (spec_MoveFraction.j0 k y0 y1 y2 y3 y4 y5 y6) (spec_MoveFraction.j0 (k + 1) y0 y1 y2 y3 y4 y5 y6)) ∧ (∀ y0 y1 y2, LeO (spec_MoveFraction.j1 k y0 y1 y2) (spec_MoveFraction.j1 (k + 1) y0 y1 y2))
 | 0 => ⟨fun _ _ _ _ _ _ _ r h => by simp [spec_MoveFraction.j0] at h, fun _ _ _ r h => by simp [spec_MoveFraction.j1] at h⟩
 | k + 1 => by
  obtain ⟨ih0, ih1⟩ := spec_MoveFraction.mono_l k
  refine ⟨?_, ?_⟩
  ·intro y0 y1 y2 y3 y4 y5 y6
   unfold spec_MoveFraction.j0
   repeat' first
   | (with_reducible exact ih0 _ _ _ _ _ _ _)
   | (with_reducible exact ih1 _ _ _)
   | (with_reducible exact spec_mxGood.mono _ _ _ _ _)
   | (with_reducible exact spec_nbGood.mono _ _ _)
   | (with_reducible exact LeO.refl _)
   | (with_reducible exact LeO.none _)
   | (with_reducible refine LeO.ite ?_ ?_)
   | (with_reducible refine LeO.bind ?_ (fun _ => ?_))
   | exact ih0 _ _ _ _ _ _ _
   | exact ih1 _ _ _
   | exact spec_mxGood.mono _ _ _ _ _
   | exact spec_nbGood.mono _ _ _
   | exact LeO.none _
   | refine LeO.ite ?_ ?_
   | refine LeO.bind ?_ (fun _ => ?_)
  ·intro y0 y1 y2
   unfold spec_MoveFraction.j1
   repeat' first
   | (with_reducible exact ih0 _ _ _ _ _ _ _)
   | (with_reducible exact ih1 _ _ _)
   | (with_reducible exact spec_mxGood.mono _ _ _ _ _)
   | (with_reducible exact spec_nbGood.mono _ _ _)
   | (with_reducible exact LeO.refl _)
   | (with_reducible exact LeO.none _)
   | (with_reducible refine LeO.ite ?_ ?_)
   | (with_reducible refine LeO.bind ?_ (fun _ => ?_))
   | exact ih0 _ _ _ _ _ _ _
   | exact ih1 _ _ _
   | exact spec_mxGood.mono _ _ _ _ _
   | exact spec_nbGood.mono _ _ _
   | exact LeO.none _
   | refine LeO.ite ?_ ?_
   | refine LeO.bind ?_ (fun _ => ?_)
theorem spec_MoveFraction.mono : ∀ a0 a1 a2 a3 a4 a5 k, LeO (spec_MoveFraction.f k a0 a1 a2 a3 a4 a5) (spec_MoveFraction.f (k + 1) a0 a1 a2 a3 a4 a5) := by
 intro a0 a1 a2 a3 a4 a5 k
 obtain ⟨ih0, ih1⟩ := spec_MoveFraction.mono_l k
 unfold spec_MoveFraction.f
 repeat' first
   | (with_reducible exact ih0 _ _ _ _ _ _ _)
   | (with_reducible exact ih1 _ _ _)
   | (with_reducible exact spec_mxGood.mono _ _ _ _ _)
   | (with_reducible exact spec_nbGood.mono _ _ _)
   | (with_reducible exact LeO.refl _)
   | (with_reducible exact LeO.none _)
   | (with_reducible refine LeO.ite ?_ ?_)
   | (with_reducible refine LeO.bind ?_ (fun _ => ?_))
   | exact ih0 _ _ _ _ _ _ _
   | exact ih1 _ _ _
   | exact spec_mxGood.mono _ _ _ _ _
   | exact spec_nbGood.mono _ _ _
   | exact LeO.none _
   | refine LeO.ite ?_ ?_
   | refine LeO.bind ?_ (fun _ => ?_)
set_option maxHeartbeats 8000000 in
set_option maxRecDepth 100000 in
theorem spec_MoveFraction.calls (k : Nat) (a0_0 : Int) (a0_1 : Int) (a0_2 : Int) (a0_3 : Int) (a1_0 : Int) (a1_1 : Int) (r1 : Int) (r2 : Int) (r3 : Bool) (w : World) (h : spec_MoveFraction.f k a0_0 a0_1 a0_2 a0_3 a1_0 a1_1 = some (r1, r2, r3)) :
  Calls Tryd.prog 21 #[.agg #[.int .i64 a0_0, .int .i64 a0_1, .int .i64 a0_2, .int .i64 a0_3], .agg #[.int .i64 a1_0, .int .i64 a1_1]] w fun e w' => e = .returned (.tuple #[.int .i64 r1, .int .i64 r2, .bool r3]) ∧ Below w.heap.size w w' := by
 have hu36 := Tryd.underlying36
 have hu43 := Tryd.underlying43
 have HB := Aside0.mk (Below.refl w.heap.size w)
 have H := h
 clear h
 unfold spec_MoveFraction.f at H
 have HC3 := Aside0.mk H
 clear H
 go_enter Tryd.func21, Tryd.ntmps21
 go_upto_region 1 with (first | ((with_reducible refine gate_dst (N := 2) rfl ?_); refine box_ 2 #[.int .i64 a0_0, .int .i64 a0_1, .int .i64 a0_2, .int .i64 a0_3] 36 ?_; intro gb460 hg w4 hbox hb; have BK460 := Aside0.mk (hbox); have GW460 := Aside0.mk ((by rw [hg]; exact (below_size (hk HB)) : w.heap.size ≤ gb460)); have GE460 := Aside0.mk ((by rw [hg]; exact (below_size (hk HB)) : w.heap.size ≤ gb460)); replace HB := Aside0.mk (below_step (hk HB) hb); clear hb hbox hg) | ((with_reducible refine gate_dst (N := 3) rfl ?_); refine box_ 3 #[.int .i64 a1_0, .int .i64 a1_1] 43 ?_; intro gb461 hg w5 hbox hb; have BK461 := Aside0.mk (hbox); have GW461 := Aside0.mk ((by rw [hg]; exact (below_size (hk HB)) : w.heap.size ≤ gb461)); have GE461 := Aside0.mk ((by rw [hg]; exact (below_size (hk HB)) : w.heap.size ≤ gb461)); have NB460_461 := Aside0.mk ((by rw [hg]; exact Nat.ne_of_lt (blk_lt (pk BK460)) : gb460 ≠ gb461)); have NB461_460 := Aside0.mk ((by rw [hg]; exact Nat.ne_of_gt (blk_lt (pk BK460)) : gb461 ≠ gb460)); replace BK460 := Aside0.mk (blk_below (pk BK460) hb); replace HB := Aside0.mk (below_step (hk HB) hb); clear hb hbox hg))
 repeat (go_quiet (first | ((with_reducible refine gate_dst (N := 2) rfl ?_); refine box_ 2 #[.int .i64 a0_0, .int .i64 a0_1, .int .i64 a0_2, .int .i64 a0_3] 36 ?_; intro gb460 hg w4 hbox hb; have BK460 := Aside0.mk (hbox); have GW460 := Aside0.mk ((by rw [hg]; exact (below_size (hk HB)) : w.heap.size ≤ gb460)); have GE460 := Aside0.mk ((by rw [hg]; exact (below_size (hk HB)) : w.heap.size ≤ gb460)); replace HB := Aside0.mk (below_step (hk HB) hb); clear hb hbox hg) | ((with_reducible refine gate_dst (N := 3) rfl ?_); refine box_ 3 #[.int .i64 a1_0, .int .i64 a1_1] 43 ?_; intro gb461 hg w5 hbox hb; have BK461 := Aside0.mk (hbox); have GW461 := Aside0.mk ((by rw [hg]; exact (below_size (hk HB)) : w.heap.size ≤ gb461)); have GE461 := Aside0.mk ((by rw [hg]; exact (below_size (hk HB)) : w.heap.size ≤ gb461)); have NB460_461 := Aside0.mk ((by rw [hg]; exact Nat.ne_of_lt (blk_lt (pk BK460)) : gb460 ≠ gb461)); have NB461_460 := Aside0.mk ((by rw [hg]; exact Nat.ne_of_gt (blk_lt (pk BK460)) : gb461 ≠ gb460)); replace BK460 := Aside0.mk (blk_below (pk BK460) hb); replace HB := Aside0.mk (below_step (hk HB) hb); clear hb hbox hg)); go_upto_region 1 with (first | ((with_reducible refine gate_dst (N := 2) rfl ?_); refine box_ 2 #[.int .i64 a0_0, .int .i64 a0_1, .int .i64 a0_2, .int .i64 a0_3] 36 ?_; intro gb460 hg w4 hbox hb; have BK460 := Aside0.mk (hbox); have GW460 := Aside0.mk ((by rw [hg]; exact (below_size (hk HB)) : w.heap.size ≤ gb460)); have GE460 := Aside0.mk ((by rw [hg]; exact (below_size (hk HB)) : w.heap.size ≤ gb460)); replace HB := Aside0.mk (below_step (hk HB) hb); clear hb hbox hg) | ((with_reducible refine gate_dst (N := 3) rfl ?_); refine box_ 3 #[.int .i64 a1_0, .int .i64 a1_1] 43 ?_; intro gb461 hg w5 hbox hb; have BK461 := Aside0.mk (hbox); have GW461 := Aside0.mk ((by rw [hg]; exact (below_size (hk HB)) : w.heap.size ≤ gb461)); have GE461 := Aside0.mk ((by rw [hg]; exact (below_size (hk HB)) : w.heap.size ≤ gb461)); have NB460_461 := Aside0.mk ((by rw [hg]; exact Nat.ne_of_lt (blk_lt (pk BK460)) : gb460 ≠ gb461)); have NB461_460 := Aside0.mk ((by rw [hg]; exact Nat.ne_of_gt (blk_lt (pk BK460)) : gb461 ≠ gb460)); replace BK460 := Aside0.mk (blk_below (pk BK460) hb); replace HB := Aside0.mk (below_step (hk HB) hb); clear hb hbox hg)))
 (try simp only [Act.put, List.setIfInBounds_toArray, List.set_cons_zero, List.set_cons_succ])
 go_cut [16] (fun v16 wc => ∃ (kq : Nat) (x16_2 : Bool), v16 = .bool x16_2 ∧ Aside0 (spec_MoveFraction.j0 kq x16_2 a0_0 a0_1 a0_2 a0_3 a1_0 a1_1 = some (r1, r2, r3)) ∧ Aside0 (kq ≤ k) ∧ Aside0 (wc.heap[gb460]? = some (.cells #[.int .i64 a0_0, .int .i64 a0_1, .int .i64 a0_2, .int .i64 a0_3] 36 (0, 0))) ∧ Aside0 (wc.heap[gb461]? = some (.cells #[.int .i64 a1_0, .int .i64 a1_1] 43 (0, 0))) ∧ Aside0 (Below w.heap.size w wc))
 case first =>
  have H := HC3.out
  clear HC3
  replace H := Option.bind_eq_some_iff.mp H
  obtain ⟨t462, A60, H⟩ := H
  have A6 := Aside0.mk A60
  clear A60
  by_cases c7 : t462 = true
  ·subst c7
   rw [if_pos rfl] at H
   replace H := Option.bind_eq_some_iff.mp H
   obtain ⟨t463, A80, H⟩ := H
   have A8 := Aside0.mk A80
   clear A80
   have H' := Aside0.mk H
   clear H
   have hnb9 := NB460_461.out
   have hnc9 := NB461_460.out
   obtain ⟨hcz10_0, hcz10_1, hcz10_2, hcz10_3, hfz10_0, hfz10_1, hfz10_2, hfz10_3⟩ := c4_ BK460
   go_wp2_with (first | (go_at_call 64; (with_reducible refine (spec_mxGood.calls k a0_0 a0_1 a0_2 a0_3 true _ A6.out).mono ?_); rintro e w11 ⟨rfl, hb⟩; replace BK460 := Aside0.mk (blk_below (pk BK460) hb); replace BK461 := Aside0.mk (blk_below (pk BK461) hb); replace HB := Aside0.mk (below_step (hk HB) hb); (try clear hb); (try clear hb2); (try clear hk); (try clear hi); obtain ⟨hcz12_0, hcz12_1, hfz12_0, hfz12_1⟩ := c2_ BK461) | (go_at_call 68; (with_reducible refine (spec_nbGood.calls k a1_0 a1_1 t463 _ A8.out).mono ?_); rintro e w13 ⟨rfl, hb⟩; replace BK460 := Aside0.mk (blk_below (pk BK460) hb); replace BK461 := Aside0.mk (blk_below (pk BK461) hb); replace HB := Aside0.mk (below_step (hk HB) hb); (try clear hb); (try clear hb2); (try clear hk); (try clear hi)))
   repeat (go_quiet (first | (go_at_call 64; (with_reducible refine (spec_mxGood.calls k a0_0 a0_1 a0_2 a0_3 true _ A6.out).mono ?_); rintro e w11 ⟨rfl, hb⟩; replace BK460 := Aside0.mk (blk_below (pk BK460) hb); replace BK461 := Aside0.mk (blk_below (pk BK461) hb); replace HB := Aside0.mk (below_step (hk HB) hb); (try clear hb); (try clear hb2); (try clear hk); (try clear hi); obtain ⟨hcz12_0, hcz12_1, hfz12_0, hfz12_1⟩ := c2_ BK461) | (go_at_call 68; (with_reducible refine (spec_nbGood.calls k a1_0 a1_1 t463 _ A8.out).mono ?_); rintro e w13 ⟨rfl, hb⟩; replace BK460 := Aside0.mk (blk_below (pk BK460) hb); replace BK461 := Aside0.mk (blk_below (pk BK461) hb); replace HB := Aside0.mk (below_step (hk HB) hb); (try clear hb); (try clear hb2); (try clear hk); (try clear hi))); try go_wp2_with (first | (go_at_call 64; (with_reducible refine (spec_mxGood.calls k a0_0 a0_1 a0_2 a0_3 true _ A6.out).mono ?_); rintro e w11 ⟨rfl, hb⟩; replace BK460 := Aside0.mk (blk_below (pk BK460) hb); replace BK461 := Aside0.mk (blk_below (pk BK461) hb); replace HB := Aside0.mk (below_step (hk HB) hb); (try clear hb); (try clear hb2); (try clear hk); (try clear hi); obtain ⟨hcz12_0, hcz12_1, hfz12_0, hfz12_1⟩ := c2_ BK461) | (go_at_call 68; (with_reducible refine (spec_nbGood.calls k a1_0 a1_1 t463 _ A8.out).mono ?_); rintro e w13 ⟨rfl, hb⟩; replace BK460 := Aside0.mk (blk_below (pk BK460) hb); replace BK461 := Aside0.mk (blk_below (pk BK461) hb); replace HB := Aside0.mk (below_step (hk HB) hb); (try clear hb); (try clear hb2); (try clear hk); (try clear hi))))
   go_meet
   case rel => exact ⟨_, (!t463), (by first | rfl | (simp; done) | (simp [*]; done)), H', ⟨by first | omega | exact Nat.le_refl _⟩, ⟨pk BK460⟩, ⟨pk BK461⟩, ⟨by repeat (first | (with_reducible first | exact HB.out | apply below_alloc | apply pw_below_drewN | apply below_drew1 | refine below_set ?_ GE460.out | refine below_set ?_ GE461.out) | exact HB.out)⟩⟩
  ·replace c7 := Bool.eq_false_iff.mpr c7
   subst c7
   rw [if_neg (show ¬ (false = true) by decide)] at H
   have H' := Aside0.mk H
   clear H
   have hnb14 := NB460_461.out
   have hnc14 := NB461_460.out
   obtain ⟨hcz15_0, hcz15_1, hcz15_2, hcz15_3, hfz15_0, hfz15_1, hfz15_2, hfz15_3⟩ := c4_ BK460
   go_wp2_with (first | (go_at_call 64; (with_reducible refine (spec_mxGood.calls k a0_0 a0_1 a0_2 a0_3 false _ A6.out).mono ?_); rintro e w16 ⟨rfl, hb⟩; replace BK460 := Aside0.mk (blk_below (pk BK460) hb); replace BK461 := Aside0.mk (blk_below (pk BK461) hb); replace HB := Aside0.mk (below_step (hk HB) hb); (try clear hb); (try clear hb2); (try clear hk); (try clear hi)))
   repeat (go_quiet (first | (go_at_call 64; (with_reducible refine (spec_mxGood.calls k a0_0 a0_1 a0_2 a0_3 false _ A6.out).mono ?_); rintro e w16 ⟨rfl, hb⟩; replace BK460 := Aside0.mk (blk_below (pk BK460) hb); replace BK461 := Aside0.mk (blk_below (pk BK461) hb); replace HB := Aside0.mk (below_step (hk HB) hb); (try clear hb); (try clear hb2); (try clear hk); (try clear hi))); try go_wp2_with (first | (go_at_call 64; (with_reducible refine (spec_mxGood.calls k a0_0 a0_1 a0_2 a0_3 false _ A6.out).mono ?_); rintro e w16 ⟨rfl, hb⟩; replace BK460 := Aside0.mk (blk_below (pk BK460) hb); replace BK461 := Aside0.mk (blk_below (pk BK461) hb); replace HB := Aside0.mk (below_step (hk HB) hb); (try clear hb); (try clear hb2); (try clear hk); (try clear hi))))
   go_meet
   case rel => exact ⟨_, (true), (by first | rfl | (simp; done) | (simp [*]; done)), H', ⟨by first | omega | exact Nat.le_refl _⟩, ⟨pk BK460⟩, ⟨pk BK461⟩, ⟨by repeat (first | (with_reducible first | exact HB.out | apply below_alloc | apply pw_below_drewN | apply below_drew1 | refine below_set ?_ GE460.out | refine below_set ?_ GE461.out) | exact HB.out)⟩⟩
 case rest =>
  clear HC3
  try clear c1
  try clear c2
  try clear p2
  try clear c7
  try clear c9
  try clear c14
  try clear hcz10_0
  try clear hcz10_1
  try clear hcz10_2
  try clear hcz10_3
  try clear hcz12_0
  try clear hcz12_1
  try clear hcz15_0
  try clear hcz15_1
  try clear hcz15_2
  try clear hcz15_3
  try clear hfz10_0
  try clear hfz10_1
  try clear hfz10_2
  try clear hfz10_3
  try clear hfz12_0
  try clear hfz12_1
  try clear hfz15_0
  try clear hfz15_1
  try clear hfz15_2
  try clear hfz15_3
  obtain ⟨kq, x16_2, rfl, HA, HJ2, BK460, BK461, HB⟩ := hcut
  cases kq with
  | zero => exact absurd HA.out (by simp [spec_MoveFraction.j0])
  | succ kj2 =>
   have H := HA.out
   clear HA
   simp only [spec_MoveFraction.j0] at H
   by_cases c17 : x16_2 = true
   ·subst c17
    rw [if_pos rfl] at H
    simp only [Option.some.injEq, Prod.mk.injEq] at H
    obtain ⟨rfl, rfl, rfl⟩ := H
    go_wp2
    repeat (go_quiet (fail); try go_wp2)
    go_ret3
    exact ⟨eqr, hk HB⟩
   ·replace c17 := Bool.eq_false_iff.mpr c17
    subst c17
    rw [if_neg (show ¬ (false = true) by decide)] at H
    have HC18 := Aside0.mk H
    clear H
    have hnb19 := NB460_461.out
    have hnc19 := NB461_460.out
    obtain ⟨hcz20_0, hcz20_1, hcz20_2, hcz20_3, hfz20_0, hfz20_1, hfz20_2, hfz20_3⟩ := c4_ BK460
    obtain ⟨hcz21_0, hcz21_1, hfz21_0, hfz21_1⟩ := c2_ BK461
    go_upto_region 4 with (fail)
    repeat (go_quiet (fail); go_upto_region 4 with (fail))
    go_cut [48] (fun v48 wc => ∃ (kq : Nat) (x48_17 : Bool), v48 = .bool x48_17 ∧ Aside0 (spec_MoveFraction.j1 kq (wrap64 ((wrap64 (a0_0 * a1_0)) + (wrap64 (a0_1 * a1_1)))) (wrap64 ((wrap64 (a0_2 * a1_0)) + (wrap64 (a0_3 * a1_1)))) x48_17 = some (r1, r2, r3)) ∧ Aside0 (kq ≤ kj2) ∧ Aside0 (wc.heap[gb460]? = some (.cells #[.int .i64 a0_0, .int .i64 a0_1, .int .i64 a0_2, .int .i64 a0_3] 36 (0, 0))) ∧ Aside0 (wc.heap[gb461]? = some (.cells #[.int .i64 a1_0, .int .i64 a1_1] 43 (0, 0))) ∧ Aside0 (Below w.heap.size w wc))
    case first =>
     have H := HC18.out
     clear HC18
     by_cases c22 : (wrap64 ((wrap64 (a0_2 * a1_0)) + (wrap64 (a0_3 * a1_1)))) < 0
     ·rw [if_pos c22] at H
      have c22b0 : decide ((wrap64 ((wrap64 (a0_2 * a1_0)) + (wrap64 (a0_3 * a1_1)))) < 0) = true := decide_eq_true c22
      clear c22
      (first | rw [c22b0] | (simp only [i64_w, i32_w]; rw [c22b0]) | skip)
      have H' := Aside0.mk H
      clear H
      go_wp2
      repeat (go_quiet (fail); try go_wp2)
      go_meet
      case rel => exact ⟨_, (true), (by first | rfl | (simp; done) | (simp [*]; done)), H', ⟨by have := HJ2.out; first | omega | exact Nat.le_refl _⟩, ⟨pk BK460⟩, ⟨pk BK461⟩, ⟨by repeat (first | (with_reducible first | exact HB.out | apply below_alloc | apply pw_below_drewN | apply below_drew1 | refine below_set ?_ GE460.out | refine below_set ?_ GE461.out) | exact HB.out)⟩⟩
     ·rw [if_neg c22] at H
      have c22b0 : decide ((wrap64 ((wrap64 (a0_2 * a1_0)) + (wrap64 (a0_3 * a1_1)))) < 0) = false := decide_eq_false c22
      clear c22
      (first | rw [c22b0] | (simp only [i64_w, i32_w]; rw [c22b0]) | skip)
      by_cases c23 : (wrap64 ((wrap64 (a0_2 * a1_0)) + (wrap64 (a0_3 * a1_1)))) = 0
      ·rw [if_pos c23] at H
       have c23b0 : ((wrap64 ((wrap64 (a0_2 * a1_0)) + (wrap64 (a0_3 * a1_1)))) == 0) = true := beq_iff_eq.mpr c23
       have c23b1 : ((wrap64 ((wrap64 (a0_2 * a1_0)) + (wrap64 (a0_3 * a1_1)))) != 0) = false := bne_eq_false_iff_eq.mpr c23
       clear c23
       have H' := Aside0.mk H
       clear H
       go_wp2
       repeat (go_quiet (fail); try go_wp2)
       go_meet
       case rel => exact ⟨_, (decide ((wrap64 ((wrap64 (a0_0 * a1_0)) + (wrap64 (a0_1 * a1_1)))) < 0)), (by first | rfl | (simp; done) | (simp [*]; done)), H', ⟨by have := HJ2.out; first | omega | exact Nat.le_refl _⟩, ⟨pk BK460⟩, ⟨pk BK461⟩, ⟨by repeat (first | (with_reducible first | exact HB.out | apply below_alloc | apply pw_below_drewN | apply below_drew1 | refine below_set ?_ GE460.out | refine below_set ?_ GE461.out) | exact HB.out)⟩⟩
      ·rw [if_neg c23] at H
       have c23b0 : ((wrap64 ((wrap64 (a0_2 * a1_0)) + (wrap64 (a0_3 * a1_1)))) == 0) = false := beq_eq_false_iff_ne.mpr c23
       have c23b1 : ((wrap64 ((wrap64 (a0_2 * a1_0)) + (wrap64 (a0_3 * a1_1)))) != 0) = true := bne_iff_ne.mpr c23
       have H' := Aside0.mk H
       clear H
       go_wp2
       repeat (go_quiet (fail); try go_wp2)
       go_meet
       case rel => exact ⟨_, (false), (by first | rfl | (simp; done) | (simp [*]; done)), H', ⟨by have := HJ2.out; first | omega | exact Nat.le_refl _⟩, ⟨pk BK460⟩, ⟨pk BK461⟩, ⟨by repeat (first | (with_reducible first | exact HB.out | apply below_alloc | apply pw_below_drewN | apply below_drew1 | refine below_set ?_ GE460.out | refine below_set ?_ GE461.out) | exact HB.out)⟩⟩
    case rest =>
     clear HC18
     try clear c1
     try clear c2
     try clear p2
     try clear p6
     try clear c7
     try clear c9
     try clear c14
     try clear c17
     try clear c19
     try clear c21
     try clear c22
     try clear c22b0
     try clear c23
     try clear c23b0
     try clear c23b1
     try clear hcz10_0
     try clear hcz10_1
     try clear hcz10_2
     try clear hcz10_3
     try clear hcz12_0
     try clear hcz12_1
     try clear hcz15_0
     try clear hcz15_1
     try clear hcz15_2
     try clear hcz15_3
     try clear hcz20_0
     try clear hcz20_1
     try clear hcz20_2
     try clear hcz20_3
     try clear hcz21_0
     try clear hcz21_1
     try clear hfz10_0
     try clear hfz10_1
     try clear hfz10_2
     try clear hfz10_3
     try clear hfz12_0
     try clear hfz12_1
     try clear hfz15_0
     try clear hfz15_1
     try clear hfz15_2
     try clear hfz15_3
     try clear hfz20_0
     try clear hfz20_1
     try clear hfz20_2
     try clear hfz20_3
     try clear hfz21_0
     try clear hfz21_1
     try clear p2
     obtain ⟨kq, x48_17, rfl, HA, HJ17, BK460, BK461, HB⟩ := hcut
     cases kq with
     | zero => exact absurd HA.out (by simp [spec_MoveFraction.j1])
     | succ kj17 =>
      have H := HA.out
      clear HA
      simp only [spec_MoveFraction.j1] at H
      by_cases c24 : x48_17 = true
      ·subst c24
       rw [if_pos rfl] at H
       replace H := Option.bind_eq_some_iff.mp H
       obtain ⟨t464, A250, H⟩ := H
       have A25 := Aside0.mk A250
       clear A250
       by_cases c26 : t464 > 1000000000000000
       ·rw [if_pos c26] at H
        have c26b0 : decide (1000000000000000 < t464) = true := decide_eq_true c26
        clear c26
        simp only [Option.some.injEq, Prod.mk.injEq] at H
        obtain ⟨rfl, rfl, rfl⟩ := H
        go_wp2_with (first | (go_at_call 69; (with_reducible refine (spec_l1Abs.calls (wrap64 (-(wrap64 ((wrap64 (a0_0 * a1_0)) + (wrap64 (a0_1 * a1_1)))))) t464 _ A25.out).mono ?_); rintro e w' ⟨rfl, ⟨nd, rfl⟩⟩; (try first | exact ⟨rfl, _, World.drewN_drewN _ _ _⟩ | exact ⟨rfl, _, Eq.trans (World.drewN_drewN _ _ _) (congrArg (World.drewN _) (Nat.add_assoc _ _ _))⟩)))
        repeat (go_quiet (first | (go_at_call 69; (with_reducible refine (spec_l1Abs.calls (wrap64 (-(wrap64 ((wrap64 (a0_0 * a1_0)) + (wrap64 (a0_1 * a1_1)))))) t464 _ A25.out).mono ?_); rintro e w' ⟨rfl, ⟨nd, rfl⟩⟩; (try first | exact ⟨rfl, _, World.drewN_drewN _ _ _⟩ | exact ⟨rfl, _, Eq.trans (World.drewN_drewN _ _ _) (congrArg (World.drewN _) (Nat.add_assoc _ _ _))⟩))); try go_wp2_with (first | (go_at_call 69; (with_reducible refine (spec_l1Abs.calls (wrap64 (-(wrap64 ((wrap64 (a0_0 * a1_0)) + (wrap64 (a0_1 * a1_1)))))) t464 _ A25.out).mono ?_); rintro e w' ⟨rfl, ⟨nd, rfl⟩⟩; (try first | exact ⟨rfl, _, World.drewN_drewN _ _ _⟩ | exact ⟨rfl, _, Eq.trans (World.drewN_drewN _ _ _) (congrArg (World.drewN _) (Nat.add_assoc _ _ _))⟩))))
        go_ret3
        exact ⟨eqr, hk HB⟩
       ·rw [if_neg c26] at H
        have c26b0 : decide (1000000000000000 < t464) = false := decide_eq_false c26
        clear c26
        by_cases c27 : (wrap64 (-(wrap64 ((wrap64 (a0_2 * a1_0)) + (wrap64 (a0_3 * a1_1)))))) > 1000000000000000
        ·rw [if_pos c27] at H
         have c27b0 : decide (1000000000000000 < (wrap64 (-(wrap64 ((wrap64 (a0_2 * a1_0)) + (wrap64 (a0_3 * a1_1))))))) = true := decide_eq_true c27
         clear c27
         simp only [Option.some.injEq, Prod.mk.injEq] at H
         obtain ⟨rfl, rfl, rfl⟩ := H
         go_wp2_with (first | (go_at_call 69; (with_reducible refine (spec_l1Abs.calls (wrap64 (-(wrap64 ((wrap64 (a0_0 * a1_0)) + (wrap64 (a0_1 * a1_1)))))) t464 _ A25.out).mono ?_); rintro e w' ⟨rfl, ⟨nd, rfl⟩⟩; (try first | exact ⟨rfl, _, World.drewN_drewN _ _ _⟩ | exact ⟨rfl, _, Eq.trans (World.drewN_drewN _ _ _) (congrArg (World.drewN _) (Nat.add_assoc _ _ _))⟩)))
         repeat (go_quiet (first | (go_at_call 69; (with_reducible refine (spec_l1Abs.calls (wrap64 (-(wrap64 ((wrap64 (a0_0 * a1_0)) + (wrap64 (a0_1 * a1_1)))))) t464 _ A25.out).mono ?_); rintro e w' ⟨rfl, ⟨nd, rfl⟩⟩; (try first | exact ⟨rfl, _, World.drewN_drewN _ _ _⟩ | exact ⟨rfl, _, Eq.trans (World.drewN_drewN _ _ _) (congrArg (World.drewN _) (Nat.add_assoc _ _ _))⟩))); try go_wp2_with (first | (go_at_call 69; (with_reducible refine (spec_l1Abs.calls (wrap64 (-(wrap64 ((wrap64 (a0_0 * a1_0)) + (wrap64 (a0_1 * a1_1)))))) t464 _ A25.out).mono ?_); rintro e w' ⟨rfl, ⟨nd, rfl⟩⟩; (try first | exact ⟨rfl, _, World.drewN_drewN _ _ _⟩ | exact ⟨rfl, _, Eq.trans (World.drewN_drewN _ _ _) (congrArg (World.drewN _) (Nat.add_assoc _ _ _))⟩))))
         go_ret3
         exact ⟨eqr, hk HB⟩
        ·rw [if_neg c27] at H
         have c27b0 : decide (1000000000000000 < (wrap64 (-(wrap64 ((wrap64 (a0_2 * a1_0)) + (wrap64 (a0_3 * a1_1))))))) = false := decide_eq_false c27
         clear c27
         simp only [Option.some.injEq, Prod.mk.injEq] at H
         obtain ⟨rfl, rfl, rfl⟩ := H
         go_wp2_with (first | (go_at_call 69; (with_reducible refine (spec_l1Abs.calls (wrap64 (-(wrap64 ((wrap64 (a0_0 * a1_0)) + (wrap64 (a0_1 * a1_1)))))) t464 _ A25.out).mono ?_); rintro e w' ⟨rfl, ⟨nd, rfl⟩⟩; (try first | exact ⟨rfl, _, World.drewN_drewN _ _ _⟩ | exact ⟨rfl, _, Eq.trans (World.drewN_drewN _ _ _) (congrArg (World.drewN _) (Nat.add_assoc _ _ _))⟩)))
         repeat (go_quiet (first | (go_at_call 69; (with_reducible refine (spec_l1Abs.calls (wrap64 (-(wrap64 ((wrap64 (a0_0 * a1_0)) + (wrap64 (a0_1 * a1_1)))))) t464 _ A25.out).mono ?_); rintro e w' ⟨rfl, ⟨nd, rfl⟩⟩; (try first | exact ⟨rfl, _, World.drewN_drewN _ _ _⟩ | exact ⟨rfl, _, Eq.trans (World.drewN_drewN _ _ _) (congrArg (World.drewN _) (Nat.add_assoc _ _ _))⟩))); try go_wp2_with (first | (go_at_call 69; (with_reducible refine (spec_l1Abs.calls (wrap64 (-(wrap64 ((wrap64 (a0_0 * a1_0)) + (wrap64 (a0_1 * a1_1)))))) t464 _ A25.out).mono ?_); rintro e w' ⟨rfl, ⟨nd, rfl⟩⟩; (try first | exact ⟨rfl, _, World.drewN_drewN _ _ _⟩ | exact ⟨rfl, _, Eq.trans (World.drewN_drewN _ _ _) (congrArg (World.drewN _) (Nat.add_assoc _ _ _))⟩))))
         go_ret3
         exact ⟨eqr, hk HB⟩
      ·replace c24 := Bool.eq_false_iff.mpr c24
       subst c24
       rw [if_neg (show ¬ (false = true) by decide)] at H
       replace H := Option.bind_eq_some_iff.mp H
       obtain ⟨t465, A280, H⟩ := H
       have A28 := Aside0.mk A280
       clear A280
       by_cases c29 : t465 > 1000000000000000
       ·rw [if_pos c29] at H
        have c29b0 : decide (1000000000000000 < t465) = true := decide_eq_true c29
        clear c29
        simp only [Option.some.injEq, Prod.mk.injEq] at H
        obtain ⟨rfl, rfl, rfl⟩ := H
        go_wp2_with (first | (go_at_call 69; (with_reducible refine (spec_l1Abs.calls (wrap64 ((wrap64 (a0_0 * a1_0)) + (wrap64 (a0_1 * a1_1)))) t465 _ A28.out).mono ?_); rintro e w' ⟨rfl, ⟨nd, rfl⟩⟩; (try first | exact ⟨rfl, _, World.drewN_drewN _ _ _⟩ | exact ⟨rfl, _, Eq.trans (World.drewN_drewN _ _ _) (congrArg (World.drewN _) (Nat.add_assoc _ _ _))⟩)))
        repeat (go_quiet (first | (go_at_call 69; (with_reducible refine (spec_l1Abs.calls (wrap64 ((wrap64 (a0_0 * a1_0)) + (wrap64 (a0_1 * a1_1)))) t465 _ A28.out).mono ?_); rintro e w' ⟨rfl, ⟨nd, rfl⟩⟩; (try first | exact ⟨rfl, _, World.drewN_drewN _ _ _⟩ | exact ⟨rfl, _, Eq.trans (World.drewN_drewN _ _ _) (congrArg (World.drewN _) (Nat.add_assoc _ _ _))⟩))); try go_wp2_with (first | (go_at_call 69; (with_reducible refine (spec_l1Abs.calls (wrap64 ((wrap64 (a0_0 * a1_0)) + (wrap64 (a0_1 * a1_1)))) t465 _ A28.out).mono ?_); rintro e w' ⟨rfl, ⟨nd, rfl⟩⟩; (try first | exact ⟨rfl, _, World.drewN_drewN _ _ _⟩ | exact ⟨rfl, _, Eq.trans (World.drewN_drewN _ _ _) (congrArg (World.drewN _) (Nat.add_assoc _ _ _))⟩))))
        go_ret3
        exact ⟨eqr, hk HB⟩
       ·rw [if_neg c29] at H
        have c29b0 : decide (1000000000000000 < t465) = false := decide_eq_false c29
        clear c29
        by_cases c30 : (wrap64 ((wrap64 (a0_2 * a1_0)) + (wrap64 (a0_3 * a1_1)))) > 1000000000000000
        ·rw [if_pos c30] at H
         have c30b0 : decide (1000000000000000 < (wrap64 ((wrap64 (a0_2 * a1_0)) + (wrap64 (a0_3 * a1_1))))) = true := decide_eq_true c30
         clear c30
         simp only [Option.some.injEq, Prod.mk.injEq] at H
         obtain ⟨rfl, rfl, rfl⟩ := H
         go_wp2_with (first | (go_at_call 69; (with_reducible refine (spec_l1Abs.calls (wrap64 ((wrap64 (a0_0 * a1_0)) + (wrap64 (a0_1 * a1_1)))) t465 _ A28.out).mono ?_); rintro e w' ⟨rfl, ⟨nd, rfl⟩⟩; (try first | exact ⟨rfl, _, World.drewN_drewN _ _ _⟩ | exact ⟨rfl, _, Eq.trans (World.drewN_drewN _ _ _) (congrArg (World.drewN _) (Nat.add_assoc _ _ _))⟩)))
         repeat (go_quiet (first | (go_at_call 69; (with_reducible refine (spec_l1Abs.calls (wrap64 ((wrap64 (a0_0 * a1_0)) + (wrap64 (a0_1 * a1_1)))) t465 _ A28.out).mono ?_); rintro e w' ⟨rfl, ⟨nd, rfl⟩⟩; (try first | exact ⟨rfl, _, World.drewN_drewN _ _ _⟩ | exact ⟨rfl, _, Eq.trans (World.drewN_drewN _ _ _) (congrArg (World.drewN _) (Nat.add_assoc _ _ _))⟩))); try go_wp2_with (first | (go_at_call 69; (with_reducible refine (spec_l1Abs.calls (wrap64 ((wrap64 (a0_0 * a1_0)) + (wrap64 (a0_1 * a1_1)))) t465 _ A28.out).mono ?_); rintro e w' ⟨rfl, ⟨nd, rfl⟩⟩; (try first | exact ⟨rfl, _, World.drewN_drewN _ _ _⟩ | exact ⟨rfl, _, Eq.trans (World.drewN_drewN _ _ _) (congrArg (World.drewN _) (Nat.add_assoc _ _ _))⟩))))
         go_ret3
         exact ⟨eqr, hk HB⟩
        ·rw [if_neg c30] at H
         have c30b0 : decide (1000000000000000 < (wrap64 ((wrap64 (a0_2 * a1_0)) + (wrap64 (a0_3 * a1_1))))) = false := decide_eq_false c30
         clear c30
         simp only [Option.some.injEq, Prod.mk.injEq] at H
         obtain ⟨rfl, rfl, rfl⟩ := H
         go_wp2_with (first | (go_at_call 69; (with_reducible refine (spec_l1Abs.calls (wrap64 ((wrap64 (a0_0 * a1_0)) + (wrap64 (a0_1 * a1_1)))) t465 _ A28.out).mono ?_); rintro e w' ⟨rfl, ⟨nd, rfl⟩⟩; (try first | exact ⟨rfl, _, World.drewN_drewN _ _ _⟩ | exact ⟨rfl, _, Eq.trans (World.drewN_drewN _ _ _) (congrArg (World.drewN _) (Nat.add_assoc _ _ _))⟩)))
         repeat (go_quiet (first | (go_at_call 69; (with_reducible refine (spec_l1Abs.calls (wrap64 ((wrap64 (a0_0 * a1_0)) + (wrap64 (a0_1 * a1_1)))) t465 _ A28.out).mono ?_); rintro e w' ⟨rfl, ⟨nd, rfl⟩⟩; (try first | exact ⟨rfl, _, World.drewN_drewN _ _ _⟩ | exact ⟨rfl, _, Eq.trans (World.drewN_drewN _ _ _) (congrArg (World.drewN _) (Nat.add_assoc _ _ _))⟩))); try go_wp2_with (first | (go_at_call 69; (with_reducible refine (spec_l1Abs.calls (wrap64 ((wrap64 (a0_0 * a1_0)) + (wrap64 (a0_1 * a1_1)))) t465 _ A28.out).mono ?_); rintro e w' ⟨rfl, ⟨nd, rfl⟩⟩; (try first | exact ⟨rfl, _, World.drewN_drewN _ _ _⟩ | exact ⟨rfl, _, Eq.trans (World.drewN_drewN _ _ _) (congrArg (World.drewN _) (Nat.add_assoc _ _ _))⟩))))
         go_ret3
         exact ⟨eqr, hk HB⟩

end Go.Proofs.YtdclgghdilbheaaDoor.P

-- By a program of this session.
namespace Go.Proofs.YtdclgghdilbheaaDoor.P
open Go.RowKit Go.Proofs.YtdclgghdilbheaaDoorW.PrintWords Go.Proofs.YtdclgghdilbheaaDoorW.PrintLast Go.Proofs.YtdclgghdilbheaaDoorW.PrintMore
attribute [local go_sem] max2_int min2_int max_two min_two max_three min_three max_four min_four
set_option linter.unusedVariables false
set_option linter.unusedSimpArgs false

/-! ### impl_inverse: function 70 -/
def impl_inverse.f (a0_0 : Int) (a0_1 : Int) (a0_2 : Int) (a0_3 : Int) : Option (Int × Int × Int × Int) := some (a0_3, wrap64 (-a0_1), wrap64 (-a0_2), a0_0)
set_option maxHeartbeats 8000000 in
set_option maxRecDepth 100000 in
theorem impl_inverse.calls (a0_0 : Int) (a0_1 : Int) (a0_2 : Int) (a0_3 : Int) (r1 : Int) (r2 : Int) (r3 : Int) (r4 : Int) (w : World) (h : impl_inverse.f a0_0 a0_1 a0_2 a0_3 = some (r1, r2, r3, r4)) :
  Calls Tryd.prog 70 #[.agg #[.int .i64 a0_0, .int .i64 a0_1, .int .i64 a0_2, .int .i64 a0_3]] w fun e w' => e = .returned (.agg #[.int .i64 r1, .int .i64 r2, .int .i64 r3, .int .i64 r4]) ∧ Below w.heap.size w w' := by
 have hu36 := Tryd.underlying36
 have HB := Aside0.mk (Below.refl w.heap.size w)
 have H : (some (a0_3, wrap64 (-a0_1), wrap64 (-a0_2), a0_0)) = some (r1, r2, r3, r4) := h
 clear h
 simp only [Option.some.injEq, Prod.mk.injEq] at H
 obtain ⟨rfl, rfl, rfl, rfl⟩ := H
 go_enter Tryd.func70, Tryd.ntmps70
 go_wp2_with (first | ((with_reducible refine gate_dst (N := 1) rfl ?_); refine box_ 1 #[.int .i64 a0_0, .int .i64 a0_1, .int .i64 a0_2, .int .i64 a0_3] 36 ?_; intro gb466 hg w2 hbox hb; have BK466 := Aside0.mk (hbox); have GW466 := Aside0.mk ((by rw [hg]; exact (below_size (hk HB)) : w.heap.size ≤ gb466)); have GE466 := Aside0.mk ((by rw [hg]; exact (below_size (hk HB)) : w.heap.size ≤ gb466)); replace HB := Aside0.mk (below_step (hk HB) hb); clear hb hbox hg) | ((with_reducible refine gate_dst (N := 2) rfl ?_); refine box_ 2 #[.int .i64 0, .int .i64 0, .int .i64 0, .int .i64 0] 36 ?_; intro gb467 hg w3 hbox hb; have BK467 := Aside0.mk (hbox); have GW467 := Aside0.mk ((by rw [hg]; exact (below_size (hk HB)) : w.heap.size ≤ gb467)); have GE467 := Aside0.mk ((by rw [hg]; exact (below_size (hk HB)) : w.heap.size ≤ gb467)); have NB466_467 := Aside0.mk ((by rw [hg]; exact Nat.ne_of_lt (blk_lt (pk BK466)) : gb466 ≠ gb467)); have NB467_466 := Aside0.mk ((by rw [hg]; exact Nat.ne_of_gt (blk_lt (pk BK466)) : gb467 ≠ gb466)); replace BK466 := Aside0.mk (blk_below (pk BK466) hb); replace HB := Aside0.mk (below_step (hk HB) hb); clear hb hbox hg; have hnb4 := NB466_467.out; have hnc4 := NB467_466.out; obtain ⟨hcz5_0, hcz5_1, hcz5_2, hcz5_3, hfz5_0, hfz5_1, hfz5_2, hfz5_3⟩ := c4_ BK466; obtain ⟨hcz6_0, hcz6_1, hcz6_2, hcz6_3, hfz6_0, hfz6_1, hfz6_2, hfz6_3⟩ := c4_ BK467))
 refine bodyPost_ret (results_cell_row rfl _ _ gb467 36 #[.int .i64 a0_3, .int .i64 (wrap64 (-a0_1)), .int .i64 (wrap64 (-a0_2)), .int .i64 a0_0] (0, 0) _ rfl (by (with_reducible repeat (first | refine blk_drewN ?_ _ | refine blk_drew ?_ | refine blk_alloc ?_ _)); refine blk_put (cs := #[.int .i64 a0_3, .int .i64 (wrap64 (-a0_1)), .int .i64 (wrap64 (-a0_2)), .int .i64 0]) ?_ 3 _ rfl; (with_reducible repeat (first | refine blk_drewN ?_ _ | refine blk_drew ?_ | refine blk_alloc ?_ _)); refine blk_put (cs := #[.int .i64 a0_3, .int .i64 (wrap64 (-a0_1)), .int .i64 0, .int .i64 0]) ?_ 2 _ rfl; (with_reducible repeat (first | refine blk_drewN ?_ _ | refine blk_drew ?_ | refine blk_alloc ?_ _)); refine blk_put (cs := #[.int .i64 a0_3, .int .i64 0, .int .i64 0, .int .i64 0]) ?_ 1 _ rfl; (with_reducible repeat (first | refine blk_drewN ?_ _ | refine blk_drew ?_ | refine blk_alloc ?_ _)); refine blk_put (cs := #[.int .i64 0, .int .i64 0, .int .i64 0, .int .i64 0]) ?_ 0 _ rfl; exact pk BK467) Tryd.underlying36 rfl (by kernel_rfl)) rfl ?_
 exact ⟨eqr, hk HB⟩

end Go.Proofs.YtdclgghdilbheaaDoor.P

-- By a program of this session.
namespace Go.Proofs.YtdclgghdilbheaaDoor.P
open Go.RowKit Go.Proofs.YtdclgghdilbheaaDoorW.PrintWords Go.Proofs.YtdclgghdilbheaaDoorW.PrintLast Go.Proofs.YtdclgghdilbheaaDoorW.PrintMore
attribute [local go_sem] max2_int min2_int max_two min_two max_three min_three max_four min_four
set_option linter.unusedVariables false
set_option linter.unusedSimpArgs false

/-! ### impl_InverseMatrix: function 22 -/
def impl_InverseMatrix.f (a0_0 : Int) (a0_1 : Int) (a0_2 : Int) (a0_3 : Int) : Option (Int × Int × Int × Int × Bool) := (impl_IsMatrix.f a0_0 a0_1 a0_2 a0_3).bind fun t470 => (if t470 = true then ((impl_inverse.f a0_0 a0_1 a0_2 a0_3).bind fun bt471 => (some (bt471.1, bt471.2.1, bt471.2.2.1, bt471.2.2.2, true))) else (some (0, 0, 0, 0, false)))
set_option maxHeartbeats 8000000 in
set_option maxRecDepth 100000 in
theorem impl_InverseMatrix.calls (a0_0 : Int) (a0_1 : Int) (a0_2 : Int) (a0_3 : Int) (r1 : Int) (r2 : Int) (r3 : Int) (r4 : Int) (r5 : Bool) (w : World) (h : impl_InverseMatrix.f a0_0 a0_1 a0_2 a0_3 = some (r1, r2, r3, r4, r5)) :
  Calls Tryd.prog 22 #[.agg #[.int .i64 a0_0, .int .i64 a0_1, .int .i64 a0_2, .int .i64 a0_3]] w fun e w' => e = .returned (.tuple #[.agg #[.int .i64 r1, .int .i64 r2, .int .i64 r3, .int .i64 r4], .bool r5]) ∧ Below w.heap.size w w' := by
 have hu36 := Tryd.underlying36
 have HB := Aside0.mk (Below.refl w.heap.size w)
 have H := h
 clear h
 unfold impl_InverseMatrix.f at H
 replace H := Option.bind_eq_some_iff.mp H
 obtain ⟨t470, A20, H⟩ := H
 have A2 := Aside0.mk A20
 clear A20
 by_cases c3 : t470 = true
 ·subst c3
  rw [if_pos rfl] at H
  replace H := Option.bind_eq_some_iff.mp H
  obtain ⟨⟨t471, t472, t473, t474⟩, A40, H⟩ := H
  try dsimp only at H
  have A4 := Aside0.mk A40
  clear A40
  simp only [Option.some.injEq, Prod.mk.injEq] at H
  obtain ⟨rfl, rfl, rfl, rfl, rfl⟩ := H
  go_enter Tryd.func22, Tryd.ntmps22
  go_wp2_with (first | ((with_reducible refine gate_dst (N := 1) rfl ?_); refine box_ 1 #[.int .i64 a0_0, .int .i64 a0_1, .int .i64 a0_2, .int .i64 a0_3] 36 ?_; intro gb468 hg w5 hbox hb; have BK468 := Aside0.mk (hbox); have GW468 := Aside0.mk ((by rw [hg]; exact (below_size (hk HB)) : w.heap.size ≤ gb468)); have GE468 := Aside0.mk ((by rw [hg]; exact (below_size (hk HB)) : w.heap.size ≤ gb468)); replace HB := Aside0.mk (below_step (hk HB) hb); clear hb hbox hg) | ((with_reducible refine gate_dst (N := 2) rfl ?_); refine box_ 2 #[.int .i64 0, .int .i64 0, .int .i64 0, .int .i64 0] 36 ?_; intro gb469 hg w6 hbox hb; have BK469 := Aside0.mk (hbox); have GW469 := Aside0.mk ((by rw [hg]; exact (below_size (hk HB)) : w.heap.size ≤ gb469)); have GE469 := Aside0.mk ((by rw [hg]; exact (below_size (hk HB)) : w.heap.size ≤ gb469)); have NB468_469 := Aside0.mk ((by rw [hg]; exact Nat.ne_of_lt (blk_lt (pk BK468)) : gb468 ≠ gb469)); have NB469_468 := Aside0.mk ((by rw [hg]; exact Nat.ne_of_gt (blk_lt (pk BK468)) : gb469 ≠ gb468)); replace BK468 := Aside0.mk (blk_below (pk BK468) hb); replace HB := Aside0.mk (below_step (hk HB) hb); clear hb hbox hg; have hnb7 := NB468_469.out; have hnc7 := NB469_468.out; obtain ⟨hcz8_0, hcz8_1, hcz8_2, hcz8_3, hfz8_0, hfz8_1, hfz8_2, hfz8_3⟩ := c4_ BK468) | ((with_reducible refine gate_callee (f := 26) rfl ?_); refine gof_ (some 5) Tryd.func26 #[.agg #[.int .i64 a0_0, .int .i64 a0_1, .int .i64 a0_2, .int .i64 a0_3]] ?_; (with_reducible refine (impl_IsMatrix.calls a0_0 a0_1 a0_2 a0_3 true _ A2.out).mono ?_); rintro e w9 ⟨rfl, hb⟩; refine ⟨_, rfl, ?_⟩; replace BK468 := Aside0.mk (blk_below (pk BK468) hb); replace BK469 := Aside0.mk (blk_below (pk BK469) hb); replace HB := Aside0.mk (below_step (hk HB) hb); (try clear hb); (try clear hb2); (try clear hk); (try clear hi); obtain ⟨hcz10_0, hcz10_1, hcz10_2, hcz10_3, hfz10_0, hfz10_1, hfz10_2, hfz10_3⟩ := c4_ BK468) | ((with_reducible refine gate_callee (f := 70) rfl ?_); refine gof_ (some 9) Tryd.func70 #[.agg #[.int .i64 a0_0, .int .i64 a0_1, .int .i64 a0_2, .int .i64 a0_3]] ?_; (with_reducible refine (impl_inverse.calls a0_0 a0_1 a0_2 a0_3 t471 t472 t473 t474 _ A4.out).mono ?_); rintro e w11 ⟨rfl, hb⟩; refine ⟨_, rfl, ?_⟩; replace BK468 := Aside0.mk (blk_below (pk BK468) hb); replace BK469 := Aside0.mk (blk_below (pk BK469) hb); replace HB := Aside0.mk (below_step (hk HB) hb); (try clear hb); (try clear hb2); (try clear hk); (try clear hi); obtain ⟨hcz12_0, hcz12_1, hcz12_2, hcz12_3, hfz12_0, hfz12_1, hfz12_2, hfz12_3⟩ := c4_ BK469))
  refine bodyPost_ret (results_ct rfl _ _ gb469 36 #[.int .i64 t471, .int .i64 t472, .int .i64 t473, .int .i64 t474] (0, 0) _ rfl (by (with_reducible repeat (first | refine blk_drewN ?_ _ | refine blk_drew ?_ | refine blk_alloc ?_ _)); refine blk_put (cs := #[.int .i64 t471, .int .i64 t472, .int .i64 t473, .int .i64 0]) ?_ 3 _ rfl; (with_reducible repeat (first | refine blk_drewN ?_ _ | refine blk_drew ?_ | refine blk_alloc ?_ _)); refine blk_put (cs := #[.int .i64 t471, .int .i64 t472, .int .i64 0, .int .i64 0]) ?_ 2 _ rfl; (with_reducible repeat (first | refine blk_drewN ?_ _ | refine blk_drew ?_ | refine blk_alloc ?_ _)); refine blk_put (cs := #[.int .i64 t471, .int .i64 0, .int .i64 0, .int .i64 0]) ?_ 1 _ rfl; (with_reducible repeat (first | refine blk_drewN ?_ _ | refine blk_drew ?_ | refine blk_alloc ?_ _)); refine blk_put (cs := #[.int .i64 0, .int .i64 0, .int .i64 0, .int .i64 0]) ?_ 0 _ rfl; exact pk BK469) Tryd.underlying36 rfl (by kernel_rfl)) rfl ?_
  exact ⟨eqr, hk HB⟩
 ·replace c3 := Bool.eq_false_iff.mpr c3
  subst c3
  rw [if_neg (show ¬ (false = true) by decide)] at H
  simp only [Option.some.injEq, Prod.mk.injEq] at H
  obtain ⟨rfl, rfl, rfl, rfl, rfl⟩ := H
  go_enter Tryd.func22, Tryd.ntmps22
  go_wp2_with (first | ((with_reducible refine gate_dst (N := 1) rfl ?_); refine box_ 1 #[.int .i64 a0_0, .int .i64 a0_1, .int .i64 a0_2, .int .i64 a0_3] 36 ?_; intro gb468 hg w13 hbox hb; have BK468 := Aside0.mk (hbox); have GW468 := Aside0.mk ((by rw [hg]; exact (below_size (hk HB)) : w.heap.size ≤ gb468)); have GE468 := Aside0.mk ((by rw [hg]; exact (below_size (hk HB)) : w.heap.size ≤ gb468)); replace HB := Aside0.mk (below_step (hk HB) hb); clear hb hbox hg) | ((with_reducible refine gate_dst (N := 2) rfl ?_); refine box_ 2 #[.int .i64 0, .int .i64 0, .int .i64 0, .int .i64 0] 36 ?_; intro gb469 hg w14 hbox hb; have BK469 := Aside0.mk (hbox); have GW469 := Aside0.mk ((by rw [hg]; exact (below_size (hk HB)) : w.heap.size ≤ gb469)); have GE469 := Aside0.mk ((by rw [hg]; exact (below_size (hk HB)) : w.heap.size ≤ gb469)); have NB468_469 := Aside0.mk ((by rw [hg]; exact Nat.ne_of_lt (blk_lt (pk BK468)) : gb468 ≠ gb469)); have NB469_468 := Aside0.mk ((by rw [hg]; exact Nat.ne_of_gt (blk_lt (pk BK468)) : gb469 ≠ gb468)); replace BK468 := Aside0.mk (blk_below (pk BK468) hb); replace HB := Aside0.mk (below_step (hk HB) hb); clear hb hbox hg; have hnb15 := NB468_469.out; have hnc15 := NB469_468.out; obtain ⟨hcz16_0, hcz16_1, hcz16_2, hcz16_3, hfz16_0, hfz16_1, hfz16_2, hfz16_3⟩ := c4_ BK468) | ((with_reducible refine gate_callee (f := 26) rfl ?_); refine gof_ (some 5) Tryd.func26 #[.agg #[.int .i64 a0_0, .int .i64 a0_1, .int .i64 a0_2, .int .i64 a0_3]] ?_; (with_reducible refine (impl_IsMatrix.calls a0_0 a0_1 a0_2 a0_3 false _ A2.out).mono ?_); rintro e w17 ⟨rfl, hb⟩; refine ⟨_, rfl, ?_⟩; replace BK468 := Aside0.mk (blk_below (pk BK468) hb); replace BK469 := Aside0.mk (blk_below (pk BK469) hb); replace HB := Aside0.mk (below_step (hk HB) hb); (try clear hb); (try clear hb2); (try clear hk); (try clear hi); obtain ⟨hcz18_0, hcz18_1, hcz18_2, hcz18_3, hfz18_0, hfz18_1, hfz18_2, hfz18_3⟩ := c4_ BK469))
  refine bodyPost_ret (results_ct rfl _ _ gb469 36 #[.int .i64 0, .int .i64 0, .int .i64 0, .int .i64 0] (0, 0) _ rfl (by (with_reducible repeat (first | refine blk_drewN ?_ _ | refine blk_drew ?_ | refine blk_alloc ?_ _)); refine blk_put (cs := #[.int .i64 0, .int .i64 0, .int .i64 0, .int .i64 0]) ?_ 3 _ rfl; (with_reducible repeat (first | refine blk_drewN ?_ _ | refine blk_drew ?_ | refine blk_alloc ?_ _)); refine blk_put (cs := #[.int .i64 0, .int .i64 0, .int .i64 0, .int .i64 0]) ?_ 2 _ rfl; (with_reducible repeat (first | refine blk_drewN ?_ _ | refine blk_drew ?_ | refine blk_alloc ?_ _)); refine blk_put (cs := #[.int .i64 0, .int .i64 0, .int .i64 0, .int .i64 0]) ?_ 1 _ rfl; (with_reducible repeat (first | refine blk_drewN ?_ _ | refine blk_drew ?_ | refine blk_alloc ?_ _)); refine blk_put (cs := #[.int .i64 0, .int .i64 0, .int .i64 0, .int .i64 0]) ?_ 0 _ rfl; exact pk BK469) Tryd.underlying36 rfl (by kernel_rfl)) rfl ?_
  exact ⟨eqr, hk HB⟩

end Go.Proofs.YtdclgghdilbheaaDoor.P

-- By a program of this session.
namespace Go.Proofs.YtdclgghdilbheaaDoor.P
open Go.RowKit Go.Proofs.YtdclgghdilbheaaDoorW.PrintWords Go.Proofs.YtdclgghdilbheaaDoorW.PrintLast Go.Proofs.YtdclgghdilbheaaDoorW.PrintMore
attribute [local go_sem] max2_int min2_int max_two min_two max_three min_three max_four min_four
set_option linter.unusedVariables false
set_option linter.unusedSimpArgs false

attribute [local go_sem high] eqA36
/-! ### laws_FnWordsTold: function 4 -/
mutual
def laws_FnWordsTold.j0 : Nat → List Int → ByteArray → Bool → Bool → Int → Int → Int → Int → Option (Bool)
 | 0, _, _, _, _, _, _, _, _ => none
 | k + 1, x1, x5, x7, x62, x483000, x483001, x483002, x483003 => if x62 = true then (some false) else (if x7 = true then ((impl_WordOfMatrix.f k x483000 x483001 x483002 x483003).bind fun bt489 => (if bt489.2 = true then (if bt489.1.toList = x5.toList then (if x483000 < 0 then (laws_FnWordsTold.j1 k x1 x5 true x483000 x483001 x483002 x483003) else (if x483001 < 0 then (laws_FnWordsTold.j1 k x1 x5 true x483000 x483001 x483002 x483003) else (if x483002 < 0 then (laws_FnWordsTold.j1 k x1 x5 true x483000 x483001 x483002 x483003) else (laws_FnWordsTold.j1 k x1 x5 (decide (x483003 < 0)) x483000 x483001 x483002 x483003)))) else (laws_FnWordsTold.j1 k x1 x5 true x483000 x483001 x483002 x483003)) else (laws_FnWordsTold.j1 k x1 x5 true x483000 x483001 x483002 x483003))) else (laws_FnWordsTold.j2 k x1))
def laws_FnWordsTold.j2 : Nat → List Int → Option (Bool)
 | 0, _ => none
 | k + 1, x1 => (spec_DrawWordOfMatrix.f k x1).bind fun bt509 => ((impl_WordOfMatrix.f k bt509.1 bt509.2.1 bt509.2.2.1 bt509.2.2.2).bind fun bt514 => ((spec_WordOfMatrix.f k bt509.1 bt509.2.1 bt509.2.2.1 bt509.2.2.2).bind fun bt516 => ((spec_DrawMoveFraction.f k x1).bind fun bt518 => ((impl_MoveFraction.f k bt518.1 bt518.2.1 bt518.2.2.1 bt518.2.2.2.1 bt518.2.2.2.2.1 bt518.2.2.2.2.2).bind fun bt526 => ((spec_MoveFraction.f k bt518.1 bt518.2.1 bt518.2.2.1 bt518.2.2.2.1 bt518.2.2.2.2.1 bt518.2.2.2.2.2).bind fun bt529 => (if (bt514.2 != bt516.2) = true then (laws_FnWordsTold.j3 k bt514.1 bt514.2 bt526.1 bt526.2.1 bt526.2.2 true bt509.1 bt509.2.1 bt509.2.2.1 bt509.2.2.2 bt518.1 bt518.2.1 bt518.2.2.1 bt518.2.2.2.1 bt518.2.2.2.2.1 bt518.2.2.2.2.2) else (if bt514.1.toList = bt516.1.toList then (if (bt526.2.2 != bt529.2.2) = true then (laws_FnWordsTold.j3 k bt514.1 bt514.2 bt526.1 bt526.2.1 bt526.2.2 true bt509.1 bt509.2.1 bt509.2.2.1 bt509.2.2.2 bt518.1 bt518.2.1 bt518.2.2.1 bt518.2.2.2.1 bt518.2.2.2.2.1 bt518.2.2.2.2.2) else (if bt526.1 = bt529.1 then (laws_FnWordsTold.j3 k bt514.1 bt514.2 bt526.1 bt526.2.1 bt526.2.2 (bt526.2.1 != bt529.2.1) bt509.1 bt509.2.1 bt509.2.2.1 bt509.2.2.2 bt518.1 bt518.2.1 bt518.2.2.1 bt518.2.2.2.1 bt518.2.2.2.2.1 bt518.2.2.2.2.2) else (laws_FnWordsTold.j3 k bt514.1 bt514.2 bt526.1 bt526.2.1 bt526.2.2 true bt509.1 bt509.2.1 bt509.2.2.1 bt509.2.2.2 bt518.1 bt518.2.1 bt518.2.2.1 bt518.2.2.2.1 bt518.2.2.2.2.1 bt518.2.2.2.2.2))) else (laws_FnWordsTold.j3 k bt514.1 bt514.2 bt526.1 bt526.2.1 bt526.2.2 true bt509.1 bt509.2.1 bt509.2.2.1 bt509.2.2.2 bt518.1 bt518.2.1 bt518.2.2.1 bt518.2.2.2.1 bt518.2.2.2.2.1 bt518.2.2.2.2.2))))))))
def laws_FnWordsTold.j3 : Nat → ByteArray → Bool → Int → Int → Bool → Bool → Int → Int → Int → Int → Int → Int → Int → Int → Int → Int → Option (Bool)
 | 0, _, _, _, _, _, _, _, _, _, _, _, _, _, _, _, _ => none
 | k + 1, x20, x21, x26, x27, x28, x187, x514000, x514001, x514002, x514003, x525000, x525001, x525002, x525003, x526000, x526001 => if x187 = true then (some false) else (if x21 = true then ((impl_MatrixOfWord.f k x20).bind fun bt532 => (if bt532.2.2.2.2 = true then (if (!(bt532.1 == x514000) || (!(bt532.2.1 == x514001) || (!(bt532.2.2.1 == x514002) || (!(bt532.2.2.2.1 == x514003))))) = true then (some false) else (laws_FnWordsTold.j4 k x26 x27 x28 x525000 x525001 x525002 x525003 x526000 x526001)) else (some false))) else (laws_FnWordsTold.j4 k x26 x27 x28 x525000 x525001 x525002 x525003 x526000 x526001))
def laws_FnWordsTold.j4 : Nat → Int → Int → Bool → Int → Int → Int → Int → Int → Int → Option (Bool)
 | 0, _, _, _, _, _, _, _, _, _ => none
 | k + 1, x26, x27, x28, x525000, x525001, x525002, x525003, x526000, x526001 => if x28 = true then (if x27 < 0 then (laws_FnWordsTold.j5 k x26 x27 true x525000 x525001 x525002 x525003 x526000 x526001) else (if x27 = 0 then (laws_FnWordsTold.j5 k x26 x27 (x26 != 1) x525000 x525001 x525002 x525003 x526000 x526001) else (laws_FnWordsTold.j5 k x26 x27 false x525000 x525001 x525002 x525003 x526000 x526001))) else (some true)
def laws_FnWordsTold.j5 : Nat → Int → Int → Bool → Int → Int → Int → Int → Int → Int → Option (Bool)
 | 0, _, _, _, _, _, _, _, _, _ => none
 | k + 1, x26, x27, x211, x525000, x525001, x525002, x525003, x526000, x526001 => if x211 = true then (some false) else (if x26 ≥ 0 then (if x26 ≤ 1000000 then (laws_FnWordsTold.j6 k x26 x27 (decide (x27 ≤ 1000000)) x525000 x525001 x525002 x525003 x526000 x526001) else (laws_FnWordsTold.j6 k x26 x27 false x525000 x525001 x525002 x525003 x526000 x526001)) else (laws_FnWordsTold.j6 k x26 x27 false x525000 x525001 x525002 x525003 x526000 x526001))
def laws_FnWordsTold.j6 : Nat → Int → Int → Bool → Int → Int → Int → Int → Int → Int → Option (Bool)
 | 0, _, _, _, _, _, _, _, _, _ => none
 | k + 1, x26, x27, x221, x525000, x525001, x525002, x525003, x526000, x526001 => if x221 = true then ((impl_InverseMatrix.f x525000 x525001 x525002 x525003).bind fun bt539 => ((impl_MoveFraction.f k bt539.1 bt539.2.1 bt539.2.2.1 bt539.2.2.2.1 x26 x27).bind fun bt545 => ((impl_IsFraction.f k x26 x27).bind fun t548 => (if t548 = true then (if bt539.2.2.2.2 = true then (if bt545.2.2 = true then (if bt545.1 = x526000 then (if bt545.2.1 = x526001 then (some true) else (some false)) else (some false)) else (some false)) else (some false)) else (some false))))) else (some true)
def laws_FnWordsTold.j1 : Nat → List Int → ByteArray → Bool → Int → Int → Int → Int → Option (Bool)
 | 0, _, _, _, _, _, _, _ => none
 | k + 1, x1, x5, x95, x483000, x483001, x483002, x483003 => if x95 = true then (some false) else (if 0 ≤ (wrap64 ((x5.size : Int) / 2)) then (if (wrap64 ((x5.size : Int) / 2)) ≤ (x5.size : Int) then ((impl_MatrixOfWord.f k (x5.extract 0 ((wrap64 ((x5.size : Int) / 2)) : Int).toNat)).bind fun bt491 => ((impl_MatrixOfWord.f k (x5.extract ((wrap64 ((x5.size : Int) / 2)) : Int).toNat x5.size)).bind fun bt497 => ((impl_TimesMatrix.f k bt491.1 bt491.2.1 bt491.2.2.1 bt491.2.2.2.1 bt497.1 bt497.2.1 bt497.2.2.1 bt497.2.2.2.1).bind fun bt503 => (if bt491.2.2.2.2 = true then (if bt497.2.2.2.2 = true then (if bt503.2.2.2.2 = true then (if (!(bt503.1 == x483000) || (!(bt503.2.1 == x483001) || (!(bt503.2.2.1 == x483002) || (!(bt503.2.2.2.1 == x483003))))) = true then (some false) else (laws_FnWordsTold.j2 k x1)) else (some false)) else (some false)) else (some false))))) else (none)) else (none))
end
def laws_FnWordsTold.f (k : Nat) (l0 : List Int) (l1 : List Int) : Option (Bool) := (laws_big.f l0 l1).bind fun t475 => (if t475 = true then (some true) else ((spec_DrawMatrixOfWord.f k l0).bind fun t476 => ((impl_MatrixOfWord.f k t476).bind fun bt477 => ((spec_MatrixOfWord.f k t476).bind fun bt483 => (if (bt477.2.2.2.2 != bt483.2.2.2.2) = true then (laws_FnWordsTold.j0 k l1 t476 bt477.2.2.2.2 true bt477.1 bt477.2.1 bt477.2.2.1 bt477.2.2.2.1) else (laws_FnWordsTold.j0 k l1 t476 bt477.2.2.2.2 (!(bt477.1 == bt483.1) || (!(bt477.2.1 == bt483.2.1) || (!(bt477.2.2.1 == bt483.2.2.1) || (!(bt477.2.2.2.1 == bt483.2.2.2.1))))) bt477.1 bt477.2.1 bt477.2.2.1 bt477.2.2.2.1))))))
theorem laws_FnWordsTold.mono_l : ∀ k, (∀ y0 y1 y2 y3 y4 y5 y6 y7, LeO (laws_FnWordsTold.j0 k y0 y1 y2 y3 y4 y5 y6 y7) (laws_FnWordsTold.j0 (k + 1) y0 y1 y2 y3 y4 y5 y6 y7)) ∧ (∀ y0, LeO (laws_FnWordsTold.j2 k y0) (laws_FnWordsTold.j2 (k + 1) y0)) ∧ (∀ y0 y1 y2 y3 y4 y5 y6 y7 y8 y9 y10 y11 y12 y13 y14 y15, LeO (laws_FnWordsTold.j3 k y0 y1 y2 y3 y4 y5 y6 y7 y8 y9 y10 y11 y12 y13 y14 y15) (laws_FnWordsTold.j3 (k + 1) y0 y1 y2 y3 y4 y5 y6 y7 y8 y9 y10 y11 y12 y13 y14 y15)) ∧ (∀ y0 y1 y2 y3 y4 y5 y6 y7 y8, LeO (laws_FnWordsTold.j4 k y0 y1 y2 y3 y4 y5 y6 y7 y8) (laws_FnWordsTold.j4 (k + 1) y0 y1 y2 y3 y4 y5 y6 y7 y8)) ∧ (∀ y0 y1 y2 y3 y4 y5 y6 y7 y8, LeO (laws_FnWordsTold.j5 k y0 y1 y2 y3 y4 y5 y6 y7 y8) (laws_FnWordsTold.j5 (k + 1) y0 y1 y2 y3 y4 y5 y6 y7 y8)) ∧ (∀ y0 y1 y2 y3 y4 y5 y6 y7 y8, LeO (laws_FnWordsTold.j6 k y0 y1 y2 y3 y4 y5 y6 y7 y8) (laws_FnWordsTold.j6 (k + 1) y0 y1 y2 y3 y4 y5 y6 y7 y8)) ∧ (∀ y0 y1 y2 y3 y4 y5 y6, LeO (laws_FnWordsTold.j1 k y0 y1 y2 y3 y4 y5 y6) (laws_FnWordsTold.j1 (k + 1) y0 y1 y2 y3 y4 y5 y6))
 | 0 => ⟨fun _ _ _ _ _ _ _ _ r h => by simp [laws_FnWordsTold.j0] at h, fun _ r h => by simp [laws_FnWordsTold.j2] at h, fun _ _ _ _ _ _ _ _ _ _ _ _ _ _ _ _ r h => by simp [laws_FnWordsTold.j3] at h, fun _ _ _ _ _ _ _ _ _ r h => by simp [laws_FnWordsTold.j4] at h, fun _ _ _ _ _ _ _ _ _ r h => by simp [laws_FnWordsTold.j5] at h, fun _ _ _ _ _ _ _ _ _ r h => by simp [laws_FnWordsTold.j6] at h, fun _ _ _ _ _ _ _ r h => by simp [laws_FnWordsTold.j1] at h⟩
 | k + 1 => by
  obtain ⟨ih0, ih1, ih2, ih3, ih4, ih5, ih6⟩ := laws_FnWordsTold.mono_l k
  refine ⟨?_, ?_, ?_, ?_, ?_, ?_, ?_⟩
  ·intro y0 y1 y2 y3 y4 y5 y6 y7
   unfold laws_FnWordsTold.j0
   repeat' first
   | (with_reducible exact ih0 _ _ _ _ _ _ _ _)
   | (with_reducible exact ih1 _)
   | (with_reducible exact ih2 _ _ _ _ _ _ _ _ _ _ _ _ _ _ _ _)
   | (with_reducible exact ih3 _ _ _ _ _ _ _ _ _)
   | (with_reducible exact ih4 _ _ _ _ _ _ _ _ _)
   | (with_reducible exact ih5 _ _ _ _ _ _ _ _ _)
   | (with_reducible exact ih6 _ _ _ _ _ _ _)
   | (with_reducible exact impl_IsFraction.mono _ _ _)
   | (with_reducible exact impl_MatrixOfWord.mono _ _)
   | (with_reducible exact impl_MoveFraction.mono _ _ _ _ _ _ _)
   | (with_reducible exact impl_TimesMatrix.mono _ _ _ _ _ _ _ _ _)
   | (with_reducible exact impl_WordOfMatrix.mono _ _ _ _ _)
   | (with_reducible exact spec_DrawMatrixOfWord.mono _ _)
   | (with_reducible exact spec_DrawMoveFraction.mono _ _)
   | (with_reducible exact spec_DrawWordOfMatrix.mono _ _)
   | (with_reducible exact spec_MatrixOfWord.mono _ _)
   | (with_reducible exact spec_MoveFraction.mono _ _ _ _ _ _ _)
   | (with_reducible exact spec_WordOfMatrix.mono _ _ _ _ _)
   | (with_reducible exact LeO.refl _)
   | (with_reducible exact LeO.none _)
   | (with_reducible refine LeO.ite ?_ ?_)
   | (with_reducible refine LeO.bind ?_ (fun _ => ?_))
   | exact ih0 _ _ _ _ _ _ _ _
   | exact ih1 _
   | exact ih2 _ _ _ _ _ _ _ _ _ _ _ _ _ _ _ _
   | exact ih3 _ _ _ _ _ _ _ _ _
   | exact ih4 _ _ _ _ _ _ _ _ _
   | exact ih5 _ _ _ _ _ _ _ _ _
   | exact ih6 _ _ _ _ _ _ _
   | exact impl_IsFraction.mono _ _ _
   | exact impl_MatrixOfWord.mono _ _
   | exact impl_MoveFraction.mono _ _ _ _ _ _ _
   | exact impl_TimesMatrix.mono _ _ _ _ _ _ _ _ _
   | exact impl_WordOfMatrix.mono _ _ _ _ _
   | exact spec_DrawMatrixOfWord.mono _ _
   | exact spec_DrawMoveFraction.mono _ _
   | exact spec_DrawWordOfMatrix.mono _ _
   | exact spec_MatrixOfWord.mono _ _
   | exact spec_MoveFraction.mono _ _ _ _ _ _ _
   | exact spec_WordOfMatrix.mono _ _ _ _ _
   | exact LeO.none _
   | refine LeO.ite ?_ ?_
   | refine LeO.bind ?_ (fun _ => ?_)
  ·intro y0
   unfold laws_FnWordsTold.j2
   repeat' first
   | (with_reducible exact ih0 _ _ _ _ _ _ _ _)
   | (with_reducible exact ih1 _)
   | (with_reducible exact ih2 _ _ _ _ _ _ _ _ _ _ _ _ _ _ _ _)
   | (with_reducible exact ih3 _ _ _ _ _ _ _ _ _)
   | (with_reducible exact ih4 _ _ _ _ _ _ _ _ _)
   | (with_reducible exact ih5 _ _ _ _ _ _ _ _ _)
   | (with_reducible exact ih6 _ _ _ _ _ _ _)
   | (with_reducible exact impl_IsFraction.mono _ _ _)
   | (with_reducible exact impl_MatrixOfWord.mono _ _)
   | (with_reducible exact impl_MoveFraction.mono _ _ _ _ _ _ _)
   | (with_reducible exact impl_TimesMatrix.mono _ _ _ _ _ _ _ _ _)
   | (with_reducible exact impl_WordOfMatrix.mono _ _ _ _ _)
   | (with_reducible exact spec_DrawMatrixOfWord.mono _ _)
   | (with_reducible exact spec_DrawMoveFraction.mono _ _)
   | (with_reducible exact spec_DrawWordOfMatrix.mono _ _)
   | (with_reducible exact spec_MatrixOfWord.mono _ _)
   | (with_reducible exact spec_MoveFraction.mono _ _ _ _ _ _ _)
   | (with_reducible exact spec_WordOfMatrix.mono _ _ _ _ _)
   | (with_reducible exact LeO.refl _)
   | (with_reducible exact LeO.none _)
   | (with_reducible refine LeO.ite ?_ ?_)
   | (with_reducible refine LeO.bind ?_ (fun _ => ?_))
   | exact ih0 _ _ _ _ _ _ _ _
   | exact ih1 _
   | exact ih2 _ _ _ _ _ _ _ _ _ _ _ _ _ _ _ _
   | exact ih3 _ _ _ _ _ _ _ _ _
   | exact ih4 _ _ _ _ _ _ _ _ _
   | exact ih5 _ _ _ _ _ _ _ _ _
   | exact ih6 _ _ _ _ _ _ _
   | exact impl_IsFraction.mono _ _ _
   | exact impl_MatrixOfWord.mono _ _
   | exact impl_MoveFraction.mono _ _ _ _ _ _ _
   | exact impl_TimesMatrix.mono _ _ _ _ _ _ _ _ _
   | exact impl_WordOfMatrix.mono _ _ _ _ _
   | exact spec_DrawMatrixOfWord.mono _ _
   | exact spec_DrawMoveFraction.mono _ _
   | exact spec_DrawWordOfMatrix.mono _ _
   | exact spec_MatrixOfWord.mono _ _
   | exact spec_MoveFraction.mono _ _ _ _ _ _ _
   | exact spec_WordOfMatrix.mono _ _ _ _ _
   | exact LeO.none _
   | refine LeO.ite ?_ ?_
   | refine LeO.bind ?_ (fun _ => ?_)
  ·intro y0 y1 y2 y3 y4 y5 y6 y7 y8 y9 y10 y11 y12 y13 y14 y15
   unfold laws_FnWordsTold.j3
   repeat' first
   | (with_reducible exact ih0 _ _ _ _ _ _ _ _)
   | (with_reducible exact ih1 _)
   | (with_reducible exact ih2 _ _ _ _ _ _ _ _ _ _ _ _ _ _ _ _)
   | (with_reducible exact ih3 _ _ _ _ _ _ _ _ _)
   | (with_reducible exact ih4 _ _ _ _ _ _ _ _ _)
   | (with_reducible exact ih5 _ _ _ _ _ _ _ _ _)
   | (with_reducible exact ih6 _ _ _ _ _ _ _)
   | (with_reducible exact impl_IsFraction.mono _ _ _)
   | (with_reducible exact impl_MatrixOfWord.mono _ _)
   | (with_reducible exact impl_MoveFraction.mono _ _ _ _ _ _ _)
   | (with_reducible exact impl_TimesMatrix.mono _ _ _ _ _ _ _ _ _)
   | (with_reducible exact impl_WordOfMatrix.mono _ _ _ _ _)
   | (with_reducible exact spec_DrawMatrixOfWord.mono _ _)
   | (with_reducible exact spec_DrawMoveFraction.mono _ _)
   | (with_reducible exact spec_DrawWordOfMatrix.mono _ _)
   | (with_reducible exact spec_MatrixOfWord.mono _ _)
   | (with_reducible exact spec_MoveFraction.mono _ _ _ _ _ _ _)
   | (with_reducible exact spec_WordOfMatrix.mono _ _ _ _ _)
   | (with_reducible exact LeO.refl _)
   | (with_reducible exact LeO.none _)
   | (with_reducible refine LeO.ite ?_ ?_)
   | (with_reducible refine LeO.bind ?_ (fun _ => ?_))
   | exact ih0 _ _ _ _ _ _ _ _
   | exact ih1 _
   | exact ih2 _ _ _ _ _ _ _ _ _ _ _ _ _ _ _ _
   | exact ih3 _ _ _ _ _ _ _ _ _
   | exact ih4 _ _ _ _ _ _ _ _ _
   | exact ih5 _ _ _ _ _ _ _ _ _
   | exact ih6 _ _ _ _ _ _ _
   | exact impl_IsFraction.mono _ _ _
   | exact impl_MatrixOfWord.mono _ _
   | exact impl_MoveFraction.mono _ _ _ _ _ _ _
   | exact impl_TimesMatrix.mono _ _ _ _ _ _ _ _ _
   | exact impl_WordOfMatrix.mono _ _ _ _ _
   | exact spec_DrawMatrixOfWord.mono _ _
   | exact spec_DrawMoveFraction.mono _ _
   | exact spec_DrawWordOfMatrix.mono _ _
   | exact spec_MatrixOfWord.mono _ _
   | exact spec_MoveFraction.mono _ _ _ _ _ _ _
   | exact spec_WordOfMatrix.mono _ _ _ _ _
   | exact LeO.none _
   | refine LeO.ite ?_ ?_
   | refine LeO.bind ?_ (fun _ => ?_)
  ·intro y0 y1 y2 y3 y4 y5 y6 y7 y8
   unfold laws_FnWordsTold.j4
   repeat' first
   | (with_reducible exact ih0 _ _ _ _ _ _ _ _)
   | (with_reducible exact ih1 _)
   | (with_reducible exact ih2 _ _ _ _ _ _ _ _ _ _ _ _ _ _ _ _)
   | (with_reducible exact ih3 _ _ _ _ _ _ _ _ _)
   | (with_reducible exact ih4 _ _ _ _ _ _ _ _ _)
   | (with_reducible exact ih5 _ _ _ _ _ _ _ _ _)
   | (with_reducible exact ih6 _ _ _ _ _ _ _)
   | (with_reducible exact impl_IsFraction.mono _ _ _)
   | (with_reducible exact impl_MatrixOfWord.mono _ _)
   | (with_reducible exact impl_MoveFraction.mono _ _ _ _ _ _ _)
   | (with_reducible exact impl_TimesMatrix.mono _ _ _ _ _ _ _ _ _)
   | (with_reducible exact impl_WordOfMatrix.mono _ _ _ _ _)
   | (with_reducible exact spec_DrawMatrixOfWord.mono _ _)
   | (with_reducible exact spec_DrawMoveFraction.mono _ _)
   | (with_reducible exact spec_DrawWordOfMatrix.mono _ _)
   | (with_reducible exact spec_MatrixOfWord.mono _ _)
   | (with_reducible exact spec_MoveFraction.mono _ _ _ _ _ _ _)
   | (with_reducible exact spec_WordOfMatrix.mono _ _ _ _ _)
   | (with_reducible exact LeO.refl _)
   | (with_reducible exact LeO.none _)
   | (with_reducible refine LeO.ite ?_ ?_)
   | (with_reducible refine LeO.bind ?_ (fun _ => ?_))
   | exact ih0 _ _ _ _ _ _ _ _
   | exact ih1 _
   | exact ih2 _ _ _ _ _ _ _ _ _ _ _ _ _ _ _ _
   | exact ih3 _ _ _ _ _ _ _ _ _
   | exact ih4 _ _ _ _ _ _ _ _ _
   | exact ih5 _ _ _ _ _ _ _ _ _
   | exact ih6 _ _ _ _ _ _ _
   | exact impl_IsFraction.mono _ _ _
   | exact impl_MatrixOfWord.mono _ _
   | exact impl_MoveFraction.mono _ _ _ _ _ _ _
   | exact impl_TimesMatrix.mono _ _ _ _ _ _ _ _ _
   | exact impl_WordOfMatrix.mono _ _ _ _ _
   | exact spec_DrawMatrixOfWord.mono _ _
   | exact spec_DrawMoveFraction.mono _ _
   | exact spec_DrawWordOfMatrix.mono _ _
   | exact spec_MatrixOfWord.mono _ _
   | exact spec_MoveFraction.mono _ _ _ _ _ _ _
   | exact spec_WordOfMatrix.mono _ _ _ _ _
   | exact LeO.none _
   | refine LeO.ite ?_ ?_
   | refine LeO.bind ?_ (fun _ => ?_)
  ·intro y0 y1 y2 y3 y4 y5 y6 y7 y8
   unfold laws_FnWordsTold.j5
   repeat' first
   | (with_reducible exact ih0 _ _ _ _ _ _ _ _)
   | (with_reducible exact ih1 _)
   | (with_reducible exact ih2 _ _ _ _ _ _ _ _ _ _ _ _ _ _ _ _)
   | (with_reducible exact ih3 _ _ _ _ _ _ _ _ _)
   | (with_reducible exact ih4 _ _ _ _ _ _ _ _ _)
   | (with_reducible exact ih5 _ _ _ _ _ _ _ _ _)
   | (with_reducible exact ih6 _ _ _ _ _ _ _)
   | (with_reducible exact impl_IsFraction.mono _ _ _)
   | (with_reducible exact impl_MatrixOfWord.mono _ _)
   | (with_reducible exact impl_MoveFraction.mono _ _ _ _ _ _ _)
   | (with_reducible exact impl_TimesMatrix.mono _ _ _ _ _ _ _ _ _)
   | (with_reducible exact impl_WordOfMatrix.mono _ _ _ _ _)
   | (with_reducible exact spec_DrawMatrixOfWord.mono _ _)
   | (with_reducible exact spec_DrawMoveFraction.mono _ _)
   | (with_reducible exact spec_DrawWordOfMatrix.mono _ _)
   | (with_reducible exact spec_MatrixOfWord.mono _ _)
   | (with_reducible exact spec_MoveFraction.mono _ _ _ _ _ _ _)
   | (with_reducible exact spec_WordOfMatrix.mono _ _ _ _ _)
   | (with_reducible exact LeO.refl _)
   | (with_reducible exact LeO.none _)
   | (with_reducible refine LeO.ite ?_ ?_)
   | (with_reducible refine LeO.bind ?_ (fun _ => ?_))
   | exact ih0 _ _ _ _ _ _ _ _
   | exact ih1 _
   | exact ih2 _ _ _ _ _ _ _ _ _ _ _ _ _ _ _ _
   | exact ih3 _ _ _ _ _ _ _ _ _
   | exact ih4 _ _ _ _ _ _ _ _ _
   | exact ih5 _ _ _ _ _ _ _ _ _
   | exact ih6 _ _ _ _ _ _ _
   | exact impl_IsFraction.mono _ _ _
   | exact impl_MatrixOfWord.mono _ _
   | exact impl_MoveFraction.mono _ _ _ _ _ _ _
   | exact impl_TimesMatrix.mono _ _ _ _ _ _ _ _ _
   | exact impl_WordOfMatrix.mono _ _ _ _ _
   | exact spec_DrawMatrixOfWord.mono _ _
   | exact spec_DrawMoveFraction.mono _ _
   | exact spec_DrawWordOfMatrix.mono _ _
   | exact spec_MatrixOfWord.mono _ _
   | exact spec_MoveFraction.mono _ _ _ _ _ _ _
   | exact spec_WordOfMatrix.mono _ _ _ _ _
   | exact LeO.none _
   | refine LeO.ite ?_ ?_
   | refine LeO.bind ?_ (fun _ => ?_)
  ·intro y0 y1 y2 y3 y4 y5 y6 y7 y8
   unfold laws_FnWordsTold.j6
   repeat' first
   | (with_reducible exact ih0 _ _ _ _ _ _ _ _)
   | (with_reducible exact ih1 _)
   | (with_reducible exact ih2 _ _ _ _ _ _ _ _ _ _ _ _ _ _ _ _)
   | (with_reducible exact ih3 _ _ _ _ _ _ _ _ _)
   | (with_reducible exact ih4 _ _ _ _ _ _ _ _ _)
   | (with_reducible exact ih5 _ _ _ _ _ _ _ _ _)
   | (with_reducible exact ih6 _ _ _ _ _ _ _)
   | (with_reducible exact impl_IsFraction.mono _ _ _)
   | (with_reducible exact impl_MatrixOfWord.mono _ _)
   | (with_reducible exact impl_MoveFraction.mono _ _ _ _ _ _ _)
   | (with_reducible exact impl_TimesMatrix.mono _ _ _ _ _ _ _ _ _)
   | (with_reducible exact impl_WordOfMatrix.mono _ _ _ _ _)
   | (with_reducible exact spec_DrawMatrixOfWord.mono _ _)
   | (with_reducible exact spec_DrawMoveFraction.mono _ _)
   | (with_reducible exact spec_DrawWordOfMatrix.mono _ _)
   | (with_reducible exact spec_MatrixOfWord.mono _ _)
   | (with_reducible exact spec_MoveFraction.mono _ _ _ _ _ _ _)
   | (with_reducible exact spec_WordOfMatrix.mono _ _ _ _ _)
   | (with_reducible exact LeO.refl _)
   | (with_reducible exact LeO.none _)
   | (with_reducible refine LeO.ite ?_ ?_)
   | (with_reducible refine LeO.bind ?_ (fun _ => ?_))
   | exact ih0 _ _ _ _ _ _ _ _
   | exact ih1 _
   | exact ih2 _ _ _ _ _ _ _ _ _ _ _ _ _ _ _ _
   | exact ih3 _ _ _ _ _ _ _ _ _
   | exact ih4 _ _ _ _ _ _ _ _ _
   | exact ih5 _ _ _ _ _ _ _ _ _
   | exact ih6 _ _ _ _ _ _ _
   | exact impl_IsFraction.mono _ _ _
   | exact impl_MatrixOfWord.mono _ _
   | exact impl_MoveFraction.mono _ _ _ _ _ _ _
   | exact impl_TimesMatrix.mono _ _ _ _ _ _ _ _ _
   | exact impl_WordOfMatrix.mono _ _ _ _ _
   | exact spec_DrawMatrixOfWord.mono _ _
   | exact spec_DrawMoveFraction.mono _ _
   | exact spec_DrawWordOfMatrix.mono _ _
   | exact spec_MatrixOfWord.mono _ _
   | exact spec_MoveFraction.mono _ _ _ _ _ _ _
   | exact spec_WordOfMatrix.mono _ _ _ _ _
   | exact LeO.none _
   | refine LeO.ite ?_ ?_
   | refine LeO.bind ?_ (fun _ => ?_)
  ·intro y0 y1 y2 y3 y4 y5 y6
   unfold laws_FnWordsTold.j1
   repeat' first
   | (with_reducible exact ih0 _ _ _ _ _ _ _ _)
   | (with_reducible exact ih1 _)
   | (with_reducible exact ih2 _ _ _ _ _ _ _ _ _ _ _ _ _ _ _ _)
   | (with_reducible exact ih3 _ _ _ _ _ _ _ _ _)
   | (with_reducible exact ih4 _ _ _ _ _ _ _ _ _)
   | (with_reducible exact ih5 _ _ _ _ _ _ _ _ _)
   | (with_reducible exact ih6 _ _ _ _ _ _ _)
   | (with_reducible exact impl_IsFraction.mono _ _ _)
   | (with_reducible exact impl_MatrixOfWord.mono _ _)
   | (with_reducible exact impl_MoveFraction.mono _ _ _ _ _ _ _)
   | (with_reducible exact impl_TimesMatrix.mono _ _ _ _ _ _ _ _ _)
   | (with_reducible exact impl_WordOfMatrix.mono _ _ _ _ _)
   | (with_reducible exact spec_DrawMatrixOfWord.mono _ _)
   | (with_reducible exact spec_DrawMoveFraction.mono _ _)
   | (with_reducible exact spec_DrawWordOfMatrix.mono _ _)
   | (with_reducible exact spec_MatrixOfWord.mono _ _)
   | (with_reducible exact spec_MoveFraction.mono _ _ _ _ _ _ _)
   | (with_reducible exact spec_WordOfMatrix.mono _ _ _ _ _)
   | (with_reducible exact LeO.refl _)
   | (with_reducible exact LeO.none _)
   | (with_reducible refine LeO.ite ?_ ?_)
   | (with_reducible refine LeO.bind ?_ (fun _ => ?_))
   | exact ih0 _ _ _ _ _ _ _ _
   | exact ih1 _
   | exact ih2 _ _ _ _ _ _ _ _ _ _ _ _ _ _ _ _
   | exact ih3 _ _ _ _ _ _ _ _ _
   | exact ih4 _ _ _ _ _ _ _ _ _
   | exact ih5 _ _ _ _ _ _ _ _ _
   | exact ih6 _ _ _ _ _ _ _
   | exact impl_IsFraction.mono _ _ _
   | exact impl_MatrixOfWord.mono _ _
   | exact impl_MoveFraction.mono _ _ _ _ _ _ _
   | exact impl_TimesMatrix.mono _ _ _ _ _ _ _ _ _
   | exact impl_WordOfMatrix.mono _ _ _ _ _
   | exact spec_DrawMatrixOfWord.mono _ _
   | exact spec_DrawMoveFraction.mono _ _
   | exact spec_DrawWordOfMatrix.mono _ _
   | exact spec_MatrixOfWord.mono _ _
   | exact spec_MoveFraction.mono _ _ _ _ _ _ _
   | exact spec_WordOfMatrix.mono _ _ _ _ _
   | exact LeO.none _
   | refine LeO.ite ?_ ?_
   | refine LeO.bind ?_ (fun _ => ?_)
theorem laws_FnWordsTold.mono : ∀ a0 a1 k, LeO (laws_FnWordsTold.f k a0 a1) (laws_FnWordsTold.f (k + 1) a0 a1) := by
 intro a0 a1 k
 obtain ⟨ih0, ih1, ih2, ih3, ih4, ih5, ih6⟩ := laws_FnWordsTold.mono_l k
 unfold laws_FnWordsTold.f
 repeat' first
   | (with_reducible exact ih0 _ _ _ _ _ _ _ _)
   | (with_reducible exact ih1 _)
   | (with_reducible exact ih2 _ _ _ _ _ _ _ _ _ _ _ _ _ _ _ _)
   | (with_reducible exact ih3 _ _ _ _ _ _ _ _ _)
   | (with_reducible exact ih4 _ _ _ _ _ _ _ _ _)
   | (with_reducible exact ih5 _ _ _ _ _ _ _ _ _)
   | (with_reducible exact ih6 _ _ _ _ _ _ _)
   | (with_reducible exact impl_IsFraction.mono _ _ _)
   | (with_reducible exact impl_MatrixOfWord.mono _ _)
   | (with_reducible exact impl_MoveFraction.mono _ _ _ _ _ _ _)
   | (with_reducible exact impl_TimesMatrix.mono _ _ _ _ _ _ _ _ _)
   | (with_reducible exact impl_WordOfMatrix.mono _ _ _ _ _)
   | (with_reducible exact spec_DrawMatrixOfWord.mono _ _)
   | (with_reducible exact spec_DrawMoveFraction.mono _ _)
   | (with_reducible exact spec_DrawWordOfMatrix.mono _ _)
   | (with_reducible exact spec_MatrixOfWord.mono _ _)
   | (with_reducible exact spec_MoveFraction.mono _ _ _ _ _ _ _)
   | (with_reducible exact spec_WordOfMatrix.mono _ _ _ _ _)
   | (with_reducible exact LeO.refl _)
   | (with_reducible exact LeO.none _)
   | (with_reducible refine LeO.ite ?_ ?_)
   | (with_reducible refine LeO.bind ?_ (fun _ => ?_))
   | exact ih0 _ _ _ _ _ _ _ _
   | exact ih1 _
   | exact ih2 _ _ _ _ _ _ _ _ _ _ _ _ _ _ _ _
   | exact ih3 _ _ _ _ _ _ _ _ _
   | exact ih4 _ _ _ _ _ _ _ _ _
   | exact ih5 _ _ _ _ _ _ _ _ _
   | exact ih6 _ _ _ _ _ _ _
   | exact impl_IsFraction.mono _ _ _
   | exact impl_MatrixOfWord.mono _ _
   | exact impl_MoveFraction.mono _ _ _ _ _ _ _
   | exact impl_TimesMatrix.mono _ _ _ _ _ _ _ _ _
   | exact impl_WordOfMatrix.mono _ _ _ _ _
   | exact spec_DrawMatrixOfWord.mono _ _
   | exact spec_DrawMoveFraction.mono _ _
   | exact spec_DrawWordOfMatrix.mono _ _
   | exact spec_MatrixOfWord.mono _ _
   | exact spec_MoveFraction.mono _ _ _ _ _ _ _
   | exact spec_WordOfMatrix.mono _ _ _ _ _
   | exact LeO.none _
   | refine LeO.ite ?_ ?_
   | refine LeO.bind ?_ (fun _ => ?_)
set_option maxHeartbeats 8000000 in
set_option maxRecDepth 100000 in
theorem laws_FnWordsTold.calls (k : Nat) (A0 : Option Addr) (c0 : Nat) (l0 : List Int) (A1 : Option Addr) (c1 : Nat) (l1 : List Int) (r : Bool) (w : World) (hr0 : Kd.C (Kd.int .u8) w A0 l0.length l0) (hc0 : l0.length ≤ c0) (hr1 : Kd.C (Kd.int .u8) w A1 l1.length l1) (hc1 : l1.length ≤ c1) (hrt : r = true) (h : laws_FnWordsTold.f k l0 l1 = some r) :
  Calls Tryd.prog 4 #[.slice A0 l0.length c0, .slice A1 l1.length c1] w fun e w' => e = .returned (.bool r) ∧ Below w.heap.size w w' := by
 have hu36 := Tryd.underlying36
 have hu43 := Tryd.underlying43
 have HR0 := Aside0.mk hr0
 have HC0 := Aside0.mk hc0
 clear hr0 hc0
 have HR1 := Aside0.mk hr1
 have HC1 := Aside0.mk hc1
 clear hr1 hc1
 have HB := Aside0.mk (Below.refl w.heap.size w)
 have H := h
 clear h
 unfold laws_FnWordsTold.f at H
 replace H := Option.bind_eq_some_iff.mp H
 obtain ⟨t475, A30, H⟩ := H
 have A3 := Aside0.mk A30
 clear A30
 by_cases c4 : t475 = true
 ·subst c4
  rw [if_pos rfl] at H
  as_aux_lemma =>
   obtain rfl := Option.some.inj H
   clear hrt
   go_enter Tryd.func4, Tryd.ntmps4
   go_wp2_with (first | ((with_reducible refine gate_callee (f := 11) rfl ?_); refine gof_ (some 42) Tryd.func11 #[.slice A0 l0.length c0, .slice A1 l1.length c1] ?_; (with_reducible refine (laws_big.calls _ _ l0 _ _ l1 true _ ?side1 ?side2 ?side3 ?side4 A3.out).mono ?_); (case side1 => repeat (first | exact HR0.out | (with_reducible refine Kd.C_alloc ?_ _) | (with_reducible refine Kd.C_drewN ?_ _) | (with_reducible refine Kd.C_drew ?_))); (case side2 => exact HC0.out); (case side3 => repeat (first | exact HR1.out | (with_reducible refine Kd.C_alloc ?_ _) | (with_reducible refine Kd.C_drewN ?_ _) | (with_reducible refine Kd.C_drew ?_))); (case side4 => exact HC1.out); rintro e w' ⟨rfl, ⟨nd, rfl⟩⟩; refine ⟨_, rfl, ?_⟩))
   go_ret
   exact ⟨eqr, hk HB⟩
 ·replace c4 := Bool.eq_false_iff.mpr c4
  subst c4
  rw [if_neg (show ¬ (false = true) by decide)] at H
  replace H := Option.bind_eq_some_iff.mp H
  obtain ⟨t476, A50, H⟩ := H
  have A5 := Aside0.mk A50
  clear A50
  replace H := Option.bind_eq_some_iff.mp H
  obtain ⟨⟨t477, t478, t479, t480, t481⟩, A60, H⟩ := H
  try dsimp only at H
  have A6 := Aside0.mk A60
  clear A60
  replace H := Option.bind_eq_some_iff.mp H
  obtain ⟨⟨t483, t484, t485, t486, t487⟩, A70, H⟩ := H
  try dsimp only at H
  have A7 := Aside0.mk A70
  clear A70
  have HC8 := Aside0.mk H
  clear H
  go_enter Tryd.func4, Tryd.ntmps4
  go_upto_region 6 with (first | ((with_reducible refine gate_callee (f := 11) rfl ?_); refine gof_ (some 42) Tryd.func11 #[.slice A0 l0.length c0, .slice A1 l1.length c1] ?_; (with_reducible refine (laws_big.calls _ _ l0 _ _ l1 false _ ?side1 ?side2 ?side3 ?side4 A3.out).mono ?_); (case side1 => repeat (first | exact HR0.out | (with_reducible refine Kd.C_alloc ?_ _) | (with_reducible refine Kd.C_drewN ?_ _) | (with_reducible refine Kd.C_drew ?_))); (case side2 => exact HC0.out); (case side3 => repeat (first | exact HR1.out | (with_reducible refine Kd.C_alloc ?_ _) | (with_reducible refine Kd.C_drewN ?_ _) | (with_reducible refine Kd.C_drew ?_))); (case side4 => exact HC1.out); rintro e w' ⟨rfl, ⟨nd, rfl⟩⟩; refine ⟨_, rfl, ?_⟩) | ((with_reducible refine gate_callee (f := 12) rfl ?_); refine gof_ (some 44) Tryd.func12 #[.slice A0 l0.length c0] ?_; (with_reducible refine (spec_DrawMatrixOfWord.calls k _ _ l0 t476 _ ?side1 ?side2 A5.out).mono ?_); (case side1 => repeat (first | exact HR0.out | (with_reducible refine Kd.C_alloc ?_ _) | (with_reducible refine Kd.C_drewN ?_ _) | (with_reducible refine Kd.C_drew ?_))); (case side2 => exact HC0.out); rintro e w9 ⟨rfl, hb⟩; refine ⟨_, rfl, ?_⟩; replace HB := Aside0.mk (below_step (hk HB) hb); (try clear hb); (try clear hb2); (try clear hk); (try clear hi)) | ((with_reducible refine gate_callee (f := 13) rfl ?_); refine gof_ (some 47) Tryd.func13 #[.string t476] ?_; (with_reducible refine (impl_MatrixOfWord.calls k t476 t477 t478 t479 t480 t481 _ A6.out).mono ?_); rintro e w10 ⟨rfl, hb⟩; refine ⟨_, rfl, ?_⟩; replace HB := Aside0.mk (below_step (hk HB) hb); (try clear hb); (try clear hb2); (try clear hk); (try clear hi)) | ((with_reducible refine gate_dst (N := 6) rfl ?_); refine box_ 6 #[.int .i64 0, .int .i64 0, .int .i64 0, .int .i64 0] 36 ?_; intro gb482 hg w11 hbox hb; have BK482 := Aside0.mk (hbox); have GW482 := Aside0.mk ((by rw [hg]; exact (below_size (hk HB)) : w.heap.size ≤ gb482)); have GE482 := Aside0.mk ((by rw [hg]; exact (below_size (hk HB)) : w.heap.size ≤ gb482)); replace HB := Aside0.mk (below_step (hk HB) hb); clear hb hbox hg; obtain ⟨hcz12_0, hcz12_1, hcz12_2, hcz12_3, hfz12_0, hfz12_1, hfz12_2, hfz12_3⟩ := c4_ BK482) | ((with_reducible refine gate_callee (f := 14) rfl ?_); refine gof_ (some 52) Tryd.func14 #[.string t476] ?_; (with_reducible refine (spec_MatrixOfWord.calls k t476 t483 t484 t485 t486 t487 _ A7.out).mono ?_); rintro e w13 ⟨rfl, hb⟩; refine ⟨_, rfl, ?_⟩; replace BK482 := Aside0.mk (blk_below (g := gb482) (o := .cells #[.int .i64 t477, .int .i64 t478, .int .i64 t479, .int .i64 t480] 36 (0, 0)) (by (with_reducible repeat (first | refine blk_drewN ?_ _ | refine blk_drew ?_ | refine blk_alloc ?_ _)); refine blk_put (cs := #[.int .i64 t477, .int .i64 t478, .int .i64 t479, .int .i64 0]) ?_ 3 _ rfl; (with_reducible repeat (first | refine blk_drewN ?_ _ | refine blk_drew ?_ | refine blk_alloc ?_ _)); refine blk_put (cs := #[.int .i64 t477, .int .i64 t478, .int .i64 0, .int .i64 0]) ?_ 2 _ rfl; (with_reducible repeat (first | refine blk_drewN ?_ _ | refine blk_drew ?_ | refine blk_alloc ?_ _)); refine blk_put (cs := #[.int .i64 t477, .int .i64 0, .int .i64 0, .int .i64 0]) ?_ 1 _ rfl; (with_reducible repeat (first | refine blk_drewN ?_ _ | refine blk_drew ?_ | refine blk_alloc ?_ _)); refine blk_put (cs := #[.int .i64 0, .int .i64 0, .int .i64 0, .int .i64 0]) ?_ 0 _ rfl; exact pk BK482) hb); replace HB := Aside0.mk (below_step (hk HB) hb); (try clear hb); (try clear hb2); (try clear hk); (try clear hi)) | ((with_reducible refine gate_dst (N := 8) rfl ?_); refine box_ 8 #[.int .i64 0, .int .i64 0, .int .i64 0, .int .i64 0] 36 ?_; intro gb488 hg w14 hbox hb; have BK488 := Aside0.mk (hbox); have GW488 := Aside0.mk ((by rw [hg]; exact (below_size (hk HB)) : w.heap.size ≤ gb488)); have GE488 := Aside0.mk ((by rw [hg]; exact (below_size (hk HB)) : w.heap.size ≤ gb488)); have NB482_488 := Aside0.mk ((by rw [hg]; exact Nat.ne_of_lt (blk_lt (pk BK482)) : gb482 ≠ gb488)); have NB488_482 := Aside0.mk ((by rw [hg]; exact Nat.ne_of_gt (blk_lt (pk BK482)) : gb488 ≠ gb482)); replace BK482 := Aside0.mk (blk_below (pk BK482) hb); replace HB := Aside0.mk (below_step (hk HB) hb); clear hb hbox hg; have hnb15 := NB488_482.out; have hnc15 := NB482_488.out; obtain ⟨hcz16_0, hcz16_1, hcz16_2, hcz16_3, hfz16_0, hfz16_1, hfz16_2, hfz16_3⟩ := c4_ BK488))
  (try simp only [Act.put, List.setIfInBounds_toArray, List.set_cons_zero, List.set_cons_succ])
  go_cut [62] (fun v62 wc => ∃ (kq : Nat) (x62_7 : Bool), v62 = .bool x62_7 ∧ Aside0 (laws_FnWordsTold.j0 kq l1 t476 t481 x62_7 t477 t478 t479 t480 = some r) ∧ Aside0 (kq ≤ k) ∧ Aside0 (wc.heap[gb482]? = some (.cells #[.int .i64 t477, .int .i64 t478, .int .i64 t479, .int .i64 t480] 36 (0, 0))) ∧ Aside0 (wc.heap[gb488]? = some (.cells #[.int .i64 t483, .int .i64 t484, .int .i64 t485, .int .i64 t486] 36 (0, 0))) ∧ Aside0 (Below w.heap.size w wc))
  case first =>
   have H := HC8.out
   clear HC8
   by_cases c17 : (t481 != t487) = true
   ·rw [if_pos c17] at H
    have c17b0 : (t481 != t487) = true := c17
    (try (have c17b1 : decide (t481 = t487) = false := by simpa using c17))
    (try (have c17b2 : (t481 == t487) = false := by simpa using c17))
    (try (have c17b3 : ¬ (t481 = t487) := by simpa using c17))
    clear c17
    (first | rw [c17b0] | (simp only [i64_w, i32_w]; rw [c17b0]) | skip)
    as_aux_lemma =>
     have H' := Aside0.mk H
     clear H
     go_wp2
     go_meet
     case rel => exact ⟨_, (true), (by first | rfl | (simp; done) | (simp [*]; done)), H', ⟨by first | omega | exact Nat.le_refl _⟩, ⟨by (with_reducible repeat (first | refine blk_drewN ?_ _ | refine blk_drew ?_ | refine blk_alloc ?_ _)); refine blk_far ?_ NB482_488.out _; (with_reducible repeat (first | refine blk_drewN ?_ _ | refine blk_drew ?_ | refine blk_alloc ?_ _)); refine blk_far ?_ NB482_488.out _; (with_reducible repeat (first | refine blk_drewN ?_ _ | refine blk_drew ?_ | refine blk_alloc ?_ _)); refine blk_far ?_ NB482_488.out _; (with_reducible repeat (first | refine blk_drewN ?_ _ | refine blk_drew ?_ | refine blk_alloc ?_ _)); refine blk_far ?_ NB482_488.out _; exact pk BK482⟩, ⟨by (with_reducible repeat (first | refine blk_drewN ?_ _ | refine blk_drew ?_ | refine blk_alloc ?_ _)); refine blk_put (cs := #[.int .i64 t483, .int .i64 t484, .int .i64 t485, .int .i64 0]) ?_ 3 _ rfl; (with_reducible repeat (first | refine blk_drewN ?_ _ | refine blk_drew ?_ | refine blk_alloc ?_ _)); refine blk_put (cs := #[.int .i64 t483, .int .i64 t484, .int .i64 0, .int .i64 0]) ?_ 2 _ rfl; (with_reducible repeat (first | refine blk_drewN ?_ _ | refine blk_drew ?_ | refine blk_alloc ?_ _)); refine blk_put (cs := #[.int .i64 t483, .int .i64 0, .int .i64 0, .int .i64 0]) ?_ 1 _ rfl; (with_reducible repeat (first | refine blk_drewN ?_ _ | refine blk_drew ?_ | refine blk_alloc ?_ _)); refine blk_put (cs := #[.int .i64 0, .int .i64 0, .int .i64 0, .int .i64 0]) ?_ 0 _ rfl; exact pk BK488⟩, ⟨by repeat (first | (with_reducible first | exact HB.out | apply below_alloc | apply pw_below_drewN | apply below_drew1 | refine below_set ?_ GE482.out | refine below_set ?_ GE488.out) | exact HB.out)⟩⟩
   ·rw [if_neg c17] at H
    have c17b0 : (t481 != t487) = false := by simpa using c17
    (try (have c17b1 : decide (t481 = t487) = true := by simpa using c17))
    (try (have c17b2 : (t481 == t487) = true := by simpa using c17))
    clear c17
    (first | rw [c17b0] | (simp only [i64_w, i32_w]; rw [c17b0]) | skip)
    as_aux_lemma =>
     have H' := Aside0.mk H
     clear H
     have hnb18 := NB482_488.out
     have hnc18 := NB488_482.out
     obtain ⟨hcz19_0, hcz19_1, hcz19_2, hcz19_3, hfz19_0, hfz19_1, hfz19_2, hfz19_3⟩ := c4_ BK482
     obtain ⟨hcz20_0, hcz20_1, hcz20_2, hcz20_3, hfz20_0, hfz20_1, hfz20_2, hfz20_3⟩ := c4_ BK488
     go_wp2
     go_meet
     case rel => exact ⟨_, ((!(t477 == t483) || (!(t478 == t484) || (!(t479 == t485) || (!(t480 == t486)))))), (by first | rfl | (simp; done) | (simp [*]; done)), H', ⟨by first | omega | exact Nat.le_refl _⟩, ⟨by (with_reducible repeat (first | refine blk_drewN ?_ _ | refine blk_drew ?_ | refine blk_alloc ?_ _)); refine blk_far ?_ NB482_488.out _; (with_reducible repeat (first | refine blk_drewN ?_ _ | refine blk_drew ?_ | refine blk_alloc ?_ _)); refine blk_far ?_ NB482_488.out _; (with_reducible repeat (first | refine blk_drewN ?_ _ | refine blk_drew ?_ | refine blk_alloc ?_ _)); refine blk_far ?_ NB482_488.out _; (with_reducible repeat (first | refine blk_drewN ?_ _ | refine blk_drew ?_ | refine blk_alloc ?_ _)); refine blk_far ?_ NB482_488.out _; exact pk BK482⟩, ⟨by (with_reducible repeat (first | refine blk_drewN ?_ _ | refine blk_drew ?_ | refine blk_alloc ?_ _)); refine blk_put (cs := #[.int .i64 t483, .int .i64 t484, .int .i64 t485, .int .i64 0]) ?_ 3 _ rfl; (with_reducible repeat (first | refine blk_drewN ?_ _ | refine blk_drew ?_ | refine blk_alloc ?_ _)); refine blk_put (cs := #[.int .i64 t483, .int .i64 t484, .int .i64 0, .int .i64 0]) ?_ 2 _ rfl; (with_reducible repeat (first | refine blk_drewN ?_ _ | refine blk_drew ?_ | refine blk_alloc ?_ _)); refine blk_put (cs := #[.int .i64 t483, .int .i64 0, .int .i64 0, .int .i64 0]) ?_ 1 _ rfl; (with_reducible repeat (first | refine blk_drewN ?_ _ | refine blk_drew ?_ | refine blk_alloc ?_ _)); refine blk_put (cs := #[.int .i64 0, .int .i64 0, .int .i64 0, .int .i64 0]) ?_ 0 _ rfl; exact pk BK488⟩, ⟨by repeat (first | (with_reducible first | exact HB.out | apply below_alloc | apply pw_below_drewN | apply below_drew1 | refine below_set ?_ GE482.out | refine below_set ?_ GE488.out) | exact HB.out)⟩⟩
  case rest =>
   clear HC8
   try clear c1
   try clear p2
   try clear c4
   try clear c11
   try clear c12
   try clear c13
   try clear c14
   try clear c15
   try clear c17
   try clear c17b0
   try clear c17b1
   try clear c17b2
   try clear c18
   try clear hcz12_0
   try clear hcz12_1
   try clear hcz12_2
   try clear hcz12_3
   try clear hcz16_0
   try clear hcz16_1
   try clear hcz16_2
   try clear hcz16_3
   try clear hcz19_0
   try clear hcz19_1
   try clear hcz19_2
   try clear hcz19_3
   try clear hcz20_0
   try clear hcz20_1
   try clear hcz20_2
   try clear hcz20_3
   try clear hfz12_0
   try clear hfz12_1
   try clear hfz12_2
   try clear hfz12_3
   try clear hfz16_0
   try clear hfz16_1
   try clear hfz16_2
   try clear hfz16_3
   try clear hfz19_0
   try clear hfz19_1
   try clear hfz19_2
   try clear hfz19_3
   try clear hfz20_0
   try clear hfz20_1
   try clear hfz20_2
   try clear hfz20_3
   obtain ⟨kq, x62_7, rfl, HA, HJ7, BK482, BK488, HB⟩ := hcut
   cases kq with
   | zero => exact absurd HA.out (by simp [laws_FnWordsTold.j0])
   | succ kj7 =>
    have H := HA.out
    clear HA
    simp only [laws_FnWordsTold.j0] at H
    by_cases c21 : x62_7 = true
    ·subst c21
     rw [if_pos rfl] at H
     obtain rfl := Option.some.inj H
     cases hrt
    ·replace c21 := Bool.eq_false_iff.mpr c21
     subst c21
     rw [if_neg (show ¬ (false = true) by decide)] at H
     have HC22 := Aside0.mk H
     clear H
     go_upto_if 63 with (fail)
     go_cut [] (fun wc => ∃ (kq : Nat), Aside0 (laws_FnWordsTold.j2 kq l1 = some r) ∧ Aside0 (kq ≤ kj7) ∧ Aside0 (wc.heap[gb482]? = some (.cells #[.int .i64 t477, .int .i64 t478, .int .i64 t479, .int .i64 t480] 36 (0, 0))) ∧ Aside0 (wc.heap[gb488]? = some (.cells #[.int .i64 t483, .int .i64 t484, .int .i64 t485, .int .i64 t486] 36 (0, 0))) ∧ Aside0 (Below w.heap.size w wc))
     case first =>
      have H := HC22.out
      clear HC22
      by_cases c23 : t481 = true
      ·subst c23
       rw [if_pos rfl] at H
       replace H := Option.bind_eq_some_iff.mp H
       obtain ⟨⟨t489, t490⟩, A240, H⟩ := H
       try dsimp only at H
       have A24 := Aside0.mk A240
       clear A240
       have HC25 := Aside0.mk H
       clear H
       have hnb26 := NB482_488.out
       have hnc26 := NB488_482.out
       obtain ⟨hcz27_0, hcz27_1, hcz27_2, hcz27_3, hfz27_0, hfz27_1, hfz27_2, hfz27_3⟩ := c4_ BK482
       go_upto_region 10 with (first | ((with_reducible refine gate_callee (f := 15) rfl ?_); refine gof_ (some 66) Tryd.func15 #[.agg #[.int .i64 t477, .int .i64 t478, .int .i64 t479, .int .i64 t480]] ?_; (with_reducible refine (impl_WordOfMatrix.calls kj7 t477 t478 t479 t480 t489 t490 _ A24.out).mono ?_); rintro e w28 ⟨rfl, hb⟩; refine ⟨_, rfl, ?_⟩; replace BK482 := Aside0.mk (blk_below (pk BK482) hb); replace BK488 := Aside0.mk (blk_below (pk BK488) hb); replace HB := Aside0.mk (below_step (hk HB) hb); (try clear hb); (try clear hb2); (try clear hk); (try clear hi)))
       (try simp only [Act.put, List.setIfInBounds_toArray, List.set_cons_zero, List.set_cons_succ])
       go_cut [95] (fun v95 wc => ∃ (kq : Nat) (x95_24 : Bool), v95 = .bool x95_24 ∧ Aside0 (laws_FnWordsTold.j1 kq l1 t476 x95_24 t477 t478 t479 t480 = some r) ∧ Aside0 (kq ≤ kj7) ∧ Aside0 (wc.heap[gb482]? = some (.cells #[.int .i64 t477, .int .i64 t478, .int .i64 t479, .int .i64 t480] 36 (0, 0))) ∧ Aside0 (wc.heap[gb488]? = some (.cells #[.int .i64 t483, .int .i64 t484, .int .i64 t485, .int .i64 t486] 36 (0, 0))) ∧ Aside0 (Below w.heap.size w wc))
       case first =>
        have H := HC25.out
        clear HC25
        by_cases c29 : t490 = true
        ·subst c29
         rw [if_pos rfl] at H
         by_cases c30 : t489.toList = t476.toList
         ·rw [if_pos c30] at H
          have c30b0 : (t489.toList == t476.toList) = true := beq_iff_eq.mpr c30
          have c30b1 : (t489.toList != t476.toList) = false := bne_eq_false_iff_eq.mpr c30
          clear c30
          (first | rw [c30b0] | (simp only [i64_w, i32_w]; rw [c30b0]) | skip)
          by_cases c31 : t477 < 0
          ·rw [if_pos c31] at H
           have c31b0 : decide (t477 < 0) = true := decide_eq_true c31
           clear c31
           as_aux_lemma =>
            have H' := Aside0.mk H
            clear H
            have hnb32 := NB482_488.out
            have hnc32 := NB488_482.out
            obtain ⟨hcz33_0, hcz33_1, hcz33_2, hcz33_3, hfz33_0, hfz33_1, hfz33_2, hfz33_3⟩ := c4_ BK482
            go_wp2
            go_meet
            case rel => exact ⟨_, (true), (by first | rfl | (simp; done) | (simp [*]; done)), H', ⟨by have := HJ7.out; first | omega | exact Nat.le_refl _⟩, ⟨pk BK482⟩, ⟨pk BK488⟩, ⟨by repeat (first | (with_reducible first | exact HB.out | apply below_alloc | apply pw_below_drewN | apply below_drew1 | refine below_set ?_ GE482.out | refine below_set ?_ GE488.out) | exact HB.out)⟩⟩
          ·rw [if_neg c31] at H
           have c31b0 : decide (t477 < 0) = false := decide_eq_false c31
           clear c31
           by_cases c34 : t478 < 0
           ·rw [if_pos c34] at H
            have c34b0 : decide (t478 < 0) = true := decide_eq_true c34
            clear c34
            as_aux_lemma =>
             have H' := Aside0.mk H
             clear H
             have hnb35 := NB482_488.out
             have hnc35 := NB488_482.out
             obtain ⟨hcz36_0, hcz36_1, hcz36_2, hcz36_3, hfz36_0, hfz36_1, hfz36_2, hfz36_3⟩ := c4_ BK482
             go_wp2
             go_meet
             case rel => exact ⟨_, (true), (by first | rfl | (simp; done) | (simp [*]; done)), H', ⟨by have := HJ7.out; first | omega | exact Nat.le_refl _⟩, ⟨pk BK482⟩, ⟨pk BK488⟩, ⟨by repeat (first | (with_reducible first | exact HB.out | apply below_alloc | apply pw_below_drewN | apply below_drew1 | refine below_set ?_ GE482.out | refine below_set ?_ GE488.out) | exact HB.out)⟩⟩
           ·rw [if_neg c34] at H
            have c34b0 : decide (t478 < 0) = false := decide_eq_false c34
            clear c34
            by_cases c37 : t479 < 0
            ·rw [if_pos c37] at H
             have c37b0 : decide (t479 < 0) = true := decide_eq_true c37
             clear c37
             as_aux_lemma =>
              have H' := Aside0.mk H
              clear H
              have hnb38 := NB482_488.out
              have hnc38 := NB488_482.out
              obtain ⟨hcz39_0, hcz39_1, hcz39_2, hcz39_3, hfz39_0, hfz39_1, hfz39_2, hfz39_3⟩ := c4_ BK482
              go_wp2
              go_meet
              case rel => exact ⟨_, (true), (by first | rfl | (simp; done) | (simp [*]; done)), H', ⟨by have := HJ7.out; first | omega | exact Nat.le_refl _⟩, ⟨pk BK482⟩, ⟨pk BK488⟩, ⟨by repeat (first | (with_reducible first | exact HB.out | apply below_alloc | apply pw_below_drewN | apply below_drew1 | refine below_set ?_ GE482.out | refine below_set ?_ GE488.out) | exact HB.out)⟩⟩
            ·rw [if_neg c37] at H
             have c37b0 : decide (t479 < 0) = false := decide_eq_false c37
             clear c37
             as_aux_lemma =>
              have H' := Aside0.mk H
              clear H
              have hnb40 := NB482_488.out
              have hnc40 := NB488_482.out
              obtain ⟨hcz41_0, hcz41_1, hcz41_2, hcz41_3, hfz41_0, hfz41_1, hfz41_2, hfz41_3⟩ := c4_ BK482
              go_wp2
              go_meet
              case rel => exact ⟨_, (decide (t480 < 0)), (by first | rfl | (simp; done) | (simp [*]; done)), H', ⟨by have := HJ7.out; first | omega | exact Nat.le_refl _⟩, ⟨pk BK482⟩, ⟨pk BK488⟩, ⟨by repeat (first | (with_reducible first | exact HB.out | apply below_alloc | apply pw_below_drewN | apply below_drew1 | refine below_set ?_ GE482.out | refine below_set ?_ GE488.out) | exact HB.out)⟩⟩
         ·rw [if_neg c30] at H
          have c30b0 : (t489.toList == t476.toList) = false := beq_eq_false_iff_ne.mpr c30
          have c30b1 : (t489.toList != t476.toList) = true := bne_iff_ne.mpr c30
          (first | rw [c30b0] | (simp only [i64_w, i32_w]; rw [c30b0]) | skip)
          as_aux_lemma =>
           have H' := Aside0.mk H
           clear H
           go_wp2
           go_meet
           case rel => exact ⟨_, (true), (by first | rfl | (simp; done) | (simp [*]; done)), H', ⟨by have := HJ7.out; first | omega | exact Nat.le_refl _⟩, ⟨pk BK482⟩, ⟨pk BK488⟩, ⟨by repeat (first | (with_reducible first | exact HB.out | apply below_alloc | apply pw_below_drewN | apply below_drew1 | refine below_set ?_ GE482.out | refine below_set ?_ GE488.out) | exact HB.out)⟩⟩
        ·replace c29 := Bool.eq_false_iff.mpr c29
         subst c29
         rw [if_neg (show ¬ (false = true) by decide)] at H
         as_aux_lemma =>
          have H' := Aside0.mk H
          clear H
          go_wp2
          go_meet
          case rel => exact ⟨_, (true), (by first | rfl | (simp; done) | (simp [*]; done)), H', ⟨by have := HJ7.out; first | omega | exact Nat.le_refl _⟩, ⟨pk BK482⟩, ⟨pk BK488⟩, ⟨by repeat (first | (with_reducible first | exact HB.out | apply below_alloc | apply pw_below_drewN | apply below_drew1 | refine below_set ?_ GE482.out | refine below_set ?_ GE488.out) | exact HB.out)⟩⟩
       case rest =>
        clear HC25
        try clear c1
        try clear c2
        try clear p2
        try clear c3
        try clear c4
        try clear c11
        try clear c12
        try clear c13
        try clear c14
        try clear c15
        try clear c17
        try clear c17b0
        try clear c17b1
        try clear c17b2
        try clear c18
        try clear c21
        try clear c23
        try clear c26
        try clear c29
        try clear c30
        try clear c30b0
        try clear c30b1
        try clear c31
        try clear c31b0
        try clear c32
        try clear c34
        try clear c34b0
        try clear c35
        try clear c37
        try clear c37b0
        try clear c38
        try clear c40
        try clear hcz12_0
        try clear hcz12_1
        try clear hcz12_2
        try clear hcz12_3
        try clear hcz16_0
        try clear hcz16_1
        try clear hcz16_2
        try clear hcz16_3
        try clear hcz19_0
        try clear hcz19_1
        try clear hcz19_2
        try clear hcz19_3
        try clear hcz20_0
        try clear hcz20_1
        try clear hcz20_2
        try clear hcz20_3
        try clear hcz27_0
        try clear hcz27_1
        try clear hcz27_2
        try clear hcz27_3
        try clear hcz33_0
        try clear hcz33_1
        try clear hcz33_2
        try clear hcz33_3
        try clear hcz36_0
        try clear hcz36_1
        try clear hcz36_2
        try clear hcz36_3
        try clear hcz39_0
        try clear hcz39_1
        try clear hcz39_2
        try clear hcz39_3
        try clear hcz41_0
        try clear hcz41_1
        try clear hcz41_2
        try clear hcz41_3
        try clear hfz12_0
        try clear hfz12_1
        try clear hfz12_2
        try clear hfz12_3
        try clear hfz16_0
        try clear hfz16_1
        try clear hfz16_2
        try clear hfz16_3
        try clear hfz19_0
        try clear hfz19_1
        try clear hfz19_2
        try clear hfz19_3
        try clear hfz20_0
        try clear hfz20_1
        try clear hfz20_2
        try clear hfz20_3
        try clear hfz27_0
        try clear hfz27_1
        try clear hfz27_2
        try clear hfz27_3
        try clear hfz33_0
        try clear hfz33_1
        try clear hfz33_2
        try clear hfz33_3
        try clear hfz36_0
        try clear hfz36_1
        try clear hfz36_2
        try clear hfz36_3
        try clear hfz39_0
        try clear hfz39_1
        try clear hfz39_2
        try clear hfz39_3
        try clear hfz41_0
        try clear hfz41_1
        try clear hfz41_2
        try clear hfz41_3
        try clear p2
        obtain ⟨kq, x95_24, rfl, HA, HJ24, BK482, BK488, HB⟩ := hcut
        cases kq with
        | zero => exact absurd HA.out (by simp [laws_FnWordsTold.j1])
        | succ kj24 =>
         have H := HA.out
         clear HA
         simp only [laws_FnWordsTold.j1] at H
         by_cases c42 : x95_24 = true
         ·subst c42
          rw [if_pos rfl] at H
          obtain rfl := Option.some.inj H
          cases hrt
         ·replace c42 := Bool.eq_false_iff.mpr c42
          subst c42
          rw [if_neg (show ¬ (false = true) by decide)] at H
          obtain ⟨ji43, hji43⟩ : ∃ j_ : Int, (wrap64 ((t476.size : Int) / 2)) = j_ := ⟨_, rfl⟩
          replace H : (if 0 ≤ (ji43) then (if (ji43) ≤ (t476.size : Int) then ((impl_MatrixOfWord.f kj24 (t476.extract 0 ((ji43) : Int).toNat)).bind fun bt491 => ((impl_MatrixOfWord.f kj24 (t476.extract ((ji43) : Int).toNat t476.size)).bind fun bt497 => ((impl_TimesMatrix.f kj24 bt491.1 bt491.2.1 bt491.2.2.1 bt491.2.2.2.1 bt497.1 bt497.2.1 bt497.2.2.1 bt497.2.2.2.1).bind fun bt503 => (if bt491.2.2.2.2 = true then (if bt497.2.2.2.2 = true then (if bt503.2.2.2.2 = true then (if (!(bt503.1 == t477) || (!(bt503.2.1 == t478) || (!(bt503.2.2.1 == t479) || (!(bt503.2.2.2.1 == t480))))) = true then (some false) else (laws_FnWordsTold.j2 kj24 l1)) else (some false)) else (some false)) else (some false))))) else (none)) else (none)) = some r := by first | (rw [hji43] at H; exact H) | (simp only [hji43] at H ⊢; exact H)
          have hji43w : (IntKind.i64.wrap ((t476.size : Int) / 2)) = ji43 := (i64_w _).trans hji43
          by_cases c44 : 0 ≤ (ji43)
          ·rw [if_pos c44] at H
           have c44b0 := eq_true c44
           have c44b1 : decide (0 ≤ (ji43)) = true := decide_eq_true c44
           clear c44
           by_cases c45 : (ji43) ≤ (t476.size : Int)
           ·rw [if_pos c45] at H
            have c45b0 := eq_true c45
            have c45b1 : decide ((ji43) ≤ (t476.size : Int)) = true := decide_eq_true c45
            clear c45
            replace H := Option.bind_eq_some_iff.mp H
            obtain ⟨⟨t491, t492, t493, t494, t495⟩, A460, H⟩ := H
            try dsimp only at H
            have A46 := Aside0.mk A460
            clear A460
            have c47b0 := eq_true (of_decide_eq_true (by first | (with_reducible assumption) | assumption) : 0 ≤ (ji43))
            have c48b0 := eq_true (of_decide_eq_true (by first | (with_reducible assumption) | assumption) : (ji43) ≤ (t476.size : Int))
            replace H := Option.bind_eq_some_iff.mp H
            obtain ⟨⟨t497, t498, t499, t500, t501⟩, A490, H⟩ := H
            try dsimp only at H
            have A49 := Aside0.mk A490
            clear A490
            replace H := Option.bind_eq_some_iff.mp H
            obtain ⟨⟨t503, t504, t505, t506, t507⟩, A500, H⟩ := H
            try dsimp only at H
            have A50 := Aside0.mk A500
            clear A500
            by_cases c51 : t495 = true
            ·subst c51
             rw [if_pos rfl] at H
             by_cases c52 : t501 = true
             ·subst c52
              rw [if_pos rfl] at H
              by_cases c53 : t507 = true
              ·subst c53
               rw [if_pos rfl] at H
               by_cases c54 : (!(t503 == t477) || (!(t504 == t478) || (!(t505 == t479) || (!(t506 == t480))))) = true
               ·rw [if_pos c54] at H
                have c54b0 : (!(t503 == t477) || (!(t504 == t478) || (!(t505 == t479) || (!(t506 == t480))))) = true := c54
                clear c54
                obtain rfl := Option.some.inj H
                cases hrt
               ·rw [if_neg c54] at H
                have c54b0 : (!(t503 == t477) || (!(t504 == t478) || (!(t505 == t479) || (!(t506 == t480))))) = false := by simpa using c54
                clear c54
                as_aux_lemma =>
                 have H' := Aside0.mk H
                 clear H
                 go_wp2_with (first | ((with_reducible refine gate_callee (f := 13) rfl ?_); refine goesL_ (some 103) rfl rfl Tryd.func13 (by kernel_rfl) rfl #[.string (t476.extract 0 ((ji43) : Int).toNat)] rfl (by (try simp only [List.map_toArray, List.map_cons, List.map_nil]); first | done | (simp only [hji43]; rfl) | rfl | (simp only [List.length_drop, List.length_take]; rfl)) ?_; (with_reducible refine (impl_MatrixOfWord.calls kj24 (t476.extract 0 ((ji43) : Int).toNat) t491 t492 t493 t494 true _ A46.out).mono ?_); rintro e w55 ⟨rfl, hb⟩; refine ⟨_, rfl, ?_⟩; replace BK482 := Aside0.mk (blk_below (pk BK482) hb); replace BK488 := Aside0.mk (blk_below (pk BK488) hb); replace HB := Aside0.mk (below_step (hk HB) hb); (try clear hb); (try clear hb2); (try clear hk); (try clear hi)) | ((with_reducible refine gate_dst (N := 13) rfl ?_); refine box_ 13 #[.int .i64 0, .int .i64 0, .int .i64 0, .int .i64 0] 36 ?_; intro gb496 hg w56 hbox hb; have BK496 := Aside0.mk (hbox); have GW496 := Aside0.mk ((by rw [hg]; exact (below_size (hk HB)) : w.heap.size ≤ gb496)); have GE496 := Aside0.mk ((by rw [hg]; exact (below_size (hk HB)) : w.heap.size ≤ gb496)); have NB482_496 := Aside0.mk ((by rw [hg]; exact Nat.ne_of_lt (blk_lt (pk BK482)) : gb482 ≠ gb496)); have NB496_482 := Aside0.mk ((by rw [hg]; exact Nat.ne_of_gt (blk_lt (pk BK482)) : gb496 ≠ gb482)); have NB488_496 := Aside0.mk ((by rw [hg]; exact Nat.ne_of_lt (blk_lt (pk BK488)) : gb488 ≠ gb496)); have NB496_488 := Aside0.mk ((by rw [hg]; exact Nat.ne_of_gt (blk_lt (pk BK488)) : gb496 ≠ gb488)); replace BK482 := Aside0.mk (blk_below (pk BK482) hb); replace BK488 := Aside0.mk (blk_below (pk BK488) hb); replace HB := Aside0.mk (below_step (hk HB) hb); clear hb hbox hg; have hnb57 := NB496_482.out; have hnc57 := NB482_496.out; have hnb58 := NB496_488.out; have hnc58 := NB488_496.out; obtain ⟨hcz59_0, hcz59_1, hcz59_2, hcz59_3, hfz59_0, hfz59_1, hfz59_2, hfz59_3⟩ := c4_ BK496) | ((with_reducible refine gate_callee (f := 13) rfl ?_); refine goesL_ (some 110) rfl rfl Tryd.func13 (by kernel_rfl) rfl #[.string (t476.extract ((ji43) : Int).toNat t476.size)] rfl (by (try simp only [List.map_toArray, List.map_cons, List.map_nil]); first | done | (simp only [hji43]; rfl) | rfl | (simp only [List.length_drop, List.length_take]; rfl)) ?_; (with_reducible refine (impl_MatrixOfWord.calls kj24 (t476.extract ((ji43) : Int).toNat t476.size) t497 t498 t499 t500 true _ A49.out).mono ?_); rintro e w60 ⟨rfl, hb⟩; refine ⟨_, rfl, ?_⟩; replace BK482 := Aside0.mk (blk_below (g := gb482) (o := .cells #[.int .i64 t477, .int .i64 t478, .int .i64 t479, .int .i64 t480] 36 (0, 0)) (by (with_reducible repeat (first | refine blk_drewN ?_ _ | refine blk_drew ?_ | refine blk_alloc ?_ _)); refine blk_far ?_ NB482_496.out _; (with_reducible repeat (first | refine blk_drewN ?_ _ | refine blk_drew ?_ | refine blk_alloc ?_ _)); refine blk_far ?_ NB482_496.out _; (with_reducible repeat (first | refine blk_drewN ?_ _ | refine blk_drew ?_ | refine blk_alloc ?_ _)); refine blk_far ?_ NB482_496.out _; (with_reducible repeat (first | refine blk_drewN ?_ _ | refine blk_drew ?_ | refine blk_alloc ?_ _)); refine blk_far ?_ NB482_496.out _; exact pk BK482) hb); replace BK488 := Aside0.mk (blk_below (g := gb488) (o := .cells #[.int .i64 t483, .int .i64 t484, .int .i64 t485, .int .i64 t486] 36 (0, 0)) (by (with_reducible repeat (first | refine blk_drewN ?_ _ | refine blk_drew ?_ | refine blk_alloc ?_ _)); refine blk_far ?_ NB488_496.out _; (with_reducible repeat (first | refine blk_drewN ?_ _ | refine blk_drew ?_ | refine blk_alloc ?_ _)); refine blk_far ?_ NB488_496.out _; (with_reducible repeat (first | refine blk_drewN ?_ _ | refine blk_drew ?_ | refine blk_alloc ?_ _)); refine blk_far ?_ NB488_496.out _; (with_reducible repeat (first | refine blk_drewN ?_ _ | refine blk_drew ?_ | refine blk_alloc ?_ _)); refine blk_far ?_ NB488_496.out _; exact pk BK488) hb); replace BK496 := Aside0.mk (blk_below (g := gb496) (o := .cells #[.int .i64 t491, .int .i64 t492, .int .i64 t493, .int .i64 t494] 36 (0, 0)) (by (with_reducible repeat (first | refine blk_drewN ?_ _ | refine blk_drew ?_ | refine blk_alloc ?_ _)); refine blk_put (cs := #[.int .i64 t491, .int .i64 t492, .int .i64 t493, .int .i64 0]) ?_ 3 _ rfl; (with_reducible repeat (first | refine blk_drewN ?_ _ | refine blk_drew ?_ | refine blk_alloc ?_ _)); refine blk_put (cs := #[.int .i64 t491, .int .i64 t492, .int .i64 0, .int .i64 0]) ?_ 2 _ rfl; (with_reducible repeat (first | refine blk_drewN ?_ _ | refine blk_drew ?_ | refine blk_alloc ?_ _)); refine blk_put (cs := #[.int .i64 t491, .int .i64 0, .int .i64 0, .int .i64 0]) ?_ 1 _ rfl; (with_reducible repeat (first | refine blk_drewN ?_ _ | refine blk_drew ?_ | refine blk_alloc ?_ _)); refine blk_put (cs := #[.int .i64 0, .int .i64 0, .int .i64 0, .int .i64 0]) ?_ 0 _ rfl; exact pk BK496) hb); replace HB := Aside0.mk (below_step (hk HB) hb); (try clear hb); (try clear hb2); (try clear hk); (try clear hi)) | ((with_reducible refine gate_dst (N := 15) rfl ?_); refine box_ 15 #[.int .i64 0, .int .i64 0, .int .i64 0, .int .i64 0] 36 ?_; intro gb502 hg w61 hbox hb; have BK502 := Aside0.mk (hbox); have GW502 := Aside0.mk ((by rw [hg]; exact (below_size (hk HB)) : w.heap.size ≤ gb502)); have GE502 := Aside0.mk ((by rw [hg]; exact (below_size (hk HB)) : w.heap.size ≤ gb502)); have NB482_502 := Aside0.mk ((by rw [hg]; exact Nat.ne_of_lt (blk_lt (pk BK482)) : gb482 ≠ gb502)); have NB502_482 := Aside0.mk ((by rw [hg]; exact Nat.ne_of_gt (blk_lt (pk BK482)) : gb502 ≠ gb482)); have NB488_502 := Aside0.mk ((by rw [hg]; exact Nat.ne_of_lt (blk_lt (pk BK488)) : gb488 ≠ gb502)); have NB502_488 := Aside0.mk ((by rw [hg]; exact Nat.ne_of_gt (blk_lt (pk BK488)) : gb502 ≠ gb488)); have NB496_502 := Aside0.mk ((by rw [hg]; exact Nat.ne_of_lt (blk_lt (pk BK496)) : gb496 ≠ gb502)); have NB502_496 := Aside0.mk ((by rw [hg]; exact Nat.ne_of_gt (blk_lt (pk BK496)) : gb502 ≠ gb496)); replace BK482 := Aside0.mk (blk_below (pk BK482) hb); replace BK488 := Aside0.mk (blk_below (pk BK488) hb); replace BK496 := Aside0.mk (blk_below (pk BK496) hb); replace HB := Aside0.mk (below_step (hk HB) hb); clear hb hbox hg; have hnb62 := NB502_482.out; have hnc62 := NB482_502.out; have hnb63 := NB502_488.out; have hnc63 := NB488_502.out; have hnb64 := NB502_496.out; have hnc64 := NB496_502.out; obtain ⟨hcz65_0, hcz65_1, hcz65_2, hcz65_3, hfz65_0, hfz65_1, hfz65_2, hfz65_3⟩ := c4_ BK502; obtain ⟨hcz66_0, hcz66_1, hcz66_2, hcz66_3, hfz66_0, hfz66_1, hfz66_2, hfz66_3⟩ := c4_ BK496) | ((with_reducible refine gate_callee (f := 16) rfl ?_); refine gof_ (some 116) Tryd.func16 #[.agg #[.int .i64 t491, .int .i64 t492, .int .i64 t493, .int .i64 t494], .agg #[.int .i64 t497, .int .i64 t498, .int .i64 t499, .int .i64 t500]] ?_; (with_reducible refine (impl_TimesMatrix.calls kj24 t491 t492 t493 t494 t497 t498 t499 t500 t503 t504 t505 t506 true _ A50.out).mono ?_); rintro e w67 ⟨rfl, hb⟩; refine ⟨_, rfl, ?_⟩; replace BK482 := Aside0.mk (blk_below (g := gb482) (o := .cells #[.int .i64 t477, .int .i64 t478, .int .i64 t479, .int .i64 t480] 36 (0, 0)) (by (with_reducible repeat (first | refine blk_drewN ?_ _ | refine blk_drew ?_ | refine blk_alloc ?_ _)); refine blk_far ?_ NB482_502.out _; (with_reducible repeat (first | refine blk_drewN ?_ _ | refine blk_drew ?_ | refine blk_alloc ?_ _)); refine blk_far ?_ NB482_502.out _; (with_reducible repeat (first | refine blk_drewN ?_ _ | refine blk_drew ?_ | refine blk_alloc ?_ _)); refine blk_far ?_ NB482_502.out _; (with_reducible repeat (first | refine blk_drewN ?_ _ | refine blk_drew ?_ | refine blk_alloc ?_ _)); refine blk_far ?_ NB482_502.out _; exact pk BK482) hb); replace BK488 := Aside0.mk (blk_below (g := gb488) (o := .cells #[.int .i64 t483, .int .i64 t484, .int .i64 t485, .int .i64 t486] 36 (0, 0)) (by (with_reducible repeat (first | refine blk_drewN ?_ _ | refine blk_drew ?_ | refine blk_alloc ?_ _)); refine blk_far ?_ NB488_502.out _; (with_reducible repeat (first | refine blk_drewN ?_ _ | refine blk_drew ?_ | refine blk_alloc ?_ _)); refine blk_far ?_ NB488_502.out _; (with_reducible repeat (first | refine blk_drewN ?_ _ | refine blk_drew ?_ | refine blk_alloc ?_ _)); refine blk_far ?_ NB488_502.out _; (with_reducible repeat (first | refine blk_drewN ?_ _ | refine blk_drew ?_ | refine blk_alloc ?_ _)); refine blk_far ?_ NB488_502.out _; exact pk BK488) hb); replace BK496 := Aside0.mk (blk_below (g := gb496) (o := .cells #[.int .i64 t491, .int .i64 t492, .int .i64 t493, .int .i64 t494] 36 (0, 0)) (by (with_reducible repeat (first | refine blk_drewN ?_ _ | refine blk_drew ?_ | refine blk_alloc ?_ _)); refine blk_far ?_ NB496_502.out _; (with_reducible repeat (first | refine blk_drewN ?_ _ | refine blk_drew ?_ | refine blk_alloc ?_ _)); refine blk_far ?_ NB496_502.out _; (with_reducible repeat (first | refine blk_drewN ?_ _ | refine blk_drew ?_ | refine blk_alloc ?_ _)); refine blk_far ?_ NB496_502.out _; (with_reducible repeat (first | refine blk_drewN ?_ _ | refine blk_drew ?_ | refine blk_alloc ?_ _)); refine blk_far ?_ NB496_502.out _; exact pk BK496) hb); replace BK502 := Aside0.mk (blk_below (g := gb502) (o := .cells #[.int .i64 t497, .int .i64 t498, .int .i64 t499, .int .i64 t500] 36 (0, 0)) (by (with_reducible repeat (first | refine blk_drewN ?_ _ | refine blk_drew ?_ | refine blk_alloc ?_ _)); refine blk_put (cs := #[.int .i64 t497, .int .i64 t498, .int .i64 t499, .int .i64 0]) ?_ 3 _ rfl; (with_reducible repeat (first | refine blk_drewN ?_ _ | refine blk_drew ?_ | refine blk_alloc ?_ _)); refine blk_put (cs := #[.int .i64 t497, .int .i64 t498, .int .i64 0, .int .i64 0]) ?_ 2 _ rfl; (with_reducible repeat (first | refine blk_drewN ?_ _ | refine blk_drew ?_ | refine blk_alloc ?_ _)); refine blk_put (cs := #[.int .i64 t497, .int .i64 0, .int .i64 0, .int .i64 0]) ?_ 1 _ rfl; (with_reducible repeat (first | refine blk_drewN ?_ _ | refine blk_drew ?_ | refine blk_alloc ?_ _)); refine blk_put (cs := #[.int .i64 0, .int .i64 0, .int .i64 0, .int .i64 0]) ?_ 0 _ rfl; exact pk BK502) hb); replace HB := Aside0.mk (below_step (hk HB) hb); (try clear hb); (try clear hb2); (try clear hk); (try clear hi)) | ((with_reducible refine gate_dst (N := 17) rfl ?_); refine box_ 17 #[.int .i64 0, .int .i64 0, .int .i64 0, .int .i64 0] 36 ?_; intro gb508 hg w68 hbox hb; have BK508 := Aside0.mk (hbox); have GW508 := Aside0.mk ((by rw [hg]; exact (below_size (hk HB)) : w.heap.size ≤ gb508)); have GE508 := Aside0.mk ((by rw [hg]; exact (below_size (hk HB)) : w.heap.size ≤ gb508)); have NB482_508 := Aside0.mk ((by rw [hg]; exact Nat.ne_of_lt (blk_lt (pk BK482)) : gb482 ≠ gb508)); have NB508_482 := Aside0.mk ((by rw [hg]; exact Nat.ne_of_gt (blk_lt (pk BK482)) : gb508 ≠ gb482)); have NB488_508 := Aside0.mk ((by rw [hg]; exact Nat.ne_of_lt (blk_lt (pk BK488)) : gb488 ≠ gb508)); have NB508_488 := Aside0.mk ((by rw [hg]; exact Nat.ne_of_gt (blk_lt (pk BK488)) : gb508 ≠ gb488)); have NB496_508 := Aside0.mk ((by rw [hg]; exact Nat.ne_of_lt (blk_lt (pk BK496)) : gb496 ≠ gb508)); have NB508_496 := Aside0.mk ((by rw [hg]; exact Nat.ne_of_gt (blk_lt (pk BK496)) : gb508 ≠ gb496)); have NB502_508 := Aside0.mk ((by rw [hg]; exact Nat.ne_of_lt (blk_lt (pk BK502)) : gb502 ≠ gb508)); have NB508_502 := Aside0.mk ((by rw [hg]; exact Nat.ne_of_gt (blk_lt (pk BK502)) : gb508 ≠ gb502)); replace BK482 := Aside0.mk (blk_below (pk BK482) hb); replace BK488 := Aside0.mk (blk_below (pk BK488) hb); replace BK496 := Aside0.mk (blk_below (pk BK496) hb); replace BK502 := Aside0.mk (blk_below (pk BK502) hb); replace HB := Aside0.mk (below_step (hk HB) hb); clear hb hbox hg; have hnb69 := NB508_482.out; have hnc69 := NB482_508.out; have hnb70 := NB508_488.out; have hnc70 := NB488_508.out; have hnb71 := NB508_496.out; have hnc71 := NB496_508.out; have hnb72 := NB508_502.out; have hnc72 := NB502_508.out; obtain ⟨hcz73_0, hcz73_1, hcz73_2, hcz73_3, hfz73_0, hfz73_1, hfz73_2, hfz73_3⟩ := c4_ BK508; have hnb74 := NB482_488.out; have hnc74 := NB488_482.out; obtain ⟨hcz75_0, hcz75_1, hcz75_2, hcz75_3, hfz75_0, hfz75_1, hfz75_2, hfz75_3⟩ := c4_ BK482))
                 go_meet
                 case rel => exact ⟨_, H', ⟨by have := HJ7.out; have := HJ24.out; first | omega | exact Nat.le_refl _⟩, ⟨by (with_reducible repeat (first | refine blk_drewN ?_ _ | refine blk_drew ?_ | refine blk_alloc ?_ _)); refine blk_far ?_ NB482_508.out _; (with_reducible repeat (first | refine blk_drewN ?_ _ | refine blk_drew ?_ | refine blk_alloc ?_ _)); refine blk_far ?_ NB482_508.out _; (with_reducible repeat (first | refine blk_drewN ?_ _ | refine blk_drew ?_ | refine blk_alloc ?_ _)); refine blk_far ?_ NB482_508.out _; (with_reducible repeat (first | refine blk_drewN ?_ _ | refine blk_drew ?_ | refine blk_alloc ?_ _)); refine blk_far ?_ NB482_508.out _; exact pk BK482⟩, ⟨by (with_reducible repeat (first | refine blk_drewN ?_ _ | refine blk_drew ?_ | refine blk_alloc ?_ _)); refine blk_far ?_ NB488_508.out _; (with_reducible repeat (first | refine blk_drewN ?_ _ | refine blk_drew ?_ | refine blk_alloc ?_ _)); refine blk_far ?_ NB488_508.out _; (with_reducible repeat (first | refine blk_drewN ?_ _ | refine blk_drew ?_ | refine blk_alloc ?_ _)); refine blk_far ?_ NB488_508.out _; (with_reducible repeat (first | refine blk_drewN ?_ _ | refine blk_drew ?_ | refine blk_alloc ?_ _)); refine blk_far ?_ NB488_508.out _; exact pk BK488⟩, ⟨by repeat (first | (with_reducible first | exact HB.out | apply below_alloc | apply pw_below_drewN | apply below_drew1 | refine below_set ?_ GE482.out | refine below_set ?_ GE488.out | refine below_set ?_ GE496.out | refine below_set ?_ GE502.out | refine below_set ?_ GE508.out) | exact HB.out)⟩⟩
              ·replace c53 := Bool.eq_false_iff.mpr c53
               subst c53
               rw [if_neg (show ¬ (false = true) by decide)] at H
               obtain rfl := Option.some.inj H
               cases hrt
             ·replace c52 := Bool.eq_false_iff.mpr c52
              subst c52
              rw [if_neg (show ¬ (false = true) by decide)] at H
              obtain rfl := Option.some.inj H
              cases hrt
            ·replace c51 := Bool.eq_false_iff.mpr c51
             subst c51
             rw [if_neg (show ¬ (false = true) by decide)] at H
             obtain rfl := Option.some.inj H
             cases hrt
           ·rw [if_neg c45] at H
            exact absurd H (by simp)
          ·rw [if_neg c44] at H
           exact absurd H (by simp)
      ·replace c23 := Bool.eq_false_iff.mpr c23
       subst c23
       rw [if_neg (show ¬ (false = true) by decide)] at H
       as_aux_lemma =>
        have H' := Aside0.mk H
        clear H
        go_wp2
        go_meet
        case rel => exact ⟨_, H', ⟨by have := HJ7.out; first | omega | exact Nat.le_refl _⟩, ⟨pk BK482⟩, ⟨pk BK488⟩, ⟨by repeat (first | (with_reducible first | exact HB.out | apply below_alloc | apply pw_below_drewN | apply below_drew1 | refine below_set ?_ GE482.out | refine below_set ?_ GE488.out) | exact HB.out)⟩⟩
     case rest =>
      clear HC22
      try clear c1
      try clear c2
      try clear p2
      try clear c3
      try clear c4
      try clear c5
      try clear c6
      try clear p6
      try clear c7
      try clear c11
      try clear c12
      try clear c13
      try clear c14
      try clear c15
      try clear c16
      try clear c17
      try clear c17b0
      try clear c17b1
      try clear c17b2
      try clear c18
      try clear c21
      try clear c23
      try clear c26
      try clear c29
      try clear c30
      try clear c30b0
      try clear c30b1
      try clear c31
      try clear c31b0
      try clear c32
      try clear c34
      try clear c34b0
      try clear c35
      try clear c37
      try clear c37b0
      try clear c38
      try clear c40
      try clear c42
      try clear c44
      try clear c44b0
      try clear c44b1
      try clear c45
      try clear c45b0
      try clear c45b1
      try clear c47
      try clear c47b0
      try clear c48
      try clear c48b0
      try clear c51
      try clear c52
      try clear c53
      try clear c54
      try clear c54b0
      try clear c57
      try clear c58
      try clear c62
      try clear c63
      try clear c64
      try clear p64
      try clear c69
      try clear c70
      try clear c71
      try clear c72
      try clear c74
      try clear hcz12_0
      try clear hcz12_1
      try clear hcz12_2
      try clear hcz12_3
      try clear hcz16_0
      try clear hcz16_1
      try clear hcz16_2
      try clear hcz16_3
      try clear hcz19_0
      try clear hcz19_1
      try clear hcz19_2
      try clear hcz19_3
      try clear hcz20_0
      try clear hcz20_1
      try clear hcz20_2
      try clear hcz20_3
      try clear hcz27_0
      try clear hcz27_1
      try clear hcz27_2
      try clear hcz27_3
      try clear hcz33_0
      try clear hcz33_1
      try clear hcz33_2
      try clear hcz33_3
      try clear hcz36_0
      try clear hcz36_1
      try clear hcz36_2
      try clear hcz36_3
      try clear hcz39_0
      try clear hcz39_1
      try clear hcz39_2
      try clear hcz39_3
      try clear hcz41_0
      try clear hcz41_1
      try clear hcz41_2
      try clear hcz41_3
      try clear hcz59_0
      try clear hcz59_1
      try clear hcz59_2
      try clear hcz59_3
      try clear hcz65_0
      try clear hcz65_1
      try clear hcz65_2
      try clear hcz65_3
      try clear hcz66_0
      try clear hcz66_1
      try clear hcz66_2
      try clear hcz66_3
      try clear hcz73_0
      try clear hcz73_1
      try clear hcz73_2
      try clear hcz73_3
      try clear hcz75_0
      try clear hcz75_1
      try clear hcz75_2
      try clear hcz75_3
      try clear hfz12_0
      try clear hfz12_1
      try clear hfz12_2
      try clear hfz12_3
      try clear hfz16_0
      try clear hfz16_1
      try clear hfz16_2
      try clear hfz16_3
      try clear hfz19_0
      try clear hfz19_1
      try clear hfz19_2
      try clear hfz19_3
      try clear hfz20_0
      try clear hfz20_1
      try clear hfz20_2
      try clear hfz20_3
      try clear hfz27_0
      try clear hfz27_1
      try clear hfz27_2
      try clear hfz27_3
      try clear hfz33_0
      try clear hfz33_1
      try clear hfz33_2
      try clear hfz33_3
      try clear hfz36_0
      try clear hfz36_1
      try clear hfz36_2
      try clear hfz36_3
      try clear hfz39_0
      try clear hfz39_1
      try clear hfz39_2
      try clear hfz39_3
      try clear hfz41_0
      try clear hfz41_1
      try clear hfz41_2
      try clear hfz41_3
      try clear hfz59_0
      try clear hfz59_1
      try clear hfz59_2
      try clear hfz59_3
      try clear hfz65_0
      try clear hfz65_1
      try clear hfz65_2
      try clear hfz65_3
      try clear hfz66_0
      try clear hfz66_1
      try clear hfz66_2
      try clear hfz66_3
      try clear hfz73_0
      try clear hfz73_1
      try clear hfz73_2
      try clear hfz73_3
      try clear hfz75_0
      try clear hfz75_1
      try clear hfz75_2
      try clear hfz75_3
      try clear p2
      obtain ⟨kq, HA, HJ21, BK482, BK488, HB⟩ := hcut
      cases kq with
      | zero => exact absurd HA.out (by simp [laws_FnWordsTold.j2])
      | succ kj21 =>
       have H := HA.out
       clear HA
       simp only [laws_FnWordsTold.j2] at H
       replace H := Option.bind_eq_some_iff.mp H
       obtain ⟨⟨t509, t510, t511, t512⟩, A760, H⟩ := H
       try dsimp only at H
       have A76 := Aside0.mk A760
       clear A760
       replace H := Option.bind_eq_some_iff.mp H
       obtain ⟨⟨t514, t515⟩, A770, H⟩ := H
       try dsimp only at H
       have A77 := Aside0.mk A770
       clear A770
       replace H := Option.bind_eq_some_iff.mp H
       obtain ⟨⟨t516, t517⟩, A780, H⟩ := H
       try dsimp only at H
       have A78 := Aside0.mk A780
       clear A780
       replace H := Option.bind_eq_some_iff.mp H
       obtain ⟨⟨t518, t519, t520, t521, t522, t523⟩, A790, H⟩ := H
       try dsimp only at H
       have A79 := Aside0.mk A790
       clear A790
       replace H := Option.bind_eq_some_iff.mp H
       obtain ⟨⟨t526, t527, t528⟩, A800, H⟩ := H
       try dsimp only at H
       have A80 := Aside0.mk A800
       clear A800
       replace H := Option.bind_eq_some_iff.mp H
       obtain ⟨⟨t529, t530, t531⟩, A810, H⟩ := H
       try dsimp only at H
       have A81 := Aside0.mk A810
       clear A810
       have HC82 := Aside0.mk H
       clear H
       go_upto_region 24 with (first | ((with_reducible refine gate_callee (f := 17) rfl ?_); refine gof_ (some 135) Tryd.func17 #[.slice A1 l1.length c1] ?_; (with_reducible refine (spec_DrawWordOfMatrix.calls kj21 _ _ l1 t509 t510 t511 t512 _ ?side1 ?side2 A76.out).mono ?_); (case side1 => repeat (first | exact (Kd.C_below HR1.out HB.out) | (with_reducible refine Kd.C_alloc ?_ _) | (with_reducible refine Kd.C_drewN ?_ _) | (with_reducible refine Kd.C_drew ?_))); (case side2 => exact HC1.out); rintro e w83 ⟨rfl, hb⟩; refine ⟨_, rfl, ?_⟩; replace BK482 := Aside0.mk (blk_below (pk BK482) hb); replace BK488 := Aside0.mk (blk_below (pk BK488) hb); replace HB := Aside0.mk (below_step (hk HB) hb); (try clear hb); (try clear hb2); (try clear hk); (try clear hi)) | ((with_reducible refine gate_dst (N := 19) rfl ?_); refine box_ 19 #[.int .i64 0, .int .i64 0, .int .i64 0, .int .i64 0] 36 ?_; intro gb513 hg w84 hbox hb; have BK513 := Aside0.mk (hbox); have GW513 := Aside0.mk ((by rw [hg]; exact (below_size (hk HB)) : w.heap.size ≤ gb513)); have GE513 := Aside0.mk ((by rw [hg]; exact (below_size (hk HB)) : w.heap.size ≤ gb513)); have NB482_513 := Aside0.mk ((by rw [hg]; exact Nat.ne_of_lt (blk_lt (pk BK482)) : gb482 ≠ gb513)); have NB513_482 := Aside0.mk ((by rw [hg]; exact Nat.ne_of_gt (blk_lt (pk BK482)) : gb513 ≠ gb482)); have NB488_513 := Aside0.mk ((by rw [hg]; exact Nat.ne_of_lt (blk_lt (pk BK488)) : gb488 ≠ gb513)); have NB513_488 := Aside0.mk ((by rw [hg]; exact Nat.ne_of_gt (blk_lt (pk BK488)) : gb513 ≠ gb488)); replace BK482 := Aside0.mk (blk_below (pk BK482) hb); replace BK488 := Aside0.mk (blk_below (pk BK488) hb); replace HB := Aside0.mk (below_step (hk HB) hb); clear hb hbox hg; have hnb85 := NB513_482.out; have hnc85 := NB482_513.out; have hnb86 := NB513_488.out; have hnc86 := NB488_513.out; obtain ⟨hcz87_0, hcz87_1, hcz87_2, hcz87_3, hfz87_0, hfz87_1, hfz87_2, hfz87_3⟩ := c4_ BK513) | ((with_reducible refine gate_callee (f := 15) rfl ?_); refine gof_ (some 138) Tryd.func15 #[.agg #[.int .i64 t509, .int .i64 t510, .int .i64 t511, .int .i64 t512]] ?_; (with_reducible refine (impl_WordOfMatrix.calls kj21 t509 t510 t511 t512 t514 t515 _ A77.out).mono ?_); rintro e w88 ⟨rfl, hb⟩; refine ⟨_, rfl, ?_⟩; replace BK482 := Aside0.mk (blk_below (g := gb482) (o := .cells #[.int .i64 t477, .int .i64 t478, .int .i64 t479, .int .i64 t480] 36 (0, 0)) (by (with_reducible repeat (first | refine blk_drewN ?_ _ | refine blk_drew ?_ | refine blk_alloc ?_ _)); refine blk_far ?_ NB482_513.out _; (with_reducible repeat (first | refine blk_drewN ?_ _ | refine blk_drew ?_ | refine blk_alloc ?_ _)); refine blk_far ?_ NB482_513.out _; (with_reducible repeat (first | refine blk_drewN ?_ _ | refine blk_drew ?_ | refine blk_alloc ?_ _)); refine blk_far ?_ NB482_513.out _; (with_reducible repeat (first | refine blk_drewN ?_ _ | refine blk_drew ?_ | refine blk_alloc ?_ _)); refine blk_far ?_ NB482_513.out _; exact pk BK482) hb); replace BK488 := Aside0.mk (blk_below (g := gb488) (o := .cells #[.int .i64 t483, .int .i64 t484, .int .i64 t485, .int .i64 t486] 36 (0, 0)) (by (with_reducible repeat (first | refine blk_drewN ?_ _ | refine blk_drew ?_ | refine blk_alloc ?_ _)); refine blk_far ?_ NB488_513.out _; (with_reducible repeat (first | refine blk_drewN ?_ _ | refine blk_drew ?_ | refine blk_alloc ?_ _)); refine blk_far ?_ NB488_513.out _; (with_reducible repeat (first | refine blk_drewN ?_ _ | refine blk_drew ?_ | refine blk_alloc ?_ _)); refine blk_far ?_ NB488_513.out _; (with_reducible repeat (first | refine blk_drewN ?_ _ | refine blk_drew ?_ | refine blk_alloc ?_ _)); refine blk_far ?_ NB488_513.out _; exact pk BK488) hb); replace BK513 := Aside0.mk (blk_below (g := gb513) (o := .cells #[.int .i64 t509, .int .i64 t510, .int .i64 t511, .int .i64 t512] 36 (0, 0)) (by (with_reducible repeat (first | refine blk_drewN ?_ _ | refine blk_drew ?_ | refine blk_alloc ?_ _)); refine blk_put (cs := #[.int .i64 t509, .int .i64 t510, .int .i64 t511, .int .i64 0]) ?_ 3 _ rfl; (with_reducible repeat (first | refine blk_drewN ?_ _ | refine blk_drew ?_ | refine blk_alloc ?_ _)); refine blk_put (cs := #[.int .i64 t509, .int .i64 t510, .int .i64 0, .int .i64 0]) ?_ 2 _ rfl; (with_reducible repeat (first | refine blk_drewN ?_ _ | refine blk_drew ?_ | refine blk_alloc ?_ _)); refine blk_put (cs := #[.int .i64 t509, .int .i64 0, .int .i64 0, .int .i64 0]) ?_ 1 _ rfl; (with_reducible repeat (first | refine blk_drewN ?_ _ | refine blk_drew ?_ | refine blk_alloc ?_ _)); refine blk_put (cs := #[.int .i64 0, .int .i64 0, .int .i64 0, .int .i64 0]) ?_ 0 _ rfl; exact pk BK513) hb); replace HB := Aside0.mk (below_step (hk HB) hb); (try clear hb); (try clear hb2); (try clear hk); (try clear hi); obtain ⟨hcz89_0, hcz89_1, hcz89_2, hcz89_3, hfz89_0, hfz89_1, hfz89_2, hfz89_3⟩ := c4_ BK513) | ((with_reducible refine gate_callee (f := 18) rfl ?_); refine gof_ (some 143) Tryd.func18 #[.agg #[.int .i64 t509, .int .i64 t510, .int .i64 t511, .int .i64 t512]] ?_; (with_reducible refine (spec_WordOfMatrix.calls kj21 t509 t510 t511 t512 t516 t517 _ A78.out).mono ?_); rintro e w90 ⟨rfl, hb⟩; refine ⟨_, rfl, ?_⟩; replace BK482 := Aside0.mk (blk_below (pk BK482) hb); replace BK488 := Aside0.mk (blk_below (pk BK488) hb); replace BK513 := Aside0.mk (blk_below (pk BK513) hb); replace HB := Aside0.mk (below_step (hk HB) hb); (try clear hb); (try clear hb2); (try clear hk); (try clear hi)) | ((with_reducible refine gate_callee (f := 19) rfl ?_); refine gof_ (some 148) Tryd.func19 #[.slice A1 l1.length c1] ?_; (with_reducible refine (spec_DrawMoveFraction.calls kj21 _ _ l1 t518 t519 t520 t521 t522 t523 _ ?side1 ?side2 A79.out).mono ?_); (case side1 => repeat (first | exact (Kd.C_below HR1.out HB.out) | (with_reducible refine Kd.C_alloc ?_ _) | (with_reducible refine Kd.C_drewN ?_ _) | (with_reducible refine Kd.C_drew ?_))); (case side2 => exact HC1.out); rintro e w91 ⟨rfl, hb⟩; refine ⟨_, rfl, ?_⟩; replace BK482 := Aside0.mk (blk_below (pk BK482) hb); replace BK488 := Aside0.mk (blk_below (pk BK488) hb); replace BK513 := Aside0.mk (blk_below (pk BK513) hb); replace HB := Aside0.mk (below_step (hk HB) hb); (try clear hb); (try clear hb2); (try clear hk); (try clear hi)) | ((with_reducible refine gate_dst (N := 24) rfl ?_); refine box_ 24 #[.int .i64 0, .int .i64 0, .int .i64 0, .int .i64 0] 36 ?_; intro gb524 hg w92 hbox hb; have BK524 := Aside0.mk (hbox); have GW524 := Aside0.mk ((by rw [hg]; exact (below_size (hk HB)) : w.heap.size ≤ gb524)); have GE524 := Aside0.mk ((by rw [hg]; exact (below_size (hk HB)) : w.heap.size ≤ gb524)); have NB482_524 := Aside0.mk ((by rw [hg]; exact Nat.ne_of_lt (blk_lt (pk BK482)) : gb482 ≠ gb524)); have NB524_482 := Aside0.mk ((by rw [hg]; exact Nat.ne_of_gt (blk_lt (pk BK482)) : gb524 ≠ gb482)); have NB488_524 := Aside0.mk ((by rw [hg]; exact Nat.ne_of_lt (blk_lt (pk BK488)) : gb488 ≠ gb524)); have NB524_488 := Aside0.mk ((by rw [hg]; exact Nat.ne_of_gt (blk_lt (pk BK488)) : gb524 ≠ gb488)); have NB513_524 := Aside0.mk ((by rw [hg]; exact Nat.ne_of_lt (blk_lt (pk BK513)) : gb513 ≠ gb524)); have NB524_513 := Aside0.mk ((by rw [hg]; exact Nat.ne_of_gt (blk_lt (pk BK513)) : gb524 ≠ gb513)); replace BK482 := Aside0.mk (blk_below (pk BK482) hb); replace BK488 := Aside0.mk (blk_below (pk BK488) hb); replace BK513 := Aside0.mk (blk_below (pk BK513) hb); replace HB := Aside0.mk (below_step (hk HB) hb); clear hb hbox hg) | ((with_reducible refine gate_dst (N := 25) rfl ?_); refine box_ 25 #[.int .i64 0, .int .i64 0] 43 ?_; intro gb525 hg w93 hbox hb; have BK525 := Aside0.mk (hbox); have GW525 := Aside0.mk ((by rw [hg]; exact (below_size (hk HB)) : w.heap.size ≤ gb525)); have GE525 := Aside0.mk ((by rw [hg]; exact (below_size (hk HB)) : w.heap.size ≤ gb525)); have NB482_525 := Aside0.mk ((by rw [hg]; exact Nat.ne_of_lt (blk_lt (pk BK482)) : gb482 ≠ gb525)); have NB525_482 := Aside0.mk ((by rw [hg]; exact Nat.ne_of_gt (blk_lt (pk BK482)) : gb525 ≠ gb482)); have NB488_525 := Aside0.mk ((by rw [hg]; exact Nat.ne_of_lt (blk_lt (pk BK488)) : gb488 ≠ gb525)); have NB525_488 := Aside0.mk ((by rw [hg]; exact Nat.ne_of_gt (blk_lt (pk BK488)) : gb525 ≠ gb488)); have NB513_525 := Aside0.mk ((by rw [hg]; exact Nat.ne_of_lt (blk_lt (pk BK513)) : gb513 ≠ gb525)); have NB525_513 := Aside0.mk ((by rw [hg]; exact Nat.ne_of_gt (blk_lt (pk BK513)) : gb525 ≠ gb513)); have NB524_525 := Aside0.mk ((by rw [hg]; exact Nat.ne_of_lt (blk_lt (pk BK524)) : gb524 ≠ gb525)); have NB525_524 := Aside0.mk ((by rw [hg]; exact Nat.ne_of_gt (blk_lt (pk BK524)) : gb525 ≠ gb524)); replace BK482 := Aside0.mk (blk_below (pk BK482) hb); replace BK488 := Aside0.mk (blk_below (pk BK488) hb); replace BK513 := Aside0.mk (blk_below (pk BK513) hb); replace BK524 := Aside0.mk (blk_below (pk BK524) hb); replace HB := Aside0.mk (below_step (hk HB) hb); clear hb hbox hg; have hnb94 := NB524_482.out; have hnc94 := NB482_524.out; have hnb95 := NB524_488.out; have hnc95 := NB488_524.out; have hnb96 := NB524_513.out; have hnc96 := NB513_524.out; have hnb97 := NB524_525.out; have hnc97 := NB525_524.out; obtain ⟨hcz98_0, hcz98_1, hcz98_2, hcz98_3, hfz98_0, hfz98_1, hfz98_2, hfz98_3⟩ := c4_ BK524; have hnb99 := NB525_482.out; have hnc99 := NB482_525.out; have hnb100 := NB525_488.out; have hnc100 := NB488_525.out; have hnb101 := NB525_513.out; have hnc101 := NB513_525.out; obtain ⟨hcz102_0, hcz102_1, hfz102_0, hfz102_1⟩ := c2_ BK525) | ((with_reducible refine gate_callee (f := 20) rfl ?_); refine gof_ (some 154) Tryd.func20 #[.agg #[.int .i64 t518, .int .i64 t519, .int .i64 t520, .int .i64 t521], .agg #[.int .i64 t522, .int .i64 t523]] ?_; (with_reducible refine (impl_MoveFraction.calls kj21 t518 t519 t520 t521 t522 t523 t526 t527 t528 _ A80.out).mono ?_); rintro e w103 ⟨rfl, hb⟩; refine ⟨_, rfl, ?_⟩; replace BK482 := Aside0.mk (blk_below (g := gb482) (o := .cells #[.int .i64 t477, .int .i64 t478, .int .i64 t479, .int .i64 t480] 36 (0, 0)) (by (with_reducible repeat (first | refine blk_drewN ?_ _ | refine blk_drew ?_ | refine blk_alloc ?_ _)); refine blk_far ?_ NB482_525.out _; (with_reducible repeat (first | refine blk_drewN ?_ _ | refine blk_drew ?_ | refine blk_alloc ?_ _)); refine blk_far ?_ NB482_525.out _; (with_reducible repeat (first | refine blk_drewN ?_ _ | refine blk_drew ?_ | refine blk_alloc ?_ _)); refine blk_far ?_ NB482_524.out _; (with_reducible repeat (first | refine blk_drewN ?_ _ | refine blk_drew ?_ | refine blk_alloc ?_ _)); refine blk_far ?_ NB482_524.out _; (with_reducible repeat (first | refine blk_drewN ?_ _ | refine blk_drew ?_ | refine blk_alloc ?_ _)); refine blk_far ?_ NB482_524.out _; (with_reducible repeat (first | refine blk_drewN ?_ _ | refine blk_drew ?_ | refine blk_alloc ?_ _)); refine blk_far ?_ NB482_524.out _; exact pk BK482) hb); replace BK488 := Aside0.mk (blk_below (g := gb488) (o := .cells #[.int .i64 t483, .int .i64 t484, .int .i64 t485, .int .i64 t486] 36 (0, 0)) (by (with_reducible repeat (first | refine blk_drewN ?_ _ | refine blk_drew ?_ | refine blk_alloc ?_ _)); refine blk_far ?_ NB488_525.out _; (with_reducible repeat (first | refine blk_drewN ?_ _ | refine blk_drew ?_ | refine blk_alloc ?_ _)); refine blk_far ?_ NB488_525.out _; (with_reducible repeat (first | refine blk_drewN ?_ _ | refine blk_drew ?_ | refine blk_alloc ?_ _)); refine blk_far ?_ NB488_524.out _; (with_reducible repeat (first | refine blk_drewN ?_ _ | refine blk_drew ?_ | refine blk_alloc ?_ _)); refine blk_far ?_ NB488_524.out _; (with_reducible repeat (first | refine blk_drewN ?_ _ | refine blk_drew ?_ | refine blk_alloc ?_ _)); refine blk_far ?_ NB488_524.out _; (with_reducible repeat (first | refine blk_drewN ?_ _ | refine blk_drew ?_ | refine blk_alloc ?_ _)); refine blk_far ?_ NB488_524.out _; exact pk BK488) hb); replace BK513 := Aside0.mk (blk_below (g := gb513) (o := .cells #[.int .i64 t509, .int .i64 t510, .int .i64 t511, .int .i64 t512] 36 (0, 0)) (by (with_reducible repeat (first | refine blk_drewN ?_ _ | refine blk_drew ?_ | refine blk_alloc ?_ _)); refine blk_far ?_ NB513_525.out _; (with_reducible repeat (first | refine blk_drewN ?_ _ | refine blk_drew ?_ | refine blk_alloc ?_ _)); refine blk_far ?_ NB513_525.out _; (with_reducible repeat (first | refine blk_drewN ?_ _ | refine blk_drew ?_ | refine blk_alloc ?_ _)); refine blk_far ?_ NB513_524.out _; (with_reducible repeat (first | refine blk_drewN ?_ _ | refine blk_drew ?_ | refine blk_alloc ?_ _)); refine blk_far ?_ NB513_524.out _; (with_reducible repeat (first | refine blk_drewN ?_ _ | refine blk_drew ?_ | refine blk_alloc ?_ _)); refine blk_far ?_ NB513_524.out _; (with_reducible repeat (first | refine blk_drewN ?_ _ | refine blk_drew ?_ | refine blk_alloc ?_ _)); refine blk_far ?_ NB513_524.out _; exact pk BK513) hb); replace BK524 := Aside0.mk (blk_below (g := gb524) (o := .cells #[.int .i64 t518, .int .i64 t519, .int .i64 t520, .int .i64 t521] 36 (0, 0)) (by (with_reducible repeat (first | refine blk_drewN ?_ _ | refine blk_drew ?_ | refine blk_alloc ?_ _)); refine blk_far ?_ NB524_525.out _; (with_reducible repeat (first | refine blk_drewN ?_ _ | refine blk_drew ?_ | refine blk_alloc ?_ _)); refine blk_far ?_ NB524_525.out _; (with_reducible repeat (first | refine blk_drewN ?_ _ | refine blk_drew ?_ | refine blk_alloc ?_ _)); refine blk_put (cs := #[.int .i64 t518, .int .i64 t519, .int .i64 t520, .int .i64 0]) ?_ 3 _ rfl; (with_reducible repeat (first | refine blk_drewN ?_ _ | refine blk_drew ?_ | refine blk_alloc ?_ _)); refine blk_put (cs := #[.int .i64 t518, .int .i64 t519, .int .i64 0, .int .i64 0]) ?_ 2 _ rfl; (with_reducible repeat (first | refine blk_drewN ?_ _ | refine blk_drew ?_ | refine blk_alloc ?_ _)); refine blk_put (cs := #[.int .i64 t518, .int .i64 0, .int .i64 0, .int .i64 0]) ?_ 1 _ rfl; (with_reducible repeat (first | refine blk_drewN ?_ _ | refine blk_drew ?_ | refine blk_alloc ?_ _)); refine blk_put (cs := #[.int .i64 0, .int .i64 0, .int .i64 0, .int .i64 0]) ?_ 0 _ rfl; exact pk BK524) hb); replace BK525 := Aside0.mk (blk_below (g := gb525) (o := .cells #[.int .i64 t522, .int .i64 t523] 43 (0, 0)) (by (with_reducible repeat (first | refine blk_drewN ?_ _ | refine blk_drew ?_ | refine blk_alloc ?_ _)); refine blk_put (cs := #[.int .i64 t522, .int .i64 0]) ?_ 1 _ rfl; (with_reducible repeat (first | refine blk_drewN ?_ _ | refine blk_drew ?_ | refine blk_alloc ?_ _)); refine blk_put (cs := #[.int .i64 0, .int .i64 0]) ?_ 0 _ rfl; (with_reducible repeat (first | refine blk_drewN ?_ _ | refine blk_drew ?_ | refine blk_alloc ?_ _)); refine blk_far ?_ NB525_524.out _; (with_reducible repeat (first | refine blk_drewN ?_ _ | refine blk_drew ?_ | refine blk_alloc ?_ _)); refine blk_far ?_ NB525_524.out _; (with_reducible repeat (first | refine blk_drewN ?_ _ | refine blk_drew ?_ | refine blk_alloc ?_ _)); refine blk_far ?_ NB525_524.out _; (with_reducible repeat (first | refine blk_drewN ?_ _ | refine blk_drew ?_ | refine blk_alloc ?_ _)); refine blk_far ?_ NB525_524.out _; exact pk BK525) hb); replace HB := Aside0.mk (below_step (hk HB) hb); (try clear hb); (try clear hb2); (try clear hk); (try clear hi); obtain ⟨hcz104_0, hcz104_1, hcz104_2, hcz104_3, hfz104_0, hfz104_1, hfz104_2, hfz104_3⟩ := c4_ BK524; obtain ⟨hcz105_0, hcz105_1, hfz105_0, hfz105_1⟩ := c2_ BK525) | ((with_reducible refine gate_callee (f := 21) rfl ?_); refine gof_ (some 161) Tryd.func21 #[.agg #[.int .i64 t518, .int .i64 t519, .int .i64 t520, .int .i64 t521], .agg #[.int .i64 t522, .int .i64 t523]] ?_; (with_reducible refine (spec_MoveFraction.calls kj21 t518 t519 t520 t521 t522 t523 t529 t530 t531 _ A81.out).mono ?_); rintro e w106 ⟨rfl, hb⟩; refine ⟨_, rfl, ?_⟩; replace BK482 := Aside0.mk (blk_below (pk BK482) hb); replace BK488 := Aside0.mk (blk_below (pk BK488) hb); replace BK513 := Aside0.mk (blk_below (pk BK513) hb); replace BK524 := Aside0.mk (blk_below (pk BK524) hb); replace BK525 := Aside0.mk (blk_below (pk BK525) hb); replace HB := Aside0.mk (below_step (hk HB) hb); (try clear hb); (try clear hb2); (try clear hk); (try clear hi)))
       (try simp only [Act.put, List.setIfInBounds_toArray, List.set_cons_zero, List.set_cons_succ])
       go_cut [187] (fun v187 wc => ∃ (kq : Nat) (x187_81 : Bool), v187 = .bool x187_81 ∧ Aside0 (laws_FnWordsTold.j3 kq t514 t515 t526 t527 t528 x187_81 t509 t510 t511 t512 t518 t519 t520 t521 t522 t523 = some r) ∧ Aside0 (kq ≤ kj21) ∧ Aside0 (wc.heap[gb482]? = some (.cells #[.int .i64 t477, .int .i64 t478, .int .i64 t479, .int .i64 t480] 36 (0, 0))) ∧ Aside0 (wc.heap[gb488]? = some (.cells #[.int .i64 t483, .int .i64 t484, .int .i64 t485, .int .i64 t486] 36 (0, 0))) ∧ Aside0 (wc.heap[gb513]? = some (.cells #[.int .i64 t509, .int .i64 t510, .int .i64 t511, .int .i64 t512] 36 (0, 0))) ∧ Aside0 (wc.heap[gb524]? = some (.cells #[.int .i64 t518, .int .i64 t519, .int .i64 t520, .int .i64 t521] 36 (0, 0))) ∧ Aside0 (wc.heap[gb525]? = some (.cells #[.int .i64 t522, .int .i64 t523] 43 (0, 0))) ∧ Aside0 (Below w.heap.size w wc))
       case first =>
        have H := HC82.out
        clear HC82
        by_cases c107 : (t515 != t517) = true
        ·rw [if_pos c107] at H
         have c107b0 : (t515 != t517) = true := c107
         (try (have c107b1 : decide (t515 = t517) = false := by simpa using c107))
         (try (have c107b2 : (t515 == t517) = false := by simpa using c107))
         (try (have c107b3 : ¬ (t515 = t517) := by simpa using c107))
         clear c107
         (first | rw [c107b0] | (simp only [i64_w, i32_w]; rw [c107b0]) | skip)
         as_aux_lemma =>
          have H' := Aside0.mk H
          clear H
          go_wp2
          go_meet
          case rel => exact ⟨_, (true), (by first | rfl | (simp; done) | (simp [*]; done)), H', ⟨by have := HJ7.out; have := HJ21.out; first | omega | exact Nat.le_refl _⟩, ⟨pk BK482⟩, ⟨pk BK488⟩, ⟨pk BK513⟩, ⟨pk BK524⟩, ⟨pk BK525⟩, ⟨by repeat (first | (with_reducible first | exact HB.out | apply below_alloc | apply pw_below_drewN | apply below_drew1 | refine below_set ?_ GE482.out | refine below_set ?_ GE488.out | refine below_set ?_ GE513.out | refine below_set ?_ GE524.out | refine below_set ?_ GE525.out) | exact HB.out)⟩⟩
        ·rw [if_neg c107] at H
         have c107b0 : (t515 != t517) = false := by simpa using c107
         (try (have c107b1 : decide (t515 = t517) = true := by simpa using c107))
         (try (have c107b2 : (t515 == t517) = true := by simpa using c107))
         clear c107
         (first | rw [c107b0] | (simp only [i64_w, i32_w]; rw [c107b0]) | skip)
         by_cases c108 : t514.toList = t516.toList
         ·rw [if_pos c108] at H
          have c108b0 : (t514.toList == t516.toList) = true := beq_iff_eq.mpr c108
          have c108b1 : (t514.toList != t516.toList) = false := bne_eq_false_iff_eq.mpr c108
          clear c108
          by_cases c109 : (t528 != t531) = true
          ·rw [if_pos c109] at H
           have c109b0 : (t528 != t531) = true := c109
           (try (have c109b1 : decide (t528 = t531) = false := by simpa using c109))
           (try (have c109b2 : (t528 == t531) = false := by simpa using c109))
           (try (have c109b3 : ¬ (t528 = t531) := by simpa using c109))
           clear c109
           as_aux_lemma =>
            have H' := Aside0.mk H
            clear H
            go_wp2
            go_meet
            case rel => exact ⟨_, (true), (by first | rfl | (simp; done) | (simp [*]; done)), H', ⟨by have := HJ7.out; have := HJ21.out; first | omega | exact Nat.le_refl _⟩, ⟨pk BK482⟩, ⟨pk BK488⟩, ⟨pk BK513⟩, ⟨pk BK524⟩, ⟨pk BK525⟩, ⟨by repeat (first | (with_reducible first | exact HB.out | apply below_alloc | apply pw_below_drewN | apply below_drew1 | refine below_set ?_ GE482.out | refine below_set ?_ GE488.out | refine below_set ?_ GE513.out | refine below_set ?_ GE524.out | refine below_set ?_ GE525.out) | exact HB.out)⟩⟩
          ·rw [if_neg c109] at H
           have c109b0 : (t528 != t531) = false := by simpa using c109
           (try (have c109b1 : decide (t528 = t531) = true := by simpa using c109))
           (try (have c109b2 : (t528 == t531) = true := by simpa using c109))
           clear c109
           by_cases c110 : t526 = t529
           ·rw [if_pos c110] at H
            have c110b0 : (t526 == t529) = true := beq_iff_eq.mpr c110
            have c110b1 : (t526 != t529) = false := bne_eq_false_iff_eq.mpr c110
            clear c110
            as_aux_lemma =>
             have H' := Aside0.mk H
             clear H
             go_wp2
             go_meet
             case rel => exact ⟨_, ((t527 != t530)), (by first | rfl | (simp; done) | (simp [*]; done)), H', ⟨by have := HJ7.out; have := HJ21.out; first | omega | exact Nat.le_refl _⟩, ⟨pk BK482⟩, ⟨pk BK488⟩, ⟨pk BK513⟩, ⟨pk BK524⟩, ⟨pk BK525⟩, ⟨by repeat (first | (with_reducible first | exact HB.out | apply below_alloc | apply pw_below_drewN | apply below_drew1 | refine below_set ?_ GE482.out | refine below_set ?_ GE488.out | refine below_set ?_ GE513.out | refine below_set ?_ GE524.out | refine below_set ?_ GE525.out) | exact HB.out)⟩⟩
           ·rw [if_neg c110] at H
            have c110b0 : (t526 == t529) = false := beq_eq_false_iff_ne.mpr c110
            have c110b1 : (t526 != t529) = true := bne_iff_ne.mpr c110
            as_aux_lemma =>
             have H' := Aside0.mk H
             clear H
             go_wp2
             go_meet
             case rel => exact ⟨_, (true), (by first | rfl | (simp; done) | (simp [*]; done)), H', ⟨by have := HJ7.out; have := HJ21.out; first | omega | exact Nat.le_refl _⟩, ⟨pk BK482⟩, ⟨pk BK488⟩, ⟨pk BK513⟩, ⟨pk BK524⟩, ⟨pk BK525⟩, ⟨by repeat (first | (with_reducible first | exact HB.out | apply below_alloc | apply pw_below_drewN | apply below_drew1 | refine below_set ?_ GE482.out | refine below_set ?_ GE488.out | refine below_set ?_ GE513.out | refine below_set ?_ GE524.out | refine below_set ?_ GE525.out) | exact HB.out)⟩⟩
         ·rw [if_neg c108] at H
          have c108b0 : (t514.toList == t516.toList) = false := beq_eq_false_iff_ne.mpr c108
          have c108b1 : (t514.toList != t516.toList) = true := bne_iff_ne.mpr c108
          as_aux_lemma =>
           have H' := Aside0.mk H
           clear H
           go_wp2
           go_meet
           case rel => exact ⟨_, (true), (by first | rfl | (simp; done) | (simp [*]; done)), H', ⟨by have := HJ7.out; have := HJ21.out; first | omega | exact Nat.le_refl _⟩, ⟨pk BK482⟩, ⟨pk BK488⟩, ⟨pk BK513⟩, ⟨pk BK524⟩, ⟨pk BK525⟩, ⟨by repeat (first | (with_reducible first | exact HB.out | apply below_alloc | apply pw_below_drewN | apply below_drew1 | refine below_set ?_ GE482.out | refine below_set ?_ GE488.out | refine below_set ?_ GE513.out | refine below_set ?_ GE524.out | refine below_set ?_ GE525.out) | exact HB.out)⟩⟩
       case rest =>
        clear HC82
        try clear c1
        try clear c2
        try clear p2
        try clear c3
        try clear c4
        try clear c5
        try clear c6
        try clear p6
        try clear c7
        try clear c8
        try clear c9
        try clear c10
        try clear c11
        try clear c12
        try clear c13
        try clear c14
        try clear c15
        try clear c16
        try clear c17
        try clear c17b0
        try clear c17b1
        try clear c17b2
        try clear c18
        try clear c19
        try clear c20
        try clear c21
        try clear c23
        try clear c26
        try clear c29
        try clear c30
        try clear c30b0
        try clear c30b1
        try clear c31
        try clear c31b0
        try clear c32
        try clear c34
        try clear c34b0
        try clear c35
        try clear c37
        try clear c37b0
        try clear c38
        try clear c40
        try clear c42
        try clear c44
        try clear c44b0
        try clear c44b1
        try clear c45
        try clear c45b0
        try clear c45b1
        try clear c47
        try clear c47b0
        try clear c48
        try clear c48b0
        try clear c51
        try clear c52
        try clear c53
        try clear c54
        try clear c54b0
        try clear c57
        try clear c58
        try clear c62
        try clear c63
        try clear c64
        try clear p64
        try clear c69
        try clear c70
        try clear c71
        try clear c72
        try clear c74
        try clear c85
        try clear c86
        try clear c94
        try clear c95
        try clear c96
        try clear c97
        try clear c99
        try clear c100
        try clear c101
        try clear c107
        try clear c107b0
        try clear c107b1
        try clear c107b2
        try clear c108
        try clear c108b0
        try clear c108b1
        try clear c109
        try clear c109b0
        try clear c109b1
        try clear c109b2
        try clear c110
        try clear c110b0
        try clear c110b1
        try clear hcz102_0
        try clear hcz102_1
        try clear hcz104_0
        try clear hcz104_1
        try clear hcz104_2
        try clear hcz104_3
        try clear hcz105_0
        try clear hcz105_1
        try clear hcz12_0
        try clear hcz12_1
        try clear hcz12_2
        try clear hcz12_3
        try clear hcz16_0
        try clear hcz16_1
        try clear hcz16_2
        try clear hcz16_3
        try clear hcz19_0
        try clear hcz19_1
        try clear hcz19_2
        try clear hcz19_3
        try clear hcz20_0
        try clear hcz20_1
        try clear hcz20_2
        try clear hcz20_3
        try clear hcz27_0
        try clear hcz27_1
        try clear hcz27_2
        try clear hcz27_3
        try clear hcz33_0
        try clear hcz33_1
        try clear hcz33_2
        try clear hcz33_3
        try clear hcz36_0
        try clear hcz36_1
        try clear hcz36_2
        try clear hcz36_3
        try clear hcz39_0
        try clear hcz39_1
        try clear hcz39_2
        try clear hcz39_3
        try clear hcz41_0
        try clear hcz41_1
        try clear hcz41_2
        try clear hcz41_3
        try clear hcz59_0
        try clear hcz59_1
        try clear hcz59_2
        try clear hcz59_3
        try clear hcz65_0
        try clear hcz65_1
        try clear hcz65_2
        try clear hcz65_3
        try clear hcz66_0
        try clear hcz66_1
        try clear hcz66_2
        try clear hcz66_3
        try clear hcz73_0
        try clear hcz73_1
        try clear hcz73_2
        try clear hcz73_3
        try clear hcz75_0
        try clear hcz75_1
        try clear hcz75_2
        try clear hcz75_3
        try clear hcz87_0
        try clear hcz87_1
        try clear hcz87_2
        try clear hcz87_3
        try clear hcz89_0
        try clear hcz89_1
        try clear hcz89_2
        try clear hcz89_3
        try clear hcz98_0
        try clear hcz98_1
        try clear hcz98_2
        try clear hcz98_3
        try clear hfz102_0
        try clear hfz102_1
        try clear hfz104_0
        try clear hfz104_1
        try clear hfz104_2
        try clear hfz104_3
        try clear hfz105_0
        try clear hfz105_1
        try clear hfz12_0
        try clear hfz12_1
        try clear hfz12_2
        try clear hfz12_3
        try clear hfz16_0
        try clear hfz16_1
        try clear hfz16_2
        try clear hfz16_3
        try clear hfz19_0
        try clear hfz19_1
        try clear hfz19_2
        try clear hfz19_3
        try clear hfz20_0
        try clear hfz20_1
        try clear hfz20_2
        try clear hfz20_3
        try clear hfz27_0
        try clear hfz27_1
        try clear hfz27_2
        try clear hfz27_3
        try clear hfz33_0
        try clear hfz33_1
        try clear hfz33_2
        try clear hfz33_3
        try clear hfz36_0
        try clear hfz36_1
        try clear hfz36_2
        try clear hfz36_3
        try clear hfz39_0
        try clear hfz39_1
        try clear hfz39_2
        try clear hfz39_3
        try clear hfz41_0
        try clear hfz41_1
        try clear hfz41_2
        try clear hfz41_3
        try clear hfz59_0
        try clear hfz59_1
        try clear hfz59_2
        try clear hfz59_3
        try clear hfz65_0
        try clear hfz65_1
        try clear hfz65_2
        try clear hfz65_3
        try clear hfz66_0
        try clear hfz66_1
        try clear hfz66_2
        try clear hfz66_3
        try clear hfz73_0
        try clear hfz73_1
        try clear hfz73_2
        try clear hfz73_3
        try clear hfz75_0
        try clear hfz75_1
        try clear hfz75_2
        try clear hfz75_3
        try clear hfz87_0
        try clear hfz87_1
        try clear hfz87_2
        try clear hfz87_3
        try clear hfz89_0
        try clear hfz89_1
        try clear hfz89_2
        try clear hfz89_3
        try clear hfz98_0
        try clear hfz98_1
        try clear hfz98_2
        try clear hfz98_3
        try clear p2
        try clear p6
        try clear p64
        obtain ⟨kq, x187_81, rfl, HA, HJ81, BK482, BK488, BK513, BK524, BK525, HB⟩ := hcut
        cases kq with
        | zero => exact absurd HA.out (by simp [laws_FnWordsTold.j3])
        | succ kj81 =>
         have H := HA.out
         clear HA
         simp only [laws_FnWordsTold.j3] at H
         by_cases c111 : x187_81 = true
         ·subst c111
          rw [if_pos rfl] at H
          obtain rfl := Option.some.inj H
          cases hrt
         ·replace c111 := Bool.eq_false_iff.mpr c111
          subst c111
          rw [if_neg (show ¬ (false = true) by decide)] at H
          have HC112 := Aside0.mk H
          clear H
          go_upto_if 188 with (fail)
          go_cut [] (fun wc => ∃ (kq : Nat), Aside0 (laws_FnWordsTold.j4 kq t526 t527 t528 t518 t519 t520 t521 t522 t523 = some r) ∧ Aside0 (kq ≤ kj81) ∧ Aside0 (wc.heap[gb482]? = some (.cells #[.int .i64 t477, .int .i64 t478, .int .i64 t479, .int .i64 t480] 36 (0, 0))) ∧ Aside0 (wc.heap[gb488]? = some (.cells #[.int .i64 t483, .int .i64 t484, .int .i64 t485, .int .i64 t486] 36 (0, 0))) ∧ Aside0 (wc.heap[gb513]? = some (.cells #[.int .i64 t509, .int .i64 t510, .int .i64 t511, .int .i64 t512] 36 (0, 0))) ∧ Aside0 (wc.heap[gb524]? = some (.cells #[.int .i64 t518, .int .i64 t519, .int .i64 t520, .int .i64 t521] 36 (0, 0))) ∧ Aside0 (wc.heap[gb525]? = some (.cells #[.int .i64 t522, .int .i64 t523] 43 (0, 0))) ∧ Aside0 (Below w.heap.size w wc))
          case first =>
           have H := HC112.out
           clear HC112
           by_cases c113 : t515 = true
           ·subst c113
            rw [if_pos rfl] at H
            replace H := Option.bind_eq_some_iff.mp H
            obtain ⟨⟨t532, t533, t534, t535, t536⟩, A1140, H⟩ := H
            try dsimp only at H
            have A114 := Aside0.mk A1140
            clear A1140
            by_cases c115 : t536 = true
            ·subst c115
             rw [if_pos rfl] at H
             by_cases c116 : (!(t532 == t509) || (!(t533 == t510) || (!(t534 == t511) || (!(t535 == t512))))) = true
             ·rw [if_pos c116] at H
              have c116b0 : (!(t532 == t509) || (!(t533 == t510) || (!(t534 == t511) || (!(t535 == t512))))) = true := c116
              clear c116
              (first | rw [c116b0] | (simp only [i64_w, i32_w]; rw [c116b0]) | skip)
              obtain rfl := Option.some.inj H
              cases hrt
             ·rw [if_neg c116] at H
              have c116b0 : (!(t532 == t509) || (!(t533 == t510) || (!(t534 == t511) || (!(t535 == t512))))) = false := by simpa using c116
              clear c116
              (first | rw [c116b0] | (simp only [i64_w, i32_w]; rw [c116b0]) | skip)
              as_aux_lemma =>
               have H' := Aside0.mk H
               clear H
               go_wp2_with (first | ((with_reducible refine gate_callee (f := 13) rfl ?_); refine gof_ (some 191) Tryd.func13 #[.string t514] ?_; (with_reducible refine (impl_MatrixOfWord.calls kj81 t514 t532 t533 t534 t535 true _ A114.out).mono ?_); rintro e w117 ⟨rfl, hb⟩; refine ⟨_, rfl, ?_⟩; replace BK482 := Aside0.mk (blk_below (pk BK482) hb); replace BK488 := Aside0.mk (blk_below (pk BK488) hb); replace BK513 := Aside0.mk (blk_below (pk BK513) hb); replace BK524 := Aside0.mk (blk_below (pk BK524) hb); replace BK525 := Aside0.mk (blk_below (pk BK525) hb); replace HB := Aside0.mk (below_step (hk HB) hb); (try clear hb); (try clear hb2); (try clear hk); (try clear hi)) | ((with_reducible refine gate_dst (N := 32) rfl ?_); refine box_ 32 #[.int .i64 0, .int .i64 0, .int .i64 0, .int .i64 0] 36 ?_; intro gb537 hg w118 hbox hb; have BK537 := Aside0.mk (hbox); have GW537 := Aside0.mk ((by rw [hg]; exact (below_size (hk HB)) : w.heap.size ≤ gb537)); have GE537 := Aside0.mk ((by rw [hg]; exact (below_size (hk HB)) : w.heap.size ≤ gb537)); have NB482_537 := Aside0.mk ((by rw [hg]; exact Nat.ne_of_lt (blk_lt (pk BK482)) : gb482 ≠ gb537)); have NB537_482 := Aside0.mk ((by rw [hg]; exact Nat.ne_of_gt (blk_lt (pk BK482)) : gb537 ≠ gb482)); have NB488_537 := Aside0.mk ((by rw [hg]; exact Nat.ne_of_lt (blk_lt (pk BK488)) : gb488 ≠ gb537)); have NB537_488 := Aside0.mk ((by rw [hg]; exact Nat.ne_of_gt (blk_lt (pk BK488)) : gb537 ≠ gb488)); have NB513_537 := Aside0.mk ((by rw [hg]; exact Nat.ne_of_lt (blk_lt (pk BK513)) : gb513 ≠ gb537)); have NB537_513 := Aside0.mk ((by rw [hg]; exact Nat.ne_of_gt (blk_lt (pk BK513)) : gb537 ≠ gb513)); have NB524_537 := Aside0.mk ((by rw [hg]; exact Nat.ne_of_lt (blk_lt (pk BK524)) : gb524 ≠ gb537)); have NB537_524 := Aside0.mk ((by rw [hg]; exact Nat.ne_of_gt (blk_lt (pk BK524)) : gb537 ≠ gb524)); have NB525_537 := Aside0.mk ((by rw [hg]; exact Nat.ne_of_lt (blk_lt (pk BK525)) : gb525 ≠ gb537)); have NB537_525 := Aside0.mk ((by rw [hg]; exact Nat.ne_of_gt (blk_lt (pk BK525)) : gb537 ≠ gb525)); replace BK482 := Aside0.mk (blk_below (pk BK482) hb); replace BK488 := Aside0.mk (blk_below (pk BK488) hb); replace BK513 := Aside0.mk (blk_below (pk BK513) hb); replace BK524 := Aside0.mk (blk_below (pk BK524) hb); replace BK525 := Aside0.mk (blk_below (pk BK525) hb); replace HB := Aside0.mk (below_step (hk HB) hb); clear hb hbox hg; have hnb119 := NB537_482.out; have hnc119 := NB482_537.out; have hnb120 := NB537_488.out; have hnc120 := NB488_537.out; have hnb121 := NB537_513.out; have hnc121 := NB513_537.out; have hnb122 := NB537_524.out; have hnc122 := NB524_537.out; have hnb123 := NB537_525.out; have hnc123 := NB525_537.out; obtain ⟨hcz124_0, hcz124_1, hcz124_2, hcz124_3, hfz124_0, hfz124_1, hfz124_2, hfz124_3⟩ := c4_ BK537; have hnb125 := NB513_482.out; have hnc125 := NB482_513.out; have hnb126 := NB513_488.out; have hnc126 := NB488_513.out; have hnb127 := NB513_524.out; have hnc127 := NB524_513.out; have hnb128 := NB513_525.out; have hnc128 := NB525_513.out; obtain ⟨hcz129_0, hcz129_1, hcz129_2, hcz129_3, hfz129_0, hfz129_1, hfz129_2, hfz129_3⟩ := c4_ BK513))
               go_meet
               case rel => exact ⟨_, H', ⟨by have := HJ7.out; have := HJ21.out; have := HJ81.out; first | omega | exact Nat.le_refl _⟩, ⟨by (with_reducible repeat (first | refine blk_drewN ?_ _ | refine blk_drew ?_ | refine blk_alloc ?_ _)); refine blk_far ?_ NB482_537.out _; (with_reducible repeat (first | refine blk_drewN ?_ _ | refine blk_drew ?_ | refine blk_alloc ?_ _)); refine blk_far ?_ NB482_537.out _; (with_reducible repeat (first | refine blk_drewN ?_ _ | refine blk_drew ?_ | refine blk_alloc ?_ _)); refine blk_far ?_ NB482_537.out _; (with_reducible repeat (first | refine blk_drewN ?_ _ | refine blk_drew ?_ | refine blk_alloc ?_ _)); refine blk_far ?_ NB482_537.out _; exact pk BK482⟩, ⟨by (with_reducible repeat (first | refine blk_drewN ?_ _ | refine blk_drew ?_ | refine blk_alloc ?_ _)); refine blk_far ?_ NB488_537.out _; (with_reducible repeat (first | refine blk_drewN ?_ _ | refine blk_drew ?_ | refine blk_alloc ?_ _)); refine blk_far ?_ NB488_537.out _; (with_reducible repeat (first | refine blk_drewN ?_ _ | refine blk_drew ?_ | refine blk_alloc ?_ _)); refine blk_far ?_ NB488_537.out _; (with_reducible repeat (first | refine blk_drewN ?_ _ | refine blk_drew ?_ | refine blk_alloc ?_ _)); refine blk_far ?_ NB488_537.out _; exact pk BK488⟩, ⟨by (with_reducible repeat (first | refine blk_drewN ?_ _ | refine blk_drew ?_ | refine blk_alloc ?_ _)); refine blk_far ?_ NB513_537.out _; (with_reducible repeat (first | refine blk_drewN ?_ _ | refine blk_drew ?_ | refine blk_alloc ?_ _)); refine blk_far ?_ NB513_537.out _; (with_reducible repeat (first | refine blk_drewN ?_ _ | refine blk_drew ?_ | refine blk_alloc ?_ _)); refine blk_far ?_ NB513_537.out _; (with_reducible repeat (first | refine blk_drewN ?_ _ | refine blk_drew ?_ | refine blk_alloc ?_ _)); refine blk_far ?_ NB513_537.out _; exact pk BK513⟩, ⟨by (with_reducible repeat (first | refine blk_drewN ?_ _ | refine blk_drew ?_ | refine blk_alloc ?_ _)); refine blk_far ?_ NB524_537.out _; (with_reducible repeat (first | refine blk_drewN ?_ _ | refine blk_drew ?_ | refine blk_alloc ?_ _)); refine blk_far ?_ NB524_537.out _; (with_reducible repeat (first | refine blk_drewN ?_ _ | refine blk_drew ?_ | refine blk_alloc ?_ _)); refine blk_far ?_ NB524_537.out _; (with_reducible repeat (first | refine blk_drewN ?_ _ | refine blk_drew ?_ | refine blk_alloc ?_ _)); refine blk_far ?_ NB524_537.out _; exact pk BK524⟩, ⟨by (with_reducible repeat (first | refine blk_drewN ?_ _ | refine blk_drew ?_ | refine blk_alloc ?_ _)); refine blk_far ?_ NB525_537.out _; (with_reducible repeat (first | refine blk_drewN ?_ _ | refine blk_drew ?_ | refine blk_alloc ?_ _)); refine blk_far ?_ NB525_537.out _; (with_reducible repeat (first | refine blk_drewN ?_ _ | refine blk_drew ?_ | refine blk_alloc ?_ _)); refine blk_far ?_ NB525_537.out _; (with_reducible repeat (first | refine blk_drewN ?_ _ | refine blk_drew ?_ | refine blk_alloc ?_ _)); refine blk_far ?_ NB525_537.out _; exact pk BK525⟩, ⟨by repeat (first | (with_reducible first | exact HB.out | apply below_alloc | apply pw_below_drewN | apply below_drew1 | refine below_set ?_ GE482.out | refine below_set ?_ GE488.out | refine below_set ?_ GE513.out | refine below_set ?_ GE524.out | refine below_set ?_ GE525.out | refine below_set ?_ GE537.out) | exact HB.out)⟩⟩
            ·replace c115 := Bool.eq_false_iff.mpr c115
             subst c115
             rw [if_neg (show ¬ (false = true) by decide)] at H
             obtain rfl := Option.some.inj H
             cases hrt
           ·replace c113 := Bool.eq_false_iff.mpr c113
            subst c113
            rw [if_neg (show ¬ (false = true) by decide)] at H
            as_aux_lemma =>
             have H' := Aside0.mk H
             clear H
             go_wp2
             go_meet
             case rel => exact ⟨_, H', ⟨by have := HJ7.out; have := HJ21.out; have := HJ81.out; first | omega | exact Nat.le_refl _⟩, ⟨pk BK482⟩, ⟨pk BK488⟩, ⟨pk BK513⟩, ⟨pk BK524⟩, ⟨pk BK525⟩, ⟨by repeat (first | (with_reducible first | exact HB.out | apply below_alloc | apply pw_below_drewN | apply below_drew1 | refine below_set ?_ GE482.out | refine below_set ?_ GE488.out | refine below_set ?_ GE513.out | refine below_set ?_ GE524.out | refine below_set ?_ GE525.out) | exact HB.out)⟩⟩
          case rest =>
           clear HC112
           try clear c1
           try clear c2
           try clear p2
           try clear c3
           try clear c4
           try clear c5
           try clear c6
           try clear p6
           try clear c7
           try clear c8
           try clear c9
           try clear c10
           try clear c11
           try clear c12
           try clear c13
           try clear c14
           try clear c15
           try clear c16
           try clear c17
           try clear c17b0
           try clear c17b1
           try clear c17b2
           try clear c18
           try clear c19
           try clear c20
           try clear c21
           try clear c23
           try clear c26
           try clear c29
           try clear c30
           try clear c30b0
           try clear c30b1
           try clear c31
           try clear c31b0
           try clear c32
           try clear c34
           try clear c34b0
           try clear c35
           try clear c37
           try clear c37b0
           try clear c38
           try clear c40
           try clear c42
           try clear c44
           try clear c44b0
           try clear c44b1
           try clear c45
           try clear c45b0
           try clear c45b1
           try clear c47
           try clear c47b0
           try clear c48
           try clear c48b0
           try clear c51
           try clear c52
           try clear c53
           try clear c54
           try clear c54b0
           try clear c57
           try clear c58
           try clear c62
           try clear c63
           try clear c64
           try clear p64
           try clear c69
           try clear c70
           try clear c71
           try clear c72
           try clear c74
           try clear c85
           try clear c86
           try clear c94
           try clear c95
           try clear c96
           try clear c97
           try clear c99
           try clear c100
           try clear c101
           try clear c107
           try clear c107b0
           try clear c107b1
           try clear c107b2
           try clear c108
           try clear c108b0
           try clear c108b1
           try clear c109
           try clear c109b0
           try clear c109b1
           try clear c109b2
           try clear c110
           try clear c110b0
           try clear c110b1
           try clear c111
           try clear c113
           try clear c115
           try clear c116
           try clear c116b0
           try clear c119
           try clear c120
           try clear c121
           try clear c122
           try clear c123
           try clear c125
           try clear c126
           try clear c127
           try clear c128
           try clear hcz102_0
           try clear hcz102_1
           try clear hcz104_0
           try clear hcz104_1
           try clear hcz104_2
           try clear hcz104_3
           try clear hcz105_0
           try clear hcz105_1
           try clear hcz124_0
           try clear hcz124_1
           try clear hcz124_2
           try clear hcz124_3
           try clear hcz129_0
           try clear hcz129_1
           try clear hcz129_2
           try clear hcz129_3
           try clear hcz12_0
           try clear hcz12_1
           try clear hcz12_2
           try clear hcz12_3
           try clear hcz16_0
           try clear hcz16_1
           try clear hcz16_2
           try clear hcz16_3
           try clear hcz19_0
           try clear hcz19_1
           try clear hcz19_2
           try clear hcz19_3
           try clear hcz20_0
           try clear hcz20_1
           try clear hcz20_2
           try clear hcz20_3
           try clear hcz27_0
           try clear hcz27_1
           try clear hcz27_2
           try clear hcz27_3
           try clear hcz33_0
           try clear hcz33_1
           try clear hcz33_2
           try clear hcz33_3
           try clear hcz36_0
           try clear hcz36_1
           try clear hcz36_2
           try clear hcz36_3
           try clear hcz39_0
           try clear hcz39_1
           try clear hcz39_2
           try clear hcz39_3
           try clear hcz41_0
           try clear hcz41_1
           try clear hcz41_2
           try clear hcz41_3
           try clear hcz59_0
           try clear hcz59_1
           try clear hcz59_2
           try clear hcz59_3
           try clear hcz65_0
           try clear hcz65_1
           try clear hcz65_2
           try clear hcz65_3
           try clear hcz66_0
           try clear hcz66_1
           try clear hcz66_2
           try clear hcz66_3
           try clear hcz73_0
           try clear hcz73_1
           try clear hcz73_2
           try clear hcz73_3
           try clear hcz75_0
           try clear hcz75_1
           try clear hcz75_2
           try clear hcz75_3
           try clear hcz87_0
           try clear hcz87_1
           try clear hcz87_2
           try clear hcz87_3
           try clear hcz89_0
           try clear hcz89_1
           try clear hcz89_2
           try clear hcz89_3
           try clear hcz98_0
           try clear hcz98_1
           try clear hcz98_2
           try clear hcz98_3
           try clear hfz102_0
           try clear hfz102_1
           try clear hfz104_0
           try clear hfz104_1
           try clear hfz104_2
           try clear hfz104_3
           try clear hfz105_0
           try clear hfz105_1
           try clear hfz124_0
           try clear hfz124_1
           try clear hfz124_2
           try clear hfz124_3
           try clear hfz129_0
           try clear hfz129_1
           try clear hfz129_2
           try clear hfz129_3
           try clear hfz12_0
           try clear hfz12_1
           try clear hfz12_2
           try clear hfz12_3
           try clear hfz16_0
           try clear hfz16_1
           try clear hfz16_2
           try clear hfz16_3
           try clear hfz19_0
           try clear hfz19_1
           try clear hfz19_2
           try clear hfz19_3
           try clear hfz20_0
           try clear hfz20_1
           try clear hfz20_2
           try clear hfz20_3
           try clear hfz27_0
           try clear hfz27_1
           try clear hfz27_2
           try clear hfz27_3
           try clear hfz33_0
           try clear hfz33_1
           try clear hfz33_2
           try clear hfz33_3
           try clear hfz36_0
           try clear hfz36_1
           try clear hfz36_2
           try clear hfz36_3
           try clear hfz39_0
           try clear hfz39_1
           try clear hfz39_2
           try clear hfz39_3
           try clear hfz41_0
           try clear hfz41_1
           try clear hfz41_2
           try clear hfz41_3
           try clear hfz59_0
           try clear hfz59_1
           try clear hfz59_2
           try clear hfz59_3
           try clear hfz65_0
           try clear hfz65_1
           try clear hfz65_2
           try clear hfz65_3
           try clear hfz66_0
           try clear hfz66_1
           try clear hfz66_2
           try clear hfz66_3
           try clear hfz73_0
           try clear hfz73_1
           try clear hfz73_2
           try clear hfz73_3
           try clear hfz75_0
           try clear hfz75_1
           try clear hfz75_2
           try clear hfz75_3
           try clear hfz87_0
           try clear hfz87_1
           try clear hfz87_2
           try clear hfz87_3
           try clear hfz89_0
           try clear hfz89_1
           try clear hfz89_2
           try clear hfz89_3
           try clear hfz98_0
           try clear hfz98_1
           try clear hfz98_2
           try clear hfz98_3
           try clear p2
           try clear p6
           try clear p64
           obtain ⟨kq, HA, HJ111, BK482, BK488, BK513, BK524, BK525, HB⟩ := hcut
           cases kq with
           | zero => exact absurd HA.out (by simp [laws_FnWordsTold.j4])
           | succ kj111 =>
            have H := HA.out
            clear HA
            simp only [laws_FnWordsTold.j4] at H
            by_cases c130 : t528 = true
            ·subst c130
             rw [if_pos rfl] at H
             have HC131 := Aside0.mk H
             clear H
             go_upto_region 31 with (fail)
             go_cut [211] (fun v211 wc => ∃ (kq : Nat) (x211_130 : Bool), v211 = .bool x211_130 ∧ Aside0 (laws_FnWordsTold.j5 kq t526 t527 x211_130 t518 t519 t520 t521 t522 t523 = some r) ∧ Aside0 (kq ≤ kj111) ∧ Aside0 (wc.heap[gb482]? = some (.cells #[.int .i64 t477, .int .i64 t478, .int .i64 t479, .int .i64 t480] 36 (0, 0))) ∧ Aside0 (wc.heap[gb488]? = some (.cells #[.int .i64 t483, .int .i64 t484, .int .i64 t485, .int .i64 t486] 36 (0, 0))) ∧ Aside0 (wc.heap[gb513]? = some (.cells #[.int .i64 t509, .int .i64 t510, .int .i64 t511, .int .i64 t512] 36 (0, 0))) ∧ Aside0 (wc.heap[gb524]? = some (.cells #[.int .i64 t518, .int .i64 t519, .int .i64 t520, .int .i64 t521] 36 (0, 0))) ∧ Aside0 (wc.heap[gb525]? = some (.cells #[.int .i64 t522, .int .i64 t523] 43 (0, 0))) ∧ Aside0 (Below w.heap.size w wc))
             case first =>
              have H := HC131.out
              clear HC131
              by_cases c132 : t527 < 0
              ·rw [if_pos c132] at H
               have c132b0 : decide (t527 < 0) = true := decide_eq_true c132
               clear c132
               (first | rw [c132b0] | (simp only [i64_w, i32_w]; rw [c132b0]) | skip)
               as_aux_lemma =>
                have H' := Aside0.mk H
                clear H
                go_wp2
                go_meet
                case rel => exact ⟨_, (true), (by first | rfl | (simp; done) | (simp [*]; done)), H', ⟨by have := HJ7.out; have := HJ21.out; have := HJ81.out; have := HJ111.out; first | omega | exact Nat.le_refl _⟩, ⟨pk BK482⟩, ⟨pk BK488⟩, ⟨pk BK513⟩, ⟨pk BK524⟩, ⟨pk BK525⟩, ⟨by repeat (first | (with_reducible first | exact HB.out | apply below_alloc | apply pw_below_drewN | apply below_drew1 | refine below_set ?_ GE482.out | refine below_set ?_ GE488.out | refine below_set ?_ GE513.out | refine below_set ?_ GE524.out | refine below_set ?_ GE525.out) | exact HB.out)⟩⟩
              ·rw [if_neg c132] at H
               have c132b0 : decide (t527 < 0) = false := decide_eq_false c132
               clear c132
               (first | rw [c132b0] | (simp only [i64_w, i32_w]; rw [c132b0]) | skip)
               by_cases c133 : t527 = 0
               ·rw [if_pos c133] at H
                have c133b0 : (t527 == 0) = true := beq_iff_eq.mpr c133
                have c133b1 : (t527 != 0) = false := bne_eq_false_iff_eq.mpr c133
                clear c133
                as_aux_lemma =>
                 have H' := Aside0.mk H
                 clear H
                 go_wp2
                 go_meet
                 case rel => exact ⟨_, ((t526 != 1)), (by first | rfl | (simp; done) | (simp [*]; done)), H', ⟨by have := HJ7.out; have := HJ21.out; have := HJ81.out; have := HJ111.out; first | omega | exact Nat.le_refl _⟩, ⟨pk BK482⟩, ⟨pk BK488⟩, ⟨pk BK513⟩, ⟨pk BK524⟩, ⟨pk BK525⟩, ⟨by repeat (first | (with_reducible first | exact HB.out | apply below_alloc | apply pw_below_drewN | apply below_drew1 | refine below_set ?_ GE482.out | refine below_set ?_ GE488.out | refine below_set ?_ GE513.out | refine below_set ?_ GE524.out | refine below_set ?_ GE525.out) | exact HB.out)⟩⟩
               ·rw [if_neg c133] at H
                have c133b0 : (t527 == 0) = false := beq_eq_false_iff_ne.mpr c133
                have c133b1 : (t527 != 0) = true := bne_iff_ne.mpr c133
                as_aux_lemma =>
                 have H' := Aside0.mk H
                 clear H
                 go_wp2
                 go_meet
                 case rel => exact ⟨_, (false), (by first | rfl | (simp; done) | (simp [*]; done)), H', ⟨by have := HJ7.out; have := HJ21.out; have := HJ81.out; have := HJ111.out; first | omega | exact Nat.le_refl _⟩, ⟨pk BK482⟩, ⟨pk BK488⟩, ⟨pk BK513⟩, ⟨pk BK524⟩, ⟨pk BK525⟩, ⟨by repeat (first | (with_reducible first | exact HB.out | apply below_alloc | apply pw_below_drewN | apply below_drew1 | refine below_set ?_ GE482.out | refine below_set ?_ GE488.out | refine below_set ?_ GE513.out | refine below_set ?_ GE524.out | refine below_set ?_ GE525.out) | exact HB.out)⟩⟩
             case rest =>
              clear HC131
              try clear c1
              try clear c2
              try clear p2
              try clear c3
              try clear c4
              try clear c5
              try clear c6
              try clear p6
              try clear c7
              try clear c8
              try clear c9
              try clear c10
              try clear c11
              try clear c12
              try clear c13
              try clear c14
              try clear c15
              try clear c16
              try clear c17
              try clear c17b0
              try clear c17b1
              try clear c17b2
              try clear c18
              try clear c19
              try clear c20
              try clear c21
              try clear c23
              try clear c26
              try clear c29
              try clear c30
              try clear c30b0
              try clear c30b1
              try clear c31
              try clear c31b0
              try clear c32
              try clear c34
              try clear c34b0
              try clear c35
              try clear c37
              try clear c37b0
              try clear c38
              try clear c40
              try clear c42
              try clear c44
              try clear c44b0
              try clear c44b1
              try clear c45
              try clear c45b0
              try clear c45b1
              try clear c47
              try clear c47b0
              try clear c48
              try clear c48b0
              try clear c51
              try clear c52
              try clear c53
              try clear c54
              try clear c54b0
              try clear c57
              try clear c58
              try clear c62
              try clear c63
              try clear c64
              try clear p64
              try clear c69
              try clear c70
              try clear c71
              try clear c72
              try clear c74
              try clear c85
              try clear c86
              try clear c94
              try clear c95
              try clear c96
              try clear c97
              try clear c99
              try clear c100
              try clear c101
              try clear c107
              try clear c107b0
              try clear c107b1
              try clear c107b2
              try clear c108
              try clear c108b0
              try clear c108b1
              try clear c109
              try clear c109b0
              try clear c109b1
              try clear c109b2
              try clear c110
              try clear c110b0
              try clear c110b1
              try clear c111
              try clear c113
              try clear c115
              try clear c116
              try clear c116b0
              try clear c119
              try clear c120
              try clear c121
              try clear c122
              try clear c123
              try clear c125
              try clear c126
              try clear c127
              try clear c128
              try clear c130
              try clear c132
              try clear c132b0
              try clear c133
              try clear c133b0
              try clear c133b1
              try clear hcz102_0
              try clear hcz102_1
              try clear hcz104_0
              try clear hcz104_1
              try clear hcz104_2
              try clear hcz104_3
              try clear hcz105_0
              try clear hcz105_1
              try clear hcz124_0
              try clear hcz124_1
              try clear hcz124_2
              try clear hcz124_3
              try clear hcz129_0
              try clear hcz129_1
              try clear hcz129_2
              try clear hcz129_3
              try clear hcz12_0
              try clear hcz12_1
              try clear hcz12_2
              try clear hcz12_3
              try clear hcz16_0
              try clear hcz16_1
              try clear hcz16_2
              try clear hcz16_3
              try clear hcz19_0
              try clear hcz19_1
              try clear hcz19_2
              try clear hcz19_3
              try clear hcz20_0
              try clear hcz20_1
              try clear hcz20_2
              try clear hcz20_3
              try clear hcz27_0
              try clear hcz27_1
              try clear hcz27_2
              try clear hcz27_3
              try clear hcz33_0
              try clear hcz33_1
              try clear hcz33_2
              try clear hcz33_3
              try clear hcz36_0
              try clear hcz36_1
              try clear hcz36_2
              try clear hcz36_3
              try clear hcz39_0
              try clear hcz39_1
              try clear hcz39_2
              try clear hcz39_3
              try clear hcz41_0
              try clear hcz41_1
              try clear hcz41_2
              try clear hcz41_3
              try clear hcz59_0
              try clear hcz59_1
              try clear hcz59_2
              try clear hcz59_3
              try clear hcz65_0
              try clear hcz65_1
              try clear hcz65_2
              try clear hcz65_3
              try clear hcz66_0
              try clear hcz66_1
              try clear hcz66_2
              try clear hcz66_3
              try clear hcz73_0
              try clear hcz73_1
              try clear hcz73_2
              try clear hcz73_3
              try clear hcz75_0
              try clear hcz75_1
              try clear hcz75_2
              try clear hcz75_3
              try clear hcz87_0
              try clear hcz87_1
              try clear hcz87_2
              try clear hcz87_3
              try clear hcz89_0
              try clear hcz89_1
              try clear hcz89_2
              try clear hcz89_3
              try clear hcz98_0
              try clear hcz98_1
              try clear hcz98_2
              try clear hcz98_3
              try clear hfz102_0
              try clear hfz102_1
              try clear hfz104_0
              try clear hfz104_1
              try clear hfz104_2
              try clear hfz104_3
              try clear hfz105_0
              try clear hfz105_1
              try clear hfz124_0
              try clear hfz124_1
              try clear hfz124_2
              try clear hfz124_3
              try clear hfz129_0
              try clear hfz129_1
              try clear hfz129_2
              try clear hfz129_3
              try clear hfz12_0
              try clear hfz12_1
              try clear hfz12_2
              try clear hfz12_3
              try clear hfz16_0
              try clear hfz16_1
              try clear hfz16_2
              try clear hfz16_3
              try clear hfz19_0
              try clear hfz19_1
              try clear hfz19_2
              try clear hfz19_3
              try clear hfz20_0
              try clear hfz20_1
              try clear hfz20_2
              try clear hfz20_3
              try clear hfz27_0
              try clear hfz27_1
              try clear hfz27_2
              try clear hfz27_3
              try clear hfz33_0
              try clear hfz33_1
              try clear hfz33_2
              try clear hfz33_3
              try clear hfz36_0
              try clear hfz36_1
              try clear hfz36_2
              try clear hfz36_3
              try clear hfz39_0
              try clear hfz39_1
              try clear hfz39_2
              try clear hfz39_3
              try clear hfz41_0
              try clear hfz41_1
              try clear hfz41_2
              try clear hfz41_3
              try clear hfz59_0
              try clear hfz59_1
              try clear hfz59_2
              try clear hfz59_3
              try clear hfz65_0
              try clear hfz65_1
              try clear hfz65_2
              try clear hfz65_3
              try clear hfz66_0
              try clear hfz66_1
              try clear hfz66_2
              try clear hfz66_3
              try clear hfz73_0
              try clear hfz73_1
              try clear hfz73_2
              try clear hfz73_3
              try clear hfz75_0
              try clear hfz75_1
              try clear hfz75_2
              try clear hfz75_3
              try clear hfz87_0
              try clear hfz87_1
              try clear hfz87_2
              try clear hfz87_3
              try clear hfz89_0
              try clear hfz89_1
              try clear hfz89_2
              try clear hfz89_3
              try clear hfz98_0
              try clear hfz98_1
              try clear hfz98_2
              try clear hfz98_3
              try clear p2
              try clear p6
              try clear p64
              obtain ⟨kq, x211_130, rfl, HA, HJ130, BK482, BK488, BK513, BK524, BK525, HB⟩ := hcut
              cases kq with
              | zero => exact absurd HA.out (by simp [laws_FnWordsTold.j5])
              | succ kj130 =>
               have H := HA.out
               clear HA
               simp only [laws_FnWordsTold.j5] at H
               by_cases c134 : x211_130 = true
               ·subst c134
                rw [if_pos rfl] at H
                obtain rfl := Option.some.inj H
                cases hrt
               ·replace c134 := Bool.eq_false_iff.mpr c134
                subst c134
                rw [if_neg (show ¬ (false = true) by decide)] at H
                have HC135 := Aside0.mk H
                clear H
                go_upto_region 33 with (fail)
                go_cut [221] (fun v221 wc => ∃ (kq : Nat) (x221_134 : Bool), v221 = .bool x221_134 ∧ Aside0 (laws_FnWordsTold.j6 kq t526 t527 x221_134 t518 t519 t520 t521 t522 t523 = some r) ∧ Aside0 (kq ≤ kj130) ∧ Aside0 (wc.heap[gb482]? = some (.cells #[.int .i64 t477, .int .i64 t478, .int .i64 t479, .int .i64 t480] 36 (0, 0))) ∧ Aside0 (wc.heap[gb488]? = some (.cells #[.int .i64 t483, .int .i64 t484, .int .i64 t485, .int .i64 t486] 36 (0, 0))) ∧ Aside0 (wc.heap[gb513]? = some (.cells #[.int .i64 t509, .int .i64 t510, .int .i64 t511, .int .i64 t512] 36 (0, 0))) ∧ Aside0 (wc.heap[gb524]? = some (.cells #[.int .i64 t518, .int .i64 t519, .int .i64 t520, .int .i64 t521] 36 (0, 0))) ∧ Aside0 (wc.heap[gb525]? = some (.cells #[.int .i64 t522, .int .i64 t523] 43 (0, 0))) ∧ Aside0 (Below w.heap.size w wc))
                case first =>
                 have H := HC135.out
                 clear HC135
                 by_cases c136 : t526 ≥ 0
                 ·rw [if_pos c136] at H
                  have c136b0 : decide (0 ≤ t526) = true := decide_eq_true c136
                  clear c136
                  (first | rw [c136b0] | (simp only [i64_w, i32_w]; rw [c136b0]) | skip)
                  by_cases c137 : t526 ≤ 1000000
                  ·rw [if_pos c137] at H
                   have c137b0 : decide (t526 ≤ 1000000) = true := decide_eq_true c137
                   clear c137
                   as_aux_lemma =>
                    have H' := Aside0.mk H
                    clear H
                    go_wp2
                    go_meet
                    case rel => exact ⟨_, (decide (t527 ≤ 1000000)), (by first | rfl | (simp; done) | (simp [*]; done)), H', ⟨by have := HJ7.out; have := HJ21.out; have := HJ81.out; have := HJ111.out; have := HJ130.out; first | omega | exact Nat.le_refl _⟩, ⟨pk BK482⟩, ⟨pk BK488⟩, ⟨pk BK513⟩, ⟨pk BK524⟩, ⟨pk BK525⟩, ⟨by repeat (first | (with_reducible first | exact HB.out | apply below_alloc | apply pw_below_drewN | apply below_drew1 | refine below_set ?_ GE482.out | refine below_set ?_ GE488.out | refine below_set ?_ GE513.out | refine below_set ?_ GE524.out | refine below_set ?_ GE525.out) | exact HB.out)⟩⟩
                  ·rw [if_neg c137] at H
                   have c137b0 : decide (t526 ≤ 1000000) = false := decide_eq_false c137
                   clear c137
                   as_aux_lemma =>
                    have H' := Aside0.mk H
                    clear H
                    go_wp2
                    go_meet
                    case rel => exact ⟨_, (false), (by first | rfl | (simp; done) | (simp [*]; done)), H', ⟨by have := HJ7.out; have := HJ21.out; have := HJ81.out; have := HJ111.out; have := HJ130.out; first | omega | exact Nat.le_refl _⟩, ⟨pk BK482⟩, ⟨pk BK488⟩, ⟨pk BK513⟩, ⟨pk BK524⟩, ⟨pk BK525⟩, ⟨by repeat (first | (with_reducible first | exact HB.out | apply below_alloc | apply pw_below_drewN | apply below_drew1 | refine below_set ?_ GE482.out | refine below_set ?_ GE488.out | refine below_set ?_ GE513.out | refine below_set ?_ GE524.out | refine below_set ?_ GE525.out) | exact HB.out)⟩⟩
                 ·rw [if_neg c136] at H
                  have c136b0 : decide (0 ≤ t526) = false := decide_eq_false c136
                  clear c136
                  (first | rw [c136b0] | (simp only [i64_w, i32_w]; rw [c136b0]) | skip)
                  as_aux_lemma =>
                   have H' := Aside0.mk H
                   clear H
                   go_wp2
                   go_meet
                   case rel => exact ⟨_, (false), (by first | rfl | (simp; done) | (simp [*]; done)), H', ⟨by have := HJ7.out; have := HJ21.out; have := HJ81.out; have := HJ111.out; have := HJ130.out; first | omega | exact Nat.le_refl _⟩, ⟨pk BK482⟩, ⟨pk BK488⟩, ⟨pk BK513⟩, ⟨pk BK524⟩, ⟨pk BK525⟩, ⟨by repeat (first | (with_reducible first | exact HB.out | apply below_alloc | apply pw_below_drewN | apply below_drew1 | refine below_set ?_ GE482.out | refine below_set ?_ GE488.out | refine below_set ?_ GE513.out | refine below_set ?_ GE524.out | refine below_set ?_ GE525.out) | exact HB.out)⟩⟩
                case rest =>
                 clear HC135
                 try clear c1
                 try clear c2
                 try clear p2
                 try clear c3
                 try clear c4
                 try clear c5
                 try clear c6
                 try clear p6
                 try clear c7
                 try clear c8
                 try clear c9
                 try clear c10
                 try clear c11
                 try clear c12
                 try clear c13
                 try clear c14
                 try clear c15
                 try clear c16
                 try clear c17
                 try clear c17b0
                 try clear c17b1
                 try clear c17b2
                 try clear c18
                 try clear c19
                 try clear c20
                 try clear c21
                 try clear c23
                 try clear c26
                 try clear c29
                 try clear c30
                 try clear c30b0
                 try clear c30b1
                 try clear c31
                 try clear c31b0
                 try clear c32
                 try clear c34
                 try clear c34b0
                 try clear c35
                 try clear c37
                 try clear c37b0
                 try clear c38
                 try clear c40
                 try clear c42
                 try clear c44
                 try clear c44b0
                 try clear c44b1
                 try clear c45
                 try clear c45b0
                 try clear c45b1
                 try clear c47
                 try clear c47b0
                 try clear c48
                 try clear c48b0
                 try clear c51
                 try clear c52
                 try clear c53
                 try clear c54
                 try clear c54b0
                 try clear c57
                 try clear c58
                 try clear c62
                 try clear c63
                 try clear c64
                 try clear p64
                 try clear c69
                 try clear c70
                 try clear c71
                 try clear c72
                 try clear c74
                 try clear c85
                 try clear c86
                 try clear c94
                 try clear c95
                 try clear c96
                 try clear c97
                 try clear c99
                 try clear c100
                 try clear c101
                 try clear c107
                 try clear c107b0
                 try clear c107b1
                 try clear c107b2
                 try clear c108
                 try clear c108b0
                 try clear c108b1
                 try clear c109
                 try clear c109b0
                 try clear c109b1
                 try clear c109b2
                 try clear c110
                 try clear c110b0
                 try clear c110b1
                 try clear c111
                 try clear c113
                 try clear c115
                 try clear c116
                 try clear c116b0
                 try clear c119
                 try clear c120
                 try clear c121
                 try clear c122
                 try clear c123
                 try clear c125
                 try clear c126
                 try clear c127
                 try clear c128
                 try clear c130
                 try clear c132
                 try clear c132b0
                 try clear c133
                 try clear c133b0
                 try clear c133b1
                 try clear c134
                 try clear c136
                 try clear c136b0
                 try clear c137
                 try clear c137b0
                 try clear hcz102_0
                 try clear hcz102_1
                 try clear hcz104_0
                 try clear hcz104_1
                 try clear hcz104_2
                 try clear hcz104_3
                 try clear hcz105_0
                 try clear hcz105_1
                 try clear hcz124_0
                 try clear hcz124_1
                 try clear hcz124_2
                 try clear hcz124_3
                 try clear hcz129_0
                 try clear hcz129_1
                 try clear hcz129_2
                 try clear hcz129_3
                 try clear hcz12_0
                 try clear hcz12_1
                 try clear hcz12_2
                 try clear hcz12_3
                 try clear hcz16_0
                 try clear hcz16_1
                 try clear hcz16_2
                 try clear hcz16_3
                 try clear hcz19_0
                 try clear hcz19_1
                 try clear hcz19_2
                 try clear hcz19_3
                 try clear hcz20_0
                 try clear hcz20_1
                 try clear hcz20_2
                 try clear hcz20_3
                 try clear hcz27_0
                 try clear hcz27_1
                 try clear hcz27_2
                 try clear hcz27_3
                 try clear hcz33_0
                 try clear hcz33_1
                 try clear hcz33_2
                 try clear hcz33_3
                 try clear hcz36_0
                 try clear hcz36_1
                 try clear hcz36_2
                 try clear hcz36_3
                 try clear hcz39_0
                 try clear hcz39_1
                 try clear hcz39_2
                 try clear hcz39_3
                 try clear hcz41_0
                 try clear hcz41_1
                 try clear hcz41_2
                 try clear hcz41_3
                 try clear hcz59_0
                 try clear hcz59_1
                 try clear hcz59_2
                 try clear hcz59_3
                 try clear hcz65_0
                 try clear hcz65_1
                 try clear hcz65_2
                 try clear hcz65_3
                 try clear hcz66_0
                 try clear hcz66_1
                 try clear hcz66_2
                 try clear hcz66_3
                 try clear hcz73_0
                 try clear hcz73_1
                 try clear hcz73_2
                 try clear hcz73_3
                 try clear hcz75_0
                 try clear hcz75_1
                 try clear hcz75_2
                 try clear hcz75_3
                 try clear hcz87_0
                 try clear hcz87_1
                 try clear hcz87_2
                 try clear hcz87_3
                 try clear hcz89_0
                 try clear hcz89_1
                 try clear hcz89_2
                 try clear hcz89_3
                 try clear hcz98_0
                 try clear hcz98_1
                 try clear hcz98_2
                 try clear hcz98_3
                 try clear hfz102_0
                 try clear hfz102_1
                 try clear hfz104_0
                 try clear hfz104_1
                 try clear hfz104_2
                 try clear hfz104_3
                 try clear hfz105_0
                 try clear hfz105_1
                 try clear hfz124_0
                 try clear hfz124_1
                 try clear hfz124_2
                 try clear hfz124_3
                 try clear hfz129_0
                 try clear hfz129_1
                 try clear hfz129_2
                 try clear hfz129_3
                 try clear hfz12_0
                 try clear hfz12_1
                 try clear hfz12_2
                 try clear hfz12_3
                 try clear hfz16_0
                 try clear hfz16_1
                 try clear hfz16_2
                 try clear hfz16_3
                 try clear hfz19_0
                 try clear hfz19_1
                 try clear hfz19_2
                 try clear hfz19_3
                 try clear hfz20_0
                 try clear hfz20_1
                 try clear hfz20_2
                 try clear hfz20_3
                 try clear hfz27_0
                 try clear hfz27_1
                 try clear hfz27_2
                 try clear hfz27_3
                 try clear hfz33_0
                 try clear hfz33_1
                 try clear hfz33_2
                 try clear hfz33_3
                 try clear hfz36_0
                 try clear hfz36_1
                 try clear hfz36_2
                 try clear hfz36_3
                 try clear hfz39_0
                 try clear hfz39_1
                 try clear hfz39_2
                 try clear hfz39_3
                 try clear hfz41_0
                 try clear hfz41_1
                 try clear hfz41_2
                 try clear hfz41_3
                 try clear hfz59_0
                 try clear hfz59_1
                 try clear hfz59_2
                 try clear hfz59_3
                 try clear hfz65_0
                 try clear hfz65_1
                 try clear hfz65_2
                 try clear hfz65_3
                 try clear hfz66_0
                 try clear hfz66_1
                 try clear hfz66_2
                 try clear hfz66_3
                 try clear hfz73_0
                 try clear hfz73_1
                 try clear hfz73_2
                 try clear hfz73_3
                 try clear hfz75_0
                 try clear hfz75_1
                 try clear hfz75_2
                 try clear hfz75_3
                 try clear hfz87_0
                 try clear hfz87_1
                 try clear hfz87_2
                 try clear hfz87_3
                 try clear hfz89_0
                 try clear hfz89_1
                 try clear hfz89_2
                 try clear hfz89_3
                 try clear hfz98_0
                 try clear hfz98_1
                 try clear hfz98_2
                 try clear hfz98_3
                 try clear p2
                 try clear p6
                 try clear p64
                 obtain ⟨kq, x221_134, rfl, HA, HJ134, BK482, BK488, BK513, BK524, BK525, HB⟩ := hcut
                 cases kq with
                 | zero => exact absurd HA.out (by simp [laws_FnWordsTold.j6])
                 | succ kj134 =>
                  have H := HA.out
                  clear HA
                  simp only [laws_FnWordsTold.j6] at H
                  by_cases c138 : x221_134 = true
                  ·subst c138
                   rw [if_pos rfl] at H
                   replace H := Option.bind_eq_some_iff.mp H
                   obtain ⟨⟨t539, t540, t541, t542, t543⟩, A1390, H⟩ := H
                   try dsimp only at H
                   have A139 := Aside0.mk A1390
                   clear A1390
                   replace H := Option.bind_eq_some_iff.mp H
                   obtain ⟨⟨t545, t546, t547⟩, A1400, H⟩ := H
                   try dsimp only at H
                   have A140 := Aside0.mk A1400
                   clear A1400
                   replace H := Option.bind_eq_some_iff.mp H
                   obtain ⟨t548, A1410, H⟩ := H
                   have A141 := Aside0.mk A1410
                   clear A1410
                   by_cases c142 : t548 = true
                   ·subst c142
                    rw [if_pos rfl] at H
                    by_cases c143 : t543 = true
                    ·subst c143
                     rw [if_pos rfl] at H
                     by_cases c144 : t547 = true
                     ·subst c144
                      rw [if_pos rfl] at H
                      by_cases c145 : t545 = t522
                      ·rw [if_pos c145] at H
                       have c145b0 : (t545 == t522) = true := beq_iff_eq.mpr c145
                       have c145b1 : (t545 != t522) = false := bne_eq_false_iff_eq.mpr c145
                       clear c145
                       by_cases c146 : t546 = t523
                       ·rw [if_pos c146] at H
                        have c146b0 : (t546 == t523) = true := beq_iff_eq.mpr c146
                        have c146b1 : (t546 != t523) = false := bne_eq_false_iff_eq.mpr c146
                        clear c146
                        as_aux_lemma =>
                         obtain rfl := Option.some.inj H
                         clear hrt
                         go_wp2_with (first | ((with_reducible refine gate_dst (N := 34) rfl ?_); refine box_ 34 #[.int .i64 0, .int .i64 0] 43 ?_; intro gb538 hg w147 hbox hb; have BK538 := Aside0.mk (hbox); have GW538 := Aside0.mk ((by rw [hg]; exact (below_size (hk HB)) : w.heap.size ≤ gb538)); have GE538 := Aside0.mk ((by rw [hg]; exact (below_size (hk HB)) : w.heap.size ≤ gb538)); have NB482_538 := Aside0.mk ((by rw [hg]; exact Nat.ne_of_lt (blk_lt (pk BK482)) : gb482 ≠ gb538)); have NB538_482 := Aside0.mk ((by rw [hg]; exact Nat.ne_of_gt (blk_lt (pk BK482)) : gb538 ≠ gb482)); have NB488_538 := Aside0.mk ((by rw [hg]; exact Nat.ne_of_lt (blk_lt (pk BK488)) : gb488 ≠ gb538)); have NB538_488 := Aside0.mk ((by rw [hg]; exact Nat.ne_of_gt (blk_lt (pk BK488)) : gb538 ≠ gb488)); have NB513_538 := Aside0.mk ((by rw [hg]; exact Nat.ne_of_lt (blk_lt (pk BK513)) : gb513 ≠ gb538)); have NB538_513 := Aside0.mk ((by rw [hg]; exact Nat.ne_of_gt (blk_lt (pk BK513)) : gb538 ≠ gb513)); have NB524_538 := Aside0.mk ((by rw [hg]; exact Nat.ne_of_lt (blk_lt (pk BK524)) : gb524 ≠ gb538)); have NB538_524 := Aside0.mk ((by rw [hg]; exact Nat.ne_of_gt (blk_lt (pk BK524)) : gb538 ≠ gb524)); have NB525_538 := Aside0.mk ((by rw [hg]; exact Nat.ne_of_lt (blk_lt (pk BK525)) : gb525 ≠ gb538)); have NB538_525 := Aside0.mk ((by rw [hg]; exact Nat.ne_of_gt (blk_lt (pk BK525)) : gb538 ≠ gb525)); replace BK482 := Aside0.mk (blk_below (pk BK482) hb); replace BK488 := Aside0.mk (blk_below (pk BK488) hb); replace BK513 := Aside0.mk (blk_below (pk BK513) hb); replace BK524 := Aside0.mk (blk_below (pk BK524) hb); replace BK525 := Aside0.mk (blk_below (pk BK525) hb); replace HB := Aside0.mk (below_step (hk HB) hb); clear hb hbox hg; have hnb148 := NB538_482.out; have hnc148 := NB482_538.out; have hnb149 := NB538_488.out; have hnc149 := NB488_538.out; have hnb150 := NB538_513.out; have hnc150 := NB513_538.out; have hnb151 := NB538_524.out; have hnc151 := NB524_538.out; have hnb152 := NB538_525.out; have hnc152 := NB525_538.out; obtain ⟨hcz153_0, hcz153_1, hfz153_0, hfz153_1⟩ := c2_ BK538; have hnb154 := NB524_482.out; have hnc154 := NB482_524.out; have hnb155 := NB524_488.out; have hnc155 := NB488_524.out; have hnb156 := NB524_513.out; have hnc156 := NB513_524.out; have hnb157 := NB524_525.out; have hnc157 := NB525_524.out; obtain ⟨hcz158_0, hcz158_1, hcz158_2, hcz158_3, hfz158_0, hfz158_1, hfz158_2, hfz158_3⟩ := c4_ BK524) | ((with_reducible refine gate_callee (f := 22) rfl ?_); refine gof_ (some 227) Tryd.func22 #[.agg #[.int .i64 t518, .int .i64 t519, .int .i64 t520, .int .i64 t521]] ?_; (with_reducible refine (impl_InverseMatrix.calls t518 t519 t520 t521 t539 t540 t541 t542 true _ A139.out).mono ?_); rintro e w159 ⟨rfl, hb⟩; refine ⟨_, rfl, ?_⟩; replace BK482 := Aside0.mk (blk_below (g := gb482) (o := .cells #[.int .i64 t477, .int .i64 t478, .int .i64 t479, .int .i64 t480] 36 (0, 0)) (by (with_reducible repeat (first | refine blk_drewN ?_ _ | refine blk_drew ?_ | refine blk_alloc ?_ _)); refine blk_far ?_ NB482_538.out _; (with_reducible repeat (first | refine blk_drewN ?_ _ | refine blk_drew ?_ | refine blk_alloc ?_ _)); refine blk_far ?_ NB482_538.out _; exact pk BK482) hb); replace BK488 := Aside0.mk (blk_below (g := gb488) (o := .cells #[.int .i64 t483, .int .i64 t484, .int .i64 t485, .int .i64 t486] 36 (0, 0)) (by (with_reducible repeat (first | refine blk_drewN ?_ _ | refine blk_drew ?_ | refine blk_alloc ?_ _)); refine blk_far ?_ NB488_538.out _; (with_reducible repeat (first | refine blk_drewN ?_ _ | refine blk_drew ?_ | refine blk_alloc ?_ _)); refine blk_far ?_ NB488_538.out _; exact pk BK488) hb); replace BK513 := Aside0.mk (blk_below (g := gb513) (o := .cells #[.int .i64 t509, .int .i64 t510, .int .i64 t511, .int .i64 t512] 36 (0, 0)) (by (with_reducible repeat (first | refine blk_drewN ?_ _ | refine blk_drew ?_ | refine blk_alloc ?_ _)); refine blk_far ?_ NB513_538.out _; (with_reducible repeat (first | refine blk_drewN ?_ _ | refine blk_drew ?_ | refine blk_alloc ?_ _)); refine blk_far ?_ NB513_538.out _; exact pk BK513) hb); replace BK524 := Aside0.mk (blk_below (g := gb524) (o := .cells #[.int .i64 t518, .int .i64 t519, .int .i64 t520, .int .i64 t521] 36 (0, 0)) (by (with_reducible repeat (first | refine blk_drewN ?_ _ | refine blk_drew ?_ | refine blk_alloc ?_ _)); refine blk_far ?_ NB524_538.out _; (with_reducible repeat (first | refine blk_drewN ?_ _ | refine blk_drew ?_ | refine blk_alloc ?_ _)); refine blk_far ?_ NB524_538.out _; exact pk BK524) hb); replace BK525 := Aside0.mk (blk_below (g := gb525) (o := .cells #[.int .i64 t522, .int .i64 t523] 43 (0, 0)) (by (with_reducible repeat (first | refine blk_drewN ?_ _ | refine blk_drew ?_ | refine blk_alloc ?_ _)); refine blk_far ?_ NB525_538.out _; (with_reducible repeat (first | refine blk_drewN ?_ _ | refine blk_drew ?_ | refine blk_alloc ?_ _)); refine blk_far ?_ NB525_538.out _; exact pk BK525) hb); replace BK538 := Aside0.mk (blk_below (g := gb538) (o := .cells #[.int .i64 t526, .int .i64 t527] 43 (0, 0)) (by (with_reducible repeat (first | refine blk_drewN ?_ _ | refine blk_drew ?_ | refine blk_alloc ?_ _)); refine blk_put (cs := #[.int .i64 t526, .int .i64 0]) ?_ 1 _ rfl; (with_reducible repeat (first | refine blk_drewN ?_ _ | refine blk_drew ?_ | refine blk_alloc ?_ _)); refine blk_put (cs := #[.int .i64 0, .int .i64 0]) ?_ 0 _ rfl; exact pk BK538) hb); replace HB := Aside0.mk (below_step (hk HB) hb); (try clear hb); (try clear hb2); (try clear hk); (try clear hi)) | ((with_reducible refine gate_dst (N := 35) rfl ?_); refine box_ 35 #[.int .i64 0, .int .i64 0, .int .i64 0, .int .i64 0] 36 ?_; intro gb544 hg w160 hbox hb; have BK544 := Aside0.mk (hbox); have GW544 := Aside0.mk ((by rw [hg]; exact (below_size (hk HB)) : w.heap.size ≤ gb544)); have GE544 := Aside0.mk ((by rw [hg]; exact (below_size (hk HB)) : w.heap.size ≤ gb544)); have NB482_544 := Aside0.mk ((by rw [hg]; exact Nat.ne_of_lt (blk_lt (pk BK482)) : gb482 ≠ gb544)); have NB544_482 := Aside0.mk ((by rw [hg]; exact Nat.ne_of_gt (blk_lt (pk BK482)) : gb544 ≠ gb482)); have NB488_544 := Aside0.mk ((by rw [hg]; exact Nat.ne_of_lt (blk_lt (pk BK488)) : gb488 ≠ gb544)); have NB544_488 := Aside0.mk ((by rw [hg]; exact Nat.ne_of_gt (blk_lt (pk BK488)) : gb544 ≠ gb488)); have NB513_544 := Aside0.mk ((by rw [hg]; exact Nat.ne_of_lt (blk_lt (pk BK513)) : gb513 ≠ gb544)); have NB544_513 := Aside0.mk ((by rw [hg]; exact Nat.ne_of_gt (blk_lt (pk BK513)) : gb544 ≠ gb513)); have NB524_544 := Aside0.mk ((by rw [hg]; exact Nat.ne_of_lt (blk_lt (pk BK524)) : gb524 ≠ gb544)); have NB544_524 := Aside0.mk ((by rw [hg]; exact Nat.ne_of_gt (blk_lt (pk BK524)) : gb544 ≠ gb524)); have NB525_544 := Aside0.mk ((by rw [hg]; exact Nat.ne_of_lt (blk_lt (pk BK525)) : gb525 ≠ gb544)); have NB544_525 := Aside0.mk ((by rw [hg]; exact Nat.ne_of_gt (blk_lt (pk BK525)) : gb544 ≠ gb525)); have NB538_544 := Aside0.mk ((by rw [hg]; exact Nat.ne_of_lt (blk_lt (pk BK538)) : gb538 ≠ gb544)); have NB544_538 := Aside0.mk ((by rw [hg]; exact Nat.ne_of_gt (blk_lt (pk BK538)) : gb544 ≠ gb538)); replace BK482 := Aside0.mk (blk_below (pk BK482) hb); replace BK488 := Aside0.mk (blk_below (pk BK488) hb); replace BK513 := Aside0.mk (blk_below (pk BK513) hb); replace BK524 := Aside0.mk (blk_below (pk BK524) hb); replace BK525 := Aside0.mk (blk_below (pk BK525) hb); replace BK538 := Aside0.mk (blk_below (pk BK538) hb); replace HB := Aside0.mk (below_step (hk HB) hb); clear hb hbox hg; have hnb161 := NB544_482.out; have hnc161 := NB482_544.out; have hnb162 := NB544_488.out; have hnc162 := NB488_544.out; have hnb163 := NB544_513.out; have hnc163 := NB513_544.out; have hnb164 := NB544_524.out; have hnc164 := NB524_544.out; have hnb165 := NB544_525.out; have hnc165 := NB525_544.out; have hnb166 := NB544_538.out; have hnc166 := NB538_544.out; obtain ⟨hcz167_0, hcz167_1, hcz167_2, hcz167_3, hfz167_0, hfz167_1, hfz167_2, hfz167_3⟩ := c4_ BK544; obtain ⟨hcz168_0, hcz168_1, hfz168_0, hfz168_1⟩ := c2_ BK538) | ((with_reducible refine gate_callee (f := 20) rfl ?_); refine gof_ (some 233) Tryd.func20 #[.agg #[.int .i64 t539, .int .i64 t540, .int .i64 t541, .int .i64 t542], .agg #[.int .i64 t526, .int .i64 t527]] ?_; (with_reducible refine (impl_MoveFraction.calls kj134 t539 t540 t541 t542 t526 t527 t545 t546 true _ A140.out).mono ?_); rintro e w169 ⟨rfl, hb⟩; refine ⟨_, rfl, ?_⟩; replace BK482 := Aside0.mk (blk_below (g := gb482) (o := .cells #[.int .i64 t477, .int .i64 t478, .int .i64 t479, .int .i64 t480] 36 (0, 0)) (by (with_reducible repeat (first | refine blk_drewN ?_ _ | refine blk_drew ?_ | refine blk_alloc ?_ _)); refine blk_far ?_ NB482_544.out _; (with_reducible repeat (first | refine blk_drewN ?_ _ | refine blk_drew ?_ | refine blk_alloc ?_ _)); refine blk_far ?_ NB482_544.out _; (with_reducible repeat (first | refine blk_drewN ?_ _ | refine blk_drew ?_ | refine blk_alloc ?_ _)); refine blk_far ?_ NB482_544.out _; (with_reducible repeat (first | refine blk_drewN ?_ _ | refine blk_drew ?_ | refine blk_alloc ?_ _)); refine blk_far ?_ NB482_544.out _; exact pk BK482) hb); replace BK488 := Aside0.mk (blk_below (g := gb488) (o := .cells #[.int .i64 t483, .int .i64 t484, .int .i64 t485, .int .i64 t486] 36 (0, 0)) (by (with_reducible repeat (first | refine blk_drewN ?_ _ | refine blk_drew ?_ | refine blk_alloc ?_ _)); refine blk_far ?_ NB488_544.out _; (with_reducible repeat (first | refine blk_drewN ?_ _ | refine blk_drew ?_ | refine blk_alloc ?_ _)); refine blk_far ?_ NB488_544.out _; (with_reducible repeat (first | refine blk_drewN ?_ _ | refine blk_drew ?_ | refine blk_alloc ?_ _)); refine blk_far ?_ NB488_544.out _; (with_reducible repeat (first | refine blk_drewN ?_ _ | refine blk_drew ?_ | refine blk_alloc ?_ _)); refine blk_far ?_ NB488_544.out _; exact pk BK488) hb); replace BK513 := Aside0.mk (blk_below (g := gb513) (o := .cells #[.int .i64 t509, .int .i64 t510, .int .i64 t511, .int .i64 t512] 36 (0, 0)) (by (with_reducible repeat (first | refine blk_drewN ?_ _ | refine blk_drew ?_ | refine blk_alloc ?_ _)); refine blk_far ?_ NB513_544.out _; (with_reducible repeat (first | refine blk_drewN ?_ _ | refine blk_drew ?_ | refine blk_alloc ?_ _)); refine blk_far ?_ NB513_544.out _; (with_reducible repeat (first | refine blk_drewN ?_ _ | refine blk_drew ?_ | refine blk_alloc ?_ _)); refine blk_far ?_ NB513_544.out _; (with_reducible repeat (first | refine blk_drewN ?_ _ | refine blk_drew ?_ | refine blk_alloc ?_ _)); refine blk_far ?_ NB513_544.out _; exact pk BK513) hb); replace BK524 := Aside0.mk (blk_below (g := gb524) (o := .cells #[.int .i64 t518, .int .i64 t519, .int .i64 t520, .int .i64 t521] 36 (0, 0)) (by (with_reducible repeat (first | refine blk_drewN ?_ _ | refine blk_drew ?_ | refine blk_alloc ?_ _)); refine blk_far ?_ NB524_544.out _; (with_reducible repeat (first | refine blk_drewN ?_ _ | refine blk_drew ?_ | refine blk_alloc ?_ _)); refine blk_far ?_ NB524_544.out _; (with_reducible repeat (first | refine blk_drewN ?_ _ | refine blk_drew ?_ | refine blk_alloc ?_ _)); refine blk_far ?_ NB524_544.out _; (with_reducible repeat (first | refine blk_drewN ?_ _ | refine blk_drew ?_ | refine blk_alloc ?_ _)); refine blk_far ?_ NB524_544.out _; exact pk BK524) hb); replace BK525 := Aside0.mk (blk_below (g := gb525) (o := .cells #[.int .i64 t522, .int .i64 t523] 43 (0, 0)) (by (with_reducible repeat (first | refine blk_drewN ?_ _ | refine blk_drew ?_ | refine blk_alloc ?_ _)); refine blk_far ?_ NB525_544.out _; (with_reducible repeat (first | refine blk_drewN ?_ _ | refine blk_drew ?_ | refine blk_alloc ?_ _)); refine blk_far ?_ NB525_544.out _; (with_reducible repeat (first | refine blk_drewN ?_ _ | refine blk_drew ?_ | refine blk_alloc ?_ _)); refine blk_far ?_ NB525_544.out _; (with_reducible repeat (first | refine blk_drewN ?_ _ | refine blk_drew ?_ | refine blk_alloc ?_ _)); refine blk_far ?_ NB525_544.out _; exact pk BK525) hb); replace BK538 := Aside0.mk (blk_below (g := gb538) (o := .cells #[.int .i64 t526, .int .i64 t527] 43 (0, 0)) (by (with_reducible repeat (first | refine blk_drewN ?_ _ | refine blk_drew ?_ | refine blk_alloc ?_ _)); refine blk_far ?_ NB538_544.out _; (with_reducible repeat (first | refine blk_drewN ?_ _ | refine blk_drew ?_ | refine blk_alloc ?_ _)); refine blk_far ?_ NB538_544.out _; (with_reducible repeat (first | refine blk_drewN ?_ _ | refine blk_drew ?_ | refine blk_alloc ?_ _)); refine blk_far ?_ NB538_544.out _; (with_reducible repeat (first | refine blk_drewN ?_ _ | refine blk_drew ?_ | refine blk_alloc ?_ _)); refine blk_far ?_ NB538_544.out _; exact pk BK538) hb); replace BK544 := Aside0.mk (blk_below (g := gb544) (o := .cells #[.int .i64 t539, .int .i64 t540, .int .i64 t541, .int .i64 t542] 36 (0, 0)) (by (with_reducible repeat (first | refine blk_drewN ?_ _ | refine blk_drew ?_ | refine blk_alloc ?_ _)); refine blk_put (cs := #[.int .i64 t539, .int .i64 t540, .int .i64 t541, .int .i64 0]) ?_ 3 _ rfl; (with_reducible repeat (first | refine blk_drewN ?_ _ | refine blk_drew ?_ | refine blk_alloc ?_ _)); refine blk_put (cs := #[.int .i64 t539, .int .i64 t540, .int .i64 0, .int .i64 0]) ?_ 2 _ rfl; (with_reducible repeat (first | refine blk_drewN ?_ _ | refine blk_drew ?_ | refine blk_alloc ?_ _)); refine blk_put (cs := #[.int .i64 t539, .int .i64 0, .int .i64 0, .int .i64 0]) ?_ 1 _ rfl; (with_reducible repeat (first | refine blk_drewN ?_ _ | refine blk_drew ?_ | refine blk_alloc ?_ _)); refine blk_put (cs := #[.int .i64 0, .int .i64 0, .int .i64 0, .int .i64 0]) ?_ 0 _ rfl; exact pk BK544) hb); replace HB := Aside0.mk (below_step (hk HB) hb); (try clear hb); (try clear hb2); (try clear hk); (try clear hi); obtain ⟨hcz170_0, hcz170_1, hfz170_0, hfz170_1⟩ := c2_ BK538) | ((with_reducible refine gate_callee (f := 23) rfl ?_); refine gof_ (some 238) Tryd.func23 #[.agg #[.int .i64 t526, .int .i64 t527]] ?_; (with_reducible refine (impl_IsFraction.calls kj134 t526 t527 true _ A141.out).mono ?_); rintro e w171 ⟨rfl, hb⟩; refine ⟨_, rfl, ?_⟩; replace BK482 := Aside0.mk (blk_below (pk BK482) hb); replace BK488 := Aside0.mk (blk_below (pk BK488) hb); replace BK513 := Aside0.mk (blk_below (pk BK513) hb); replace BK524 := Aside0.mk (blk_below (pk BK524) hb); replace BK525 := Aside0.mk (blk_below (pk BK525) hb); replace BK538 := Aside0.mk (blk_below (pk BK538) hb); replace BK544 := Aside0.mk (blk_below (pk BK544) hb); replace HB := Aside0.mk (below_step (hk HB) hb); (try clear hb); (try clear hb2); (try clear hk); (try clear hi); have hnb172 := NB525_482.out; have hnc172 := NB482_525.out; have hnb173 := NB525_488.out; have hnc173 := NB488_525.out; have hnb174 := NB525_513.out; have hnc174 := NB513_525.out; obtain ⟨hcz175_0, hcz175_1, hfz175_0, hfz175_1⟩ := c2_ BK525))
                         go_ret
                         exact ⟨eqr, hk HB⟩
                       ·rw [if_neg c146] at H
                        have c146b0 : (t546 == t523) = false := beq_eq_false_iff_ne.mpr c146
                        have c146b1 : (t546 != t523) = true := bne_iff_ne.mpr c146
                        obtain rfl := Option.some.inj H
                        cases hrt
                      ·rw [if_neg c145] at H
                       have c145b0 : (t545 == t522) = false := beq_eq_false_iff_ne.mpr c145
                       have c145b1 : (t545 != t522) = true := bne_iff_ne.mpr c145
                       obtain rfl := Option.some.inj H
                       cases hrt
                     ·replace c144 := Bool.eq_false_iff.mpr c144
                      subst c144
                      rw [if_neg (show ¬ (false = true) by decide)] at H
                      obtain rfl := Option.some.inj H
                      cases hrt
                    ·replace c143 := Bool.eq_false_iff.mpr c143
                     subst c143
                     rw [if_neg (show ¬ (false = true) by decide)] at H
                     obtain rfl := Option.some.inj H
                     cases hrt
                   ·replace c142 := Bool.eq_false_iff.mpr c142
                    subst c142
                    rw [if_neg (show ¬ (false = true) by decide)] at H
                    obtain rfl := Option.some.inj H
                    cases hrt
                  ·replace c138 := Bool.eq_false_iff.mpr c138
                   subst c138
                   rw [if_neg (show ¬ (false = true) by decide)] at H
                   as_aux_lemma =>
                    obtain rfl := Option.some.inj H
                    clear hrt
                    go_wp2
                    go_ret
                    exact ⟨eqr, hk HB⟩
            ·replace c130 := Bool.eq_false_iff.mpr c130
             subst c130
             rw [if_neg (show ¬ (false = true) by decide)] at H
             as_aux_lemma =>
              obtain rfl := Option.some.inj H
              clear hrt
              go_wp2
              go_ret
              exact ⟨eqr, hk HB⟩

/-- THE ONE PURE STATEMENT of laws_FnWordsTold: yours. -/
def laws_FnWordsTold.Pure : Prop := ∀ (l0 : List Int) (l1 : List Int), l0.length ≤ maxLen → l0.length * 1 ≤ 140737488351232 → (∀ x ∈ l0, (Lit.int .u8 x).wf = true) → l1.length ≤ maxLen → l1.length * 1 ≤ 140737488351232 → (∀ x ∈ l1, (Lit.int .u8 x).wf = true) → ∃ k, laws_FnWordsTold.f k l0 l1 = some true
theorem laws_FnWordsTold.walk (P : laws_FnWordsTold.Pure) (a0 : Option Addr) (len0 cap0 : Nat) (z0 : List Int) (a1 : Option Addr) (len1 cap1 : Nat) (z1 : List Int) (w : World) (w0 : (a0 = none ∧ len0 = 0 ∧ cap0 = 0 ∧ z0 = []) ∨ ∃ x, a0 = some x ∧ len0 ≤ cap0 ∧ cap0 ≤ maxLen ∧ z0.length = cap0 ∧ (∀ i, i < z0.length → w.cell? (x.add i) = some (.int .u8 (z0.getD i 0))) ∧ ∀ n ∈ z0, (Lit.int .u8 n).wf = true) (y0 : len0 * 1 ≤ 140737488351232) (w1 : (a1 = none ∧ len1 = 0 ∧ cap1 = 0 ∧ z1 = []) ∨ ∃ x, a1 = some x ∧ len1 ≤ cap1 ∧ cap1 ≤ maxLen ∧ z1.length = cap1 ∧ (∀ i, i < z1.length → w.cell? (x.add i) = some (.int .u8 (z1.getD i 0))) ∧ ∀ n ∈ z1, (Lit.int .u8 n).wf = true) (y1 : len1 * 1 ≤ 140737488351232) :
  Calls Tryd.prog 4 #[.slice a0 len0 cap0, .slice a1 len1 cap1] w fun e w' => e = .returned (.bool true) ∧ Below w.heap.size w w' := by
 obtain ⟨l0, rfl, hr0, hm0, hw0, hc0⟩ := ReadsInt.ofRowC w0
 obtain ⟨l1, rfl, hr1, hm1, hw1, hc1⟩ := ReadsInt.ofRowC w1
 obtain ⟨k, h⟩ := P l0 l1 hm0 y0 hw0 hm1 y1 hw1
 refine (laws_FnWordsTold.calls k _ _ l0 _ _ l1 true w (Kd.C_of_reads (d := (0 : Int)) (h1 := fun _ => rfl) hr0) hc0 (Kd.C_of_reads (d := (0 : Int)) (h1 := fun _ => rfl) hr1) hc1 rfl h).mono ?_
 rintro e w' ⟨rfl, hd⟩
 exact ⟨rfl, hd⟩

end Go.Proofs.YtdclgghdilbheaaDoor.P

/- Total answers of functions with rounds: 'T g Q': with enough rounds g answers, and Q holds of the answer. -/
namespace Go.Proofs.YtdclgghdilbheaaDoor.P
open Go.RowKit Go.Proofs.YtdclgghdilbheaaDoorW.PrintWords Go.Proofs.YtdclgghdilbheaaDoorW.PrintLast Go.Proofs.YtdclgghdilbheaaDoorW.PrintMore
def T {α : Type} (g : Nat → Option α) (Q : α → Prop) : Prop := ∃ r, Ev g r ∧ Q r
namespace T
variable {α β : Type}
theorem ret {Q : α → Prop} {r : α} (h : Q r) : T (fun _ => some r) Q := ⟨r, Ev.now r, h⟩
theorem bind {P : β → Prop} {Q : α → Prop} {g : Nat → Option β} {f : Nat → β → Option α} (h : T g P) (k : ∀ b, P b → T (fun n => f n b) Q) : T (fun n => (g n).bind (f n)) Q := by
  obtain ⟨b, hb, hp⟩ := h
  obtain ⟨r, hr, hq⟩ := k b hp
  exact ⟨r, Ev.bind hb hr, hq⟩
theorem some_bind {Q : α → Prop} {b : β} {f : Nat → β → Option α} (k : T (fun n => f n b) Q) : T (fun n => (some b).bind (f n)) Q := k
theorem pos {c : Prop} [Decidable c] {Q : α → Prop} {g h : Nat → Option α} (hc : c) (k : T g Q) : T (fun n => if c then g n else h n) Q := by
  simpa only [if_pos hc] using k
theorem neg {c : Prop} [Decidable c] {Q : α → Prop} {g h : Nat → Option α} (hc : ¬ c) (k : T h Q) : T (fun n => if c then g n else h n) Q := by
  simpa only [if_neg hc] using k
theorem ite {c : Prop} [Decidable c] {Q : α → Prop} {g h : Nat → Option α} (k1 : c → T g Q) (k2 : ¬ c → T h Q) : T (fun n => if c then g n else h n) Q := by
  by_cases hc : c
  · exact pos hc (k1 hc)
  · exact neg hc (k2 hc)
theorem step {Q : α → Prop} {g f : Nat → Option α} (h : ∀ k, g (k + 1) = f k) (k : T f Q) : T g Q := by
  obtain ⟨r, hr, hq⟩ := k
  exact ⟨r, Ev.step h hr, hq⟩
theorem congr {Q : α → Prop} {g f : Nat → Option α} (h : ∀ k, g k = f k) (k : T f Q) : T g Q := by
  obtain ⟨r, hr, hq⟩ := k
  exact ⟨r, Ev.congr h hr, hq⟩
theorem mono {P Q : α → Prop} {g : Nat → Option α} (h : T g P) (k : ∀ r, P r → Q r) : T g Q := by
  obtain ⟨r, hr, hq⟩ := h
  exact ⟨r, hr, k r hq⟩
theorem of_eq {Q : α → Prop} {g : Option α} {r : α} (h : g = some r) (hq : Q r) : T (fun _ => g) Q := by subst h; exact ret hq
theorem rounds {g : Nat → Option Bool} (h : T g (· = true)) : ∃ k, g k = some true := by
  obtain ⟨r, hr, hq⟩ := h
  subst hq
  exact hr.rounds
end T
theorem wrap64_id {x : Int} (h1 : -9223372036854775808 ≤ x) (h2 : x ≤ 9223372036854775807) : wrap64 x = x := by unfold wrap64; omega
/-- The numbers of a list of bytes. -/
def Bytes (l : List Int) : Prop := ∀ x ∈ l, 0 ≤ x ∧ x ≤ 255
theorem bytes_of {l : List Int} (h : ∀ x ∈ l, (Lit.int .u8 x).wf = true) : Bytes l := by
  intro x hx
  have := h x hx
  simp [Lit.wf] at this
  exact this
theorem rd_mem {l : List Int} {i : Int} (h0 : 0 ≤ i) (h1 : i < l.length) : rd l i ∈ l := by
  unfold rd
  have : i.toNat < l.length := by omega
  simp [List.getD, List.getElem?_eq_getElem this]
end Go.Proofs.YtdclgghdilbheaaDoor.P

/- Matrices: what the program's and the reference's tests and products come to. -/
namespace Go.Proofs.YtdclgghdilbheaaDoor.P
open Go.RowKit Go.Proofs.YtdclgghdilbheaaDoorW.PrintWords Go.Proofs.YtdclgghdilbheaaDoorW.PrintLast Go.Proofs.YtdclgghdilbheaaDoorW.PrintMore
theorem within_eq (x lo hi : Int) : impl_within.f x lo hi = some (decide (lo ≤ x ∧ x ≤ hi)) := by
  unfold impl_within.f
  by_cases h : x ≥ lo
  · rw [if_pos h]; congr 1; simp [h]
  · rw [if_neg h]; congr 1; simp [h]
theorem l1In_eq (x lo hi : Int) : spec_l1In.f x lo hi = some (decide (lo ≤ x ∧ x ≤ hi)) := by
  unfold spec_l1In.f
  by_cases h : x ≥ lo
  · rw [if_pos h]; congr 1; simp [h]
  · rw [if_neg h]; congr 1; simp [h]
theorem rd_drop {l : List Int} {i : Nat} (h : i < l.length) : l.drop i = rd l (i : Int) :: l.drop (i + 1) := by
  unfold rd
  rw [List.drop_eq_getElem_cons h]
  simp [List.getD, List.getElem?_eq_getElem h]
theorem l1All_l0 (lo hi : Int) (l : List Int) (hl : l.length ≤ 4611686018427387904) : ∀ (d i : Nat), l.length - i = d → i ≤ l.length → Ev (fun k => spec_l1All.l0 k lo hi l (l.length : Int) (i : Int)) ((l.drop i).all fun x => decide (lo ≤ x ∧ x ≤ hi)) := by
  intro d
  induction d with
  | zero =>
    intro i h1 h2
    refine Ev.step (fun k => rfl) ?_
    have : i = l.length := by omega
    subst this
    refine Ev.congr (f := fun _ => some true) (fun k => if_neg (by omega)) ?_
    simpa using Ev.now true
  | succ d ih =>
    intro i h1 h2
    have hil : i < l.length := by omega
    refine Ev.step (fun k => rfl) ?_
    refine Ev.congr (fun k => (if_pos (by omega)).trans ((if_pos (by omega)).trans (if_pos (by omega)))) ?_
    rw [l1In_eq]
    have hw : wrap64 ((i : Int) + 1) = ((i + 1 : Nat) : Int) := by rw [wrap64_id (by omega) (by omega)]; omega
    rw [hw, rd_drop hil, List.all_cons]
    by_cases c : lo ≤ rd l (i : Int) ∧ rd l (i : Int) ≤ hi
    · have := ih (i + 1) (by omega) (by omega)
      refine Ev.congr (f := fun k => spec_l1All.l0 k lo hi l (l.length : Int) ((i + 1 : Nat) : Int)) (fun k => ?_) (by simpa [c] using this)
      simp [c]
    · refine Ev.congr (f := fun _ => some false) (fun k => ?_) (by simpa [c] using Ev.now false)
      simp [c]
theorem l1All_Ev (lo hi : Int) (l : List Int) (hl : l.length ≤ 4611686018427387904) : Ev (fun k => spec_l1All.f k l lo hi) (l.all fun x => decide (lo ≤ x ∧ x ≤ hi)) := by
  have := l1All_l0 lo hi l hl l.length 0 (by omega) (by omega)
  exact this
abbrev M4 := Int × Int × Int × Int
/-- The number lies where a matrix has its numbers. -/
def ent (a : Int) : Prop := -1000000000 ≤ a ∧ a ≤ 1000000000
instance (a : Int) : Decidable (ent a) := by unfold ent; infer_instance
def IsM (a b c d : Int) : Prop := ent a ∧ ent b ∧ ent c ∧ ent d ∧ a * d - b * c = 1
instance (a b c d : Int) : Decidable (IsM a b c d) := by unfold IsM; infer_instance
theorem natAbs_ent {x : Int} (h : ent x) : x.natAbs ≤ 1000000000 := by unfold ent at h; omega
theorem mul_bd {x y : Int} (hx : ent x) (hy : ent y) : -1000000000000000000 ≤ x * y ∧ x * y ≤ 1000000000000000000 := by
  have h := Nat.mul_le_mul (natAbs_ent hx) (natAbs_ent hy)
  rw [← Int.natAbs_mul] at h
  omega
theorem isEntry_eq (a : Int) : impl_isEntry.f a = some (decide (ent a)) := by
  unfold impl_isEntry.f; rw [within_eq]; rfl
theorem det_wrap {a b c d : Int} (ha : ent a) (hb : ent b) (hc : ent c) (hd : ent d) : wrap64 (wrap64 (a * d) - wrap64 (b * c)) = a * d - b * c := by
  have h1 := mul_bd ha hd
  have h2 := mul_bd hb hc
  rw [wrap64_id (x := a * d) (by omega) (by omega), wrap64_id (x := b * c) (by omega) (by omega), wrap64_id (by omega) (by omega)]
theorem isMatrix_eq (a b c d : Int) : impl_IsMatrix.f a b c d = some (decide (IsM a b c d)) := by
  unfold impl_IsMatrix.f
  simp only [isEntry_eq, Option.bind_some, decide_eq_true_eq]
  by_cases ha : ent a
  · by_cases hb : ent b
    · by_cases hc : ent c
      · by_cases hd : ent d
        · rw [if_pos ha, if_pos hb, if_pos hc, if_pos hd, det_wrap ha hb hc hd]
          congr 1
          rw [Bool.eq_iff_iff]; simp [IsM, ha, hb, hc, hd]
        · rw [if_pos ha, if_pos hb, if_pos hc, if_neg hd]; simp [IsM, hd]
      · rw [if_pos ha, if_pos hb, if_neg hc]; simp [IsM, hc]
    · rw [if_pos ha, if_neg hb]; simp [IsM, hb]
  · rw [if_neg ha]; simp [IsM, ha]
theorem mxGood_Ev (a b c d : Int) : Ev (fun k => spec_mxGood.f k a b c d) (decide (IsM a b c d)) := by
  have h := l1All_Ev (-1000000000) 1000000000 [a, b, c, d] (by simp)
  have he : ([a, b, c, d].all fun x => decide (-1000000000 ≤ x ∧ x ≤ 1000000000)) = decide (ent a ∧ ent b ∧ ent c ∧ ent d) := by
    rw [Bool.eq_iff_iff, decide_eq_true_iff]; simp [ent]
  rw [he] at h
  refine Ev.bind (f := fun _ t => if t = true then some (wrap64 (wrap64 (a * d) - wrap64 (b * c)) == 1) else some false) h ?_
  by_cases hE : ent a ∧ ent b ∧ ent c ∧ ent d
  · obtain ⟨ha, hb, hc, hd⟩ := hE
    rw [det_wrap ha hb hc hd]
    have : (a * d - b * c == 1) = decide (IsM a b c d) := by rw [Bool.eq_iff_iff]; simp [IsM, ha, hb, hc, hd]
    simp only [ha, hb, hc, hd, and_self, decide_true, if_true, this]
    exact Ev.now _
  · have h1 : decide (ent a ∧ ent b ∧ ent c ∧ ent d) = false := decide_eq_false hE
    have h2 : decide (IsM a b c d) = false := decide_eq_false fun h => hE ⟨h.1, h.2.1, h.2.2.1, h.2.2.2.1⟩
    rw [h1, h2]
    exact Ev.now _
/-- A matrix, if it is one, and zeros otherwise. -/
def chk (m : M4) : Int × Int × Int × Int × Bool := if IsM m.1 m.2.1 m.2.2.1 m.2.2.2 then (m.1, m.2.1, m.2.2.1, m.2.2.2, true) else (0, 0, 0, 0, false)
theorem checked_eq (a b c d : Int) : impl_checked.f a b c d = some (chk (a, b, c, d)) := by
  unfold impl_checked.f chk
  rw [isMatrix_eq]
  by_cases h : IsM a b c d <;> simp [h]
theorem mxIf_Ev (a b c d : Int) : Ev (fun k => spec_mxIf.f k a b c d) (chk (a, b, c, d)) := by
  refine Ev.bind (f := fun _ t => if t = true then some (a, b, c, d, true) else some (0, 0, 0, 0, false)) (mxGood_Ev a b c d) ?_
  unfold chk
  by_cases h : IsM a b c d
  · simp only [h, decide_true, if_true]; exact Ev.now _
  · simp only [h, decide_false, if_false, Bool.false_eq_true]; exact Ev.now _
/-- A product as the program reckons it. -/
def tm (m n : M4) : M4 := (wrap64 ((wrap64 (m.1 * n.1)) + (wrap64 (m.2.1 * n.2.2.1))), wrap64 ((wrap64 (m.1 * n.2.1)) + (wrap64 (m.2.1 * n.2.2.2))), wrap64 ((wrap64 (m.2.2.1 * n.1)) + (wrap64 (m.2.2.2 * n.2.2.1))), wrap64 ((wrap64 (m.2.2.1 * n.2.1)) + (wrap64 (m.2.2.2 * n.2.2.2))))
theorem times_eq (a b c d e f g h : Int) : impl_times.f a b c d e f g h = some (tm (a, b, c, d) (e, f, g, h)) := rfl
/-- A product of whole numbers. -/
def mm (m n : M4) : M4 := (m.1 * n.1 + m.2.1 * n.2.2.1, m.1 * n.2.1 + m.2.1 * n.2.2.2, m.2.2.1 * n.1 + m.2.2.2 * n.2.2.1, m.2.2.1 * n.2.1 + m.2.2.2 * n.2.2.2)
def I4 : M4 := (1, 0, 0, 1)
theorem mm_assoc (a b c : M4) : mm (mm a b) c = mm a (mm b c) := by
  unfold mm
  simp only [Prod.mk.injEq]
  refine ⟨by grind, by grind, by grind, by grind⟩
theorem mm_one (a : M4) : mm a I4 = a := by simp [mm, I4]
theorem one_mm (a : M4) : mm I4 a = a := by simp [mm, I4]
/-- The numbers are at most N, without their signs. -/
def Bd (N : Nat) (m : M4) : Prop := m.1.natAbs ≤ N ∧ m.2.1.natAbs ≤ N ∧ m.2.2.1.natAbs ≤ N ∧ m.2.2.2.natAbs ≤ N
theorem prod_bd {x y : Int} {A B : Nat} (hx : x.natAbs ≤ A) (hy : y.natAbs ≤ B) : (x * y).natAbs ≤ A * B := by
  rw [Int.natAbs_mul]; exact Nat.mul_le_mul hx hy
theorem tm_mm {m n : M4} {A B : Nat} (h1 : Bd A m) (h2 : Bd B n) (hAB : A * B ≤ 4000000000000000000) : tm m n = mm m n ∧ Bd (A * B + A * B) (mm m n) := by
  obtain ⟨a1, a2, a3, a4⟩ := h1
  obtain ⟨b1, b2, b3, b4⟩ := h2
  have p1 := prod_bd a1 b1
  have p2 := prod_bd a2 b3
  have p3 := prod_bd a1 b2
  have p4 := prod_bd a2 b4
  have p5 := prod_bd a3 b1
  have p6 := prod_bd a4 b3
  have p7 := prod_bd a3 b2
  have p8 := prod_bd a4 b4
  generalize A * B = C at *
  have w : ∀ x y : Int, x.natAbs ≤ C → y.natAbs ≤ C → wrap64 (wrap64 x + wrap64 y) = x + y := fun x y hx hy => by
    rw [wrap64_id (x := x) (by omega) (by omega), wrap64_id (x := y) (by omega) (by omega), wrap64_id (by omega) (by omega)]
  refine ⟨?_, ?_, ?_, ?_, ?_⟩
  · unfold tm mm
    rw [w _ _ p1 p2, w _ _ p3 p4, w _ _ p5 p6, w _ _ p7 p8]
  all_goals (unfold mm; dsimp only; omega)
def det (m : M4) : Int := m.1 * m.2.2.2 - m.2.1 * m.2.2.1
theorem det_mm (a b : M4) : det (mm a b) = det a * det b := by unfold det mm; grind
end Go.Proofs.YtdclgghdilbheaaDoor.P

/- Words and their matrices: the program and the reference alike, words told again, halves multiplied. -/
namespace Go.Proofs.YtdclgghdilbheaaDoor.P
open Go.RowKit Go.Proofs.YtdclgghdilbheaaDoorW.PrintWords Go.Proofs.YtdclgghdilbheaaDoorW.PrintLast Go.Proofs.YtdclgghdilbheaaDoorW.PrintMore
def letter (c : Int) : M4 := if c = 108 then (1, 0, 1, 1) else (1, 1, 0, 1)
/-- The product of a word's letters behind m, as the program reckons it. -/
def wordM : List Int → M4 → M4
  | [], m => m
  | c :: r, m => wordM r (tm m (letter c))
/-- All letters are l or r. -/
def LR (l : List Int) : Prop := ∀ c ∈ l, c = 108 ∨ c = 114
instance (l : List Int) : Decidable (LR l) := by unfold LR; infer_instance
def zeros5 : Int × Int × Int × Int × Bool := (0, 0, 0, 0, false)
theorem impl_word_l0 (l : List Int) (hl : l.length ≤ 1000000) : ∀ (d i : Nat) (a b c e : Int), l.length - i = d → i ≤ l.length →
    Ev (fun k => impl_MatrixOfWord.l0 k l (l.length : Int) (i : Int) a b c e) (chk (wordM (l.drop i) (a, b, c, e))) := by
  intro d
  induction d with
  | zero =>
    intro i a b c e h1 h2
    refine Ev.step (fun k => rfl) ?_
    have : i = l.length := by omega
    subst this
    refine Ev.congr (f := fun _ => some (chk (a, b, c, e))) (fun k => (if_neg (by omega)).trans (by rw [checked_eq]; rfl)) ?_
    rw [List.drop_length]
    exact Ev.now _
  | succ d ih =>
    intro i a b c e h1 h2
    have hil : i < l.length := by omega
    refine Ev.step (fun k => rfl) ?_
    refine Ev.congr (fun k => (if_pos (by omega)).trans ((if_pos (by omega)).trans (if_pos (by omega)))) ?_
    have hw : wrap64 ((i : Int) + 1) = ((i + 1 : Nat) : Int) := by rw [wrap64_id (by omega) (by omega)]; omega
    rw [hw, rd_drop hil]
    unfold wordM letter
    by_cases hc : rd l (i : Int) = 108
    · rw [if_pos hc]
      refine Ev.congr (fun k => if_pos hc) ?_
      exact ih (i + 1) _ _ _ _ (by omega) (by omega)
    · rw [if_neg hc]
      refine Ev.congr (fun k => if_neg hc) ?_
      exact ih (i + 1) _ _ _ _ (by omega) (by omega)
theorem bytesOf_lr (s : ByteArray) : lr s.data.toList = true ↔ LR (bytesOf s) := by
  unfold lr LR bytesOf
  rw [List.all_eq_true]
  constructor
  · intro h c hc
    obtain ⟨b, hb, rfl⟩ := List.mem_map.1 hc
    have := h b hb
    simp at this
    rcases this with rfl | rfl <;> simp
  · intro h b hb
    have := h _ (List.mem_map.2 ⟨b, hb, rfl⟩)
    have e : ∀ n : Nat, n < 256 → (b.toNat : Int) = n → b = UInt8.ofNat n := fun n hn hq => by
      apply UInt8.toNat_inj.1; rw [UInt8.toNat_ofNat']; omega
    rcases this with h1 | h1
    · have := e 108 (by omega) h1; subst this; rfl
    · have := e 114 (by omega) h1; subst this; rfl
/-- What MatrixOfWord returns. -/
def mow (s : ByteArray) : Int × Int × Int × Int × Bool := if s.size ≤ 40 then (if lr s.data.toList = true then chk (wordM (bytesOf s) I4) else zeros5) else zeros5
theorem impl_mow (s : ByteArray) : Ev (fun k => impl_MatrixOfWord.f k s) (mow s) := by
  unfold mow
  have hf : ∀ k, impl_MatrixOfWord.f k s = (impl_isWord.f s 40).bind fun t => if t = true then (impl_one.f.bind fun bt => if (s.size : Int) ≤ 140737488351232 then ((some (bytesOf s)).bind fun y => impl_MatrixOfWord.l0 k y (y.length : Int) 0 bt.1 bt.2.1 bt.2.2.1 bt.2.2.2) else none) else some (0, 0, 0, 0, false) := fun k => rfl
  refine Ev.congr hf ?_
  unfold impl_isWord.f
  by_cases h1 : s.size ≤ 40
  · rw [if_pos (show (s.size : Int) ≤ 40 by omega), if_pos (show (40 : Int) ≤ 1000 by decide), if_pos h1]
    by_cases h2 : lr s.data.toList = true
    · rw [h2, if_pos rfl]
      refine Ev.congr (fun k => if_pos (show (s.size : Int) ≤ 140737488351232 by omega)) ?_
      have := impl_word_l0 (bytesOf s) (by rw [bytesOf_length]; omega) (bytesOf s).length 0 1 0 0 1 (by omega) (by omega)
      exact this
    · rw [if_neg h2]
      have h3 : lr s.data.toList = false := by cases h : lr s.data.toList <;> simp_all
      rw [h3]
      exact Ev.now _
  · rw [if_neg (show ¬ (s.size : Int) ≤ 40 by omega), if_neg h1]
    exact Ev.now _
theorem mxLetter_lr {c : Int} (h : c = 108 ∨ c = 114) : spec_mxLetter.f c = some ((letter c).1, (letter c).2.1, (letter c).2.2.1, (letter c).2.2.2, true) := by
  rcases h with rfl | rfl <;> rfl
theorem mxLetter_no {c : Int} (h : ¬ (c = 108 ∨ c = 114)) : spec_mxLetter.f c = some (0, 0, 0, 0, false) := by
  unfold spec_mxLetter.f
  rw [if_neg (fun e => h (.inl e)), if_neg (fun e => h (.inr e))]
theorem spec_word_l0 (s : ByteArray) (hs : s.size ≤ 1000000) : ∀ (d i : Nat) (a b c e : Int), s.size - i = d → i ≤ s.size →
    Ev (fun k => spec_MatrixOfWord.l0 k s (i : Int) a b c e) (if LR ((bytesOf s).drop i) then chk (wordM ((bytesOf s).drop i) (a, b, c, e)) else zeros5) := by
  have hlen := bytesOf_length s
  intro d
  induction d with
  | zero =>
    intro i a b c e h1 h2
    have : i = s.size := by omega
    subst this
    have hd : (bytesOf s).drop s.size = [] := by rw [← hlen]; exact List.drop_length
    rw [hd, if_pos (by intro c hc; cases hc)]
    refine Ev.step (fun k => rfl) ?_
    refine Ev.congr (fun k => if_neg (by omega)) ?_
    exact Ev.bind (f := fun _ bt => some (bt.1, bt.2.1, bt.2.2.1, bt.2.2.2.1, bt.2.2.2.2)) (mxIf_Ev a b c e) (Ev.now _)
  | succ d ih =>
    intro i a b c e h1 h2
    have hil : i < (bytesOf s).length := by omega
    refine Ev.step (fun k => rfl) ?_
    refine Ev.congr (fun k => (if_pos (by omega)).trans (if_pos (by omega))) ?_
    have hw : wrap64 ((i : Int) + 1) = ((i + 1 : Nat) : Int) := by rw [wrap64_id (by omega) (by omega)]; omega
    rw [hw, rd_drop hil, rd_bytesOf]
    by_cases hc : bt s (i : Int) = 108 ∨ bt s (i : Int) = 114
    · rw [mxLetter_lr hc]
      have := ih (i + 1) (tm (a, b, c, e) (letter (bt s (i : Int)))).1 (tm (a, b, c, e) (letter (bt s (i : Int)))).2.1 (tm (a, b, c, e) (letter (bt s (i : Int)))).2.2.1 (tm (a, b, c, e) (letter (bt s (i : Int)))).2.2.2 (by omega) (by omega)
      have e1 : LR (bt s (i : Int) :: (bytesOf s).drop (i + 1)) ↔ LR ((bytesOf s).drop (i + 1)) := by
        unfold LR; simp [hc]
      simp only [e1]
      exact this
    · rw [mxLetter_no hc]
      have e1 : ¬ LR (bt s (i : Int) :: (bytesOf s).drop (i + 1)) := fun h => hc (h _ (List.mem_cons_self ..))
      rw [if_neg e1]
      exact Ev.now _
theorem spec_mow (s : ByteArray) : Ev (fun k => spec_MatrixOfWord.f k s) (mow s) := by
  unfold mow
  have hf : ∀ k, spec_MatrixOfWord.f k s = if (s.size : Int) > 40 then some (0, 0, 0, 0, false) else spec_MatrixOfWord.l0 k s 0 1 0 0 1 := fun k => rfl
  refine Ev.congr hf ?_
  by_cases h1 : s.size ≤ 40
  · rw [if_pos h1]
    refine Ev.congr (fun k => if_neg (by omega)) ?_
    have := spec_word_l0 s (by omega) s.size 0 1 0 0 1 (by omega) (by omega)
    rw [List.drop_zero] at this
    by_cases h2 : LR (bytesOf s)
    · rw [if_pos ((bytesOf_lr s).2 h2)]; rw [if_pos h2] at this; exact this
    · rw [if_neg (fun h => h2 ((bytesOf_lr s).1 h))]; rw [if_neg h2] at this; exact this
  · rw [if_neg h1]
    refine Ev.congr (fun k => if_pos (by omega)) ?_
    exact Ev.now _
/-- The product of a word's letters. -/
def wz : List Int → M4
  | [] => I4
  | c :: r => mm (letter c) (wz r)
theorem letter_bd (c : Int) : Bd 1 (letter c) := by
  unfold letter Bd; split <;> decide
/-- Not less than 0. -/
def NN (m : M4) : Prop := 0 ≤ m.1 ∧ 0 ≤ m.2.1 ∧ 0 ≤ m.2.2.1 ∧ 0 ≤ m.2.2.2
theorem letter_mm (c : Int) (m : M4) : mm (letter c) m = if c = 108 then (m.1, m.2.1, m.1 + m.2.2.1, m.2.1 + m.2.2.2) else (m.1 + m.2.2.1, m.2.1 + m.2.2.2, m.2.2.1, m.2.2.2) := by
  unfold letter mm
  split <;> simp
theorem wz_bd : ∀ (l : List Int), NN (wz l) ∧ Bd (2 ^ l.length) (wz l) ∧ det (wz l) = 1
  | [] => ⟨by unfold NN wz I4; decide, by unfold Bd wz I4; decide, rfl⟩
  | c :: r => by
    obtain ⟨h1, h2, h3⟩ := wz_bd r
    have hd : det (wz (c :: r)) = 1 := by
      rw [wz, det_mm, h3]; unfold letter; split <;> rfl
    refine ⟨?_, ?_, hd⟩
    · rw [wz, letter_mm]; unfold NN at *; split <;> (dsimp only; omega)
    · rw [wz, letter_mm, List.length_cons, Nat.pow_succ]
      unfold Bd at *
      generalize 2 ^ r.length = C at *
      split <;> (dsimp only; omega)
theorem wordM_eq : ∀ (l : List Int) (m : M4) (j : Nat), Bd (2 ^ j) m → j + l.length ≤ 60 → wordM l m = mm m (wz l)
  | [], m, j, _, _ => (mm_one m).symm
  | c :: r, m, j, hb, hj => by
    rw [List.length_cons] at hj
    have hp : 2 ^ j ≤ 2 ^ 60 := Nat.pow_le_pow_right (by decide) (by omega)
    have := tm_mm hb (letter_bd c) (by omega)
    rw [wordM, this.1]
    have hb2 : Bd (2 ^ (j + 1)) (mm m (letter c)) := by
      have e : 2 ^ (j + 1) = 2 ^ j * 1 + 2 ^ j * 1 := by rw [Nat.pow_succ]; omega
      rw [e]; exact this.2
    rw [wordM_eq r _ (j + 1) hb2 (by omega), wz, mm_assoc]
theorem wordM_I (l : List Int) (h : l.length ≤ 60) : wordM l I4 = wz l := by
  rw [wordM_eq l I4 0 (by unfold Bd I4; decide) (by omega), one_mm]
theorem wz_append : ∀ (l r : List Int), wz (l ++ r) = mm (wz l) (wz r)
  | [], r => (one_mm _).symm
  | c :: l, r => by rw [List.cons_append, wz, wz, wz_append l r, mm_assoc]
theorem isM_wz (l : List Int) (h : l.length ≤ 29) : IsM (wz l).1 (wz l).2.1 (wz l).2.2.1 (wz l).2.2.2 := by
  obtain ⟨h1, h2, h3⟩ := wz_bd l
  have hp : 2 ^ l.length ≤ 2 ^ 29 := Nat.pow_le_pow_right (by decide) h
  have hq : 2 ^ 29 ≤ 1000000000 := by decide
  obtain ⟨b1, b2, b3, b4⟩ := h2
  unfold IsM ent
  unfold det at h3
  exact ⟨by omega, by omega, by omega, by omega, h3⟩
end Go.Proofs.YtdclgghdilbheaaDoor.P

/- The word with a matrix: the program and the reference alike; words come back. -/
namespace Go.Proofs.YtdclgghdilbheaaDoor.P
set_option linter.unusedVariables false
set_option linter.unusedSimpArgs false
open Go.RowKit Go.Proofs.YtdclgghdilbheaaDoorW.PrintWords Go.Proofs.YtdclgghdilbheaaDoorW.PrintLast Go.Proofs.YtdclgghdilbheaaDoorW.PrintMore
def wo : Nat → M4 → Option (List Int)
  | 0, m => if m = I4 then some [] else none
  | n + 1, m => if m = I4 then some [] else if m.2.2.1 ≤ m.1 ∧ m.2.2.2 ≤ m.2.1 then (wo n (m.1 - m.2.2.1, m.2.1 - m.2.2.2, m.2.2.1, m.2.2.2)).map (114 :: ·) else (wo n (m.1, m.2.1, m.2.2.1 - m.1, m.2.2.2 - m.2.1)).map (108 :: ·)
/-- A good matrix: its numbers not less than 0, not too great, of determinant one. -/
def G (m : M4) : Prop := NN m ∧ Bd 1000000000 m ∧ det m = 1
theorem dom {m : M4} (h : G m) (hI : m ≠ I4) (hn : ¬ (m.2.2.1 ≤ m.1 ∧ m.2.2.2 ≤ m.2.1)) : m.1 ≤ m.2.2.1 ∧ m.2.1 ≤ m.2.2.2 := by
  obtain ⟨a, b, c, d⟩ := m
  obtain ⟨⟨h1, h2, h3, h4⟩, _, hd⟩ := h
  dsimp only [det] at *
  have key1 : a ≤ c → d ≤ b → False := fun p q => by
    have := Int.mul_le_mul p q h4 h3
    have e : b * c = c * b := Int.mul_comm _ _
    omega
  have key2 : c + 1 ≤ a → b + 1 ≤ d → False := fun p q => by
    have h5 := Int.mul_le_mul p q (by omega) h1
    have e : (c + 1) * (b + 1) = b * c + c + b + 1 := by grind
    have hb : b = 0 := by omega
    have hc : c = 0 := by omega
    subst hb; subst hc
    have e2 : a * d = 1 := by omega
    have ha : a = 1 := by
      have := Int.mul_le_mul (Int.le_refl a) (show (1 : Int) ≤ d by omega) (by decide) h1
      omega
    subst ha
    have hd1 : d = 1 := by omega
    subst hd1
    exact hI rfl
  refine ⟨?_, ?_⟩
  · by_cases hx : a ≤ c
    · exact hx
    · exfalso; exact key2 (by omega) (by omega)
  · by_cases hy : b ≤ d
    · exact hy
    · exfalso; exact key1 (by omega) (by omega)
theorem not_both {m : M4} (h : G m) (h1 : m.2.2.1 ≤ m.1 ∧ m.2.2.2 ≤ m.2.1) : ¬ (m.1 ≤ m.2.2.1 ∧ m.2.1 ≤ m.2.2.2) := by
  obtain ⟨a, b, c, d⟩ := m
  obtain ⟨_, _, hd⟩ := h
  dsimp only [det] at *
  intro h2
  have e1 : a = c := by omega
  have e2 : b = d := by omega
  subst e1; subst e2
  have : a * b = b * a := Int.mul_comm _ _
  omega
theorem G_up {m : M4} (h : G m) (h1 : m.2.2.1 ≤ m.1 ∧ m.2.2.2 ≤ m.2.1) : G (m.1 - m.2.2.1, m.2.1 - m.2.2.2, m.2.2.1, m.2.2.2) := by
  obtain ⟨a, b, c, d⟩ := m
  obtain ⟨⟨p1, p2, p3, p4⟩, ⟨q1, q2, q3, q4⟩, hd⟩ := h
  dsimp only [det] at *
  refine ⟨⟨by dsimp only; omega, by dsimp only; omega, p3, p4⟩, ⟨by dsimp only; omega, by dsimp only; omega, q3, q4⟩, ?_⟩
  unfold det; dsimp only
  have : (a - c) * d - (b - d) * c = a * d - b * c := by grind
  omega
theorem G_down {m : M4} (h : G m) (h1 : m.1 ≤ m.2.2.1 ∧ m.2.1 ≤ m.2.2.2) : G (m.1, m.2.1, m.2.2.1 - m.1, m.2.2.2 - m.2.1) := by
  obtain ⟨a, b, c, d⟩ := m
  obtain ⟨⟨p1, p2, p3, p4⟩, ⟨q1, q2, q3, q4⟩, hd⟩ := h
  dsimp only [det] at *
  refine ⟨⟨p1, p2, by dsimp only; omega, by dsimp only; omega⟩, ⟨q1, q2, by dsimp only; omega, by dsimp only; omega⟩, ?_⟩
  unfold det; dsimp only
  have : a * (d - b) - b * (c - a) = a * d - b * c := by grind
  omega
def wres (acc : List Int) : Option (List Int) → ByteArray × Bool
  | some w => (strOfNums (acc ++ w), true)
  | none => ((⟨#[]⟩ : ByteArray), false)
theorem wres_cons (acc : List Int) (c : Int) (o : Option (List Int)) : wres acc (o.map (c :: ·)) = wres (acc ++ [c]) o := by
  cases o <;> simp [wres]
theorem one_test (a b c d : Int) : ((!(a == 1) || (!(b == 0) || (!(c == 0) || (!(d == 1))))) = true) ↔ (a, b, c, d) ≠ I4 := by
  simp [I4]; grind
theorem impl_wo (n : Nat) : ∀ (acc : List Int) (a b c d : Int), acc.length + n = 40 → G (a, b, c, d) → Ev (fun k => impl_WordOfMatrix.l0 k acc a b c d) (wres acc (wo n (a, b, c, d))) := by
  induction n with
  | zero =>
    intro acc a b c d hn hG
    refine Ev.step (fun k => rfl) ?_
    unfold wo
    by_cases h : (a, b, c, d) = I4
    · rw [if_pos h]
      refine Ev.congr (fun k => if_neg (fun e => (one_test a b c d).1 e h)) ?_
      rw [wres, List.append_nil]; exact Ev.now _
    · rw [if_neg h]
      refine Ev.congr (fun k => (if_pos ((one_test a b c d).2 h)).trans (if_pos (by omega))) ?_
      exact Ev.now _
  | succ n ih =>
    intro acc a b c d hn hG
    refine Ev.step (fun k => rfl) ?_
    unfold wo
    by_cases h : (a, b, c, d) = I4
    · rw [if_pos h]
      refine Ev.congr (fun k => if_neg (fun e => (one_test a b c d).1 e h)) ?_
      rw [wres, List.append_nil]; exact Ev.now _
    · rw [if_neg h]
      refine Ev.congr (fun k => (if_pos ((one_test a b c d).2 h)).trans (if_neg (by omega))) ?_
      have hB := hG.2.1
      have hN := hG.1
      unfold Bd at hB
      unfold NN at hN
      dsimp only at hB hN
      by_cases h1 : c ≤ a ∧ d ≤ b
      · rw [if_pos h1, wres_cons]
        refine Ev.congr (fun k => (if_pos h1.1).trans ((if_pos h1.2).trans (if_pos (by omega)))) ?_
        rw [wrap64_id (x := a - c) (by omega) (by omega), wrap64_id (x := b - d) (by omega) (by omega)]
        exact ih (acc ++ [114]) (a - c) (b - d) c d (by rw [List.length_append]; simp; omega) (G_up hG h1)
      · rw [if_neg h1, wres_cons]
        have h2 := dom hG h h1
        dsimp only at h2
        have hf := ih (acc ++ [108]) a b (c - a) (d - b) (by rw [List.length_append]; simp; omega) (G_down hG h2)
        by_cases h3 : c ≤ a
        · refine Ev.congr (fun k => (if_pos h3).trans ((if_neg (fun e => h1 ⟨h3, e⟩)).trans (if_pos (by omega)))) ?_
          rw [wrap64_id (x := c - a) (by omega) (by omega), wrap64_id (x := d - b) (by omega) (by omega)]
          exact hf
        · refine Ev.congr (fun k => (if_neg h3).trans (if_pos (by omega))) ?_
          rw [wrap64_id (x := c - a) (by omega) (by omega), wrap64_id (x := d - b) (by omega) (by omega)]
          exact hf
theorem strOf_snoc (acc : List Int) (c : Int) (b : UInt8) (hb : UInt8.ofNat c.toNat = b) : strOfNums acc ++ (⟨#[b]⟩ : ByteArray) = strOfNums (acc ++ [c]) := by
  subst hb
  apply ByteArray.ext
  simp [strOfNums]
theorem spec_wo (n : Nat) : ∀ (acc : List Int) (a b c d : Int), acc.length + n = 40 → G (a, b, c, d) → Ev (fun k => spec_WordOfMatrix.l0 k (strOfNums acc) a b c d) (wres acc (wo n (a, b, c, d))) := by
  induction n with
  | zero =>
    intro acc a b c d hn hG
    refine Ev.step (fun k => rfl) ?_
    unfold wo
    by_cases h : (a, b, c, d) = I4
    · rw [if_pos h]
      refine Ev.congr (fun k => if_neg (fun e => (one_test a b c d).1 e h)) ?_
      rw [wres, List.append_nil]; exact Ev.now _
    · rw [if_neg h]
      refine Ev.congr (fun k => (if_pos ((one_test a b c d).2 h)).trans (if_pos (by rw [strOfNums_size]; omega))) ?_
      exact Ev.now _
  | succ n ih =>
    intro acc a b c d hn hG
    refine Ev.step (fun k => rfl) ?_
    unfold wo
    by_cases h : (a, b, c, d) = I4
    · rw [if_pos h]
      refine Ev.congr (fun k => if_neg (fun e => (one_test a b c d).1 e h)) ?_
      rw [wres, List.append_nil]; exact Ev.now _
    · rw [if_neg h]
      refine Ev.congr (fun k => (if_pos ((one_test a b c d).2 h)).trans (if_neg (by rw [strOfNums_size]; omega))) ?_
      have hB := hG.2.1
      have hN := hG.1
      unfold Bd at hB
      unfold NN at hN
      dsimp only at hB hN
      have hsz : (strOfNums acc).size + 1 ≤ 9223372036854775807 := by rw [strOfNums_size]; omega
      rw [strOf_snoc acc 108 108 rfl, strOf_snoc acc 114 114 rfl]
      by_cases h1 : c ≤ a ∧ d ≤ b
      · rw [if_pos h1, wres_cons]
        have h2 := not_both hG h1
        dsimp only at h2
        have hf := ih (acc ++ [114]) (a - c) (b - d) c d (by rw [List.length_append]; simp; omega) (G_up hG h1)
        by_cases h3 : a ≤ c
        · refine Ev.congr (fun k => (if_pos h3).trans ((if_neg (fun e => h2 ⟨h3, e⟩)).trans (if_pos hsz))) ?_
          rw [wrap64_id (x := a - c) (by omega) (by omega), wrap64_id (x := b - d) (by omega) (by omega)]
          exact hf
        · refine Ev.congr (fun k => (if_neg h3).trans (if_pos hsz)) ?_
          rw [wrap64_id (x := a - c) (by omega) (by omega), wrap64_id (x := b - d) (by omega) (by omega)]
          exact hf
      · rw [if_neg h1, wres_cons]
        have h2 := dom hG h h1
        dsimp only at h2
        refine Ev.congr (fun k => (if_pos h2.1).trans ((if_pos h2.2).trans (if_pos hsz))) ?_
        rw [wrap64_id (x := c - a) (by omega) (by omega), wrap64_id (x := d - b) (by omega) (by omega)]
        exact ih (acc ++ [108]) a b (c - a) (d - b) (by rw [List.length_append]; simp; omega) (G_down hG h2)
/-- What WordOfMatrix returns. -/
def wom (a b c d : Int) : ByteArray × Bool := if IsM a b c d ∧ 0 ≤ a ∧ 0 ≤ b ∧ 0 ≤ c ∧ 0 ≤ d then wres [] (wo 40 (a, b, c, d)) else ((⟨#[]⟩ : ByteArray), false)
theorem G_of {a b c d : Int} (h : IsM a b c d) (h1 : 0 ≤ a ∧ 0 ≤ b ∧ 0 ≤ c ∧ 0 ≤ d) : G (a, b, c, d) := by
  obtain ⟨p1, p2, p3, p4, p5⟩ := h
  unfold ent at p1 p2 p3 p4
  exact ⟨h1, ⟨by dsimp only; omega, by dsimp only; omega, by dsimp only; omega, by dsimp only; omega⟩, p5⟩
theorem mn4 (a b c d : Int) : (mn (mn (mn a b) c) d < 0) ↔ ¬ (0 ≤ a ∧ 0 ≤ b ∧ 0 ≤ c ∧ 0 ≤ d) := by
  unfold mn; split <;> (try split) <;> (try split) <;> omega
theorem impl_wom (a b c d : Int) : Ev (fun k => impl_WordOfMatrix.f k a b c d) (wom a b c d) := by
  have hf : ∀ k, impl_WordOfMatrix.f k a b c d = if decide (IsM a b c d) = true then impl_WordOfMatrix.j0 k (decide ((mn (mn (mn a b) c) d) < 0)) a b c d else impl_WordOfMatrix.j0 k true a b c d := fun k => by
    unfold impl_WordOfMatrix.f; rw [isMatrix_eq]; rfl
  refine Ev.congr hf ?_
  unfold wom
  by_cases h : IsM a b c d
  · refine Ev.congr (fun k => if_pos (decide_eq_true h)) ?_
    refine Ev.step (fun k => rfl) ?_
    by_cases h1 : 0 ≤ a ∧ 0 ≤ b ∧ 0 ≤ c ∧ 0 ≤ d
    · rw [if_pos ⟨h, h1⟩]
      refine Ev.congr (fun k => if_neg (by rw [decide_eq_true_iff, mn4]; exact fun e => e h1)) ?_
      exact impl_wo 40 [] a b c d rfl (G_of h h1)
    · rw [if_neg (fun e => h1 e.2)]
      refine Ev.congr (fun k => if_pos (by rw [decide_eq_true_iff, mn4]; exact h1)) ?_
      exact Ev.now _
  · rw [if_neg (fun e => h e.1)]
    refine Ev.congr (fun k => if_neg (by rw [decide_eq_true_iff]; exact h)) ?_
    refine Ev.step (fun k => rfl) ?_
    exact Ev.now _
theorem spec_wom (a b c d : Int) : Ev (fun k => spec_WordOfMatrix.f k a b c d) (wom a b c d) := by
  refine Ev.bind (f := fun k t => if t = true then (if a < 0 then spec_WordOfMatrix.j0 k true a b c d else (if b < 0 then spec_WordOfMatrix.j0 k true a b c d else (if c < 0 then spec_WordOfMatrix.j0 k true a b c d else spec_WordOfMatrix.j0 k (decide (d < 0)) a b c d))) else spec_WordOfMatrix.j0 k true a b c d) (mxGood_Ev a b c d) ?_
  unfold wom
  have no : Ev (fun k => spec_WordOfMatrix.j0 k true a b c d) ((⟨#[]⟩ : ByteArray), false) := Ev.step (fun k => rfl) (Ev.now _)
  by_cases h : IsM a b c d
  · refine Ev.congr (fun k => if_pos (decide_eq_true h)) ?_
    by_cases ha : a < 0
    · rw [if_neg (by omega)]; exact Ev.congr (fun k => if_pos ha) no
    · refine Ev.congr (fun k => if_neg ha) ?_
      by_cases hb : b < 0
      · rw [if_neg (by omega)]; exact Ev.congr (fun k => if_pos hb) no
      · refine Ev.congr (fun k => if_neg hb) ?_
        by_cases hc : c < 0
        · rw [if_neg (by omega)]; exact Ev.congr (fun k => if_pos hc) no
        · refine Ev.congr (fun k => if_neg hc) ?_
          by_cases hd : d < 0
          · rw [if_neg (by omega), decide_eq_true hd]; exact no
          · rw [if_pos ⟨h, by omega⟩, decide_eq_false hd]
            refine Ev.step (fun k => rfl) ?_
            exact spec_wo 40 [] a b c d rfl (G_of h (by omega))
  · rw [if_neg (fun e => h e.1)]
    exact Ev.congr (fun k => if_neg (by rw [decide_eq_true_iff]; exact h)) no
theorem wo_wz : ∀ (w : List Int) (n : Nat), LR w → w.length ≤ n → wo n (wz w) = some w
  | [], n, _, _ => by cases n <;> simp [wo, wz]
  | c :: r, 0, _, h => by simp at h
  | c :: r, n + 1, hl, h => by
    have hr : LR r := fun x hx => hl x (List.mem_cons_of_mem _ hx)
    have ih := wo_wz r n hr (by simpa using h)
    obtain ⟨⟨n1, n2, n3, n4⟩, _, hd⟩ := wz_bd r
    rw [wz, letter_mm]
    generalize wz r = m at *
    obtain ⟨a, b, c', d⟩ := m
    dsimp only [det] at *
    unfold wo
    rcases hl c (List.mem_cons_self ..) with rfl | rfl
    · rw [if_pos rfl, if_neg (by simp [I4]; omega), if_neg]
      · dsimp only
        rw [show a + c' - a = c' by omega, show b + d - b = d by omega, ih]; rfl
      · dsimp only
        intro h
        have e1 : c' = 0 := by omega
        have e2 : d = 0 := by omega
        subst e1; subst e2
        simp at hd
    · rw [if_neg (show ¬ ((114 : Int) = 108) by decide), if_neg (by simp [I4]; intro _ _ e1 e2; subst e1; omega), if_pos (by dsimp only; omega)]
      dsimp only
      rw [show a + c' - c' = a by omega, show b + d - d = b by omega, ih]; rfl
theorem wz_wo : ∀ (n : Nat) (m : M4) (w : List Int), wo n m = some w → wz w = m ∧ LR w ∧ w.length ≤ n
  | 0, m, w, h => by
    unfold wo at h
    by_cases e : m = I4
    · rw [if_pos e] at h; cases h; exact ⟨e.symm, fun x hx => (by cases hx), Nat.le_refl _⟩
    · rw [if_neg e] at h; cases h
  | n + 1, m, w, h => by
    unfold wo at h
    by_cases e : m = I4
    · rw [if_pos e] at h; cases h; exact ⟨e.symm, fun x hx => (by cases hx), Nat.zero_le _⟩
    · rw [if_neg e] at h
      by_cases e1 : m.2.2.1 ≤ m.1 ∧ m.2.2.2 ≤ m.2.1
      · rw [if_pos e1] at h
        obtain ⟨v, hv, rfl⟩ := Option.map_eq_some_iff.1 h
        obtain ⟨i1, i2, i3⟩ := wz_wo n _ v hv
        refine ⟨?_, ?_, by simpa using i3⟩
        · rw [wz, letter_mm, i1, if_neg (show ¬ ((114 : Int) = 108) by decide)]
          obtain ⟨a, b, c, d⟩ := m
          simp only [Prod.mk.injEq, true_and, and_true]
          omega
        · intro x hx
          rcases List.mem_cons.1 hx with rfl | hx
          · exact .inr rfl
          · exact i2 x hx
      · rw [if_neg e1] at h
        obtain ⟨v, hv, rfl⟩ := Option.map_eq_some_iff.1 h
        obtain ⟨i1, i2, i3⟩ := wz_wo n _ v hv
        refine ⟨?_, ?_, by simpa using i3⟩
        · rw [wz, letter_mm, i1, if_pos rfl]
          obtain ⟨a, b, c, d⟩ := m
          simp only [Prod.mk.injEq, true_and, and_true]
          omega
        · intro x hx
          rcases List.mem_cons.1 hx with rfl | hx
          · exact .inl rfl
          · exact i2 x hx
end Go.Proofs.YtdclgghdilbheaaDoor.P

/- Fractions: divisors, fractions moved by matrices, the program and the reference alike. -/
namespace Go.Proofs.YtdclgghdilbheaaDoor.P
open Go.RowKit Go.Proofs.YtdclgghdilbheaaDoorW.PrintWords Go.Proofs.YtdclgghdilbheaaDoorW.PrintLast Go.Proofs.YtdclgghdilbheaaDoorW.PrintMore
theorem gcd_step (a b : Nat) : Nat.gcd a b = Nat.gcd b (a % b) := by
  rw [Nat.gcd_comm a b, Nat.gcd_rec b a, Nat.gcd_comm]
theorem tmod_nat (a b : Nat) : Int.tmod (a : Int) (b : Int) = ((a % b : Nat) : Int) := by
  rw [Int.tmod_eq_emod_of_nonneg (by omega)]; omega
theorem divisor_l0 : ∀ (d a b : Nat), b ≤ d → Ev (fun k => impl_divisor.l0 k (a : Int) (b : Int)) ((Nat.gcd a b : Nat) : Int) := by
  intro d
  induction d with
  | zero =>
    intro a b h
    have : b = 0 := by omega
    subst this
    refine Ev.step (fun k => rfl) ?_
    rw [Nat.gcd_zero_right]
    exact Ev.now _
  | succ d ih =>
    intro a b h
    refine Ev.step (fun k => rfl) ?_
    by_cases hb : b = 0
    · subst hb
      rw [Nat.gcd_zero_right]
      exact Ev.now _
    · refine Ev.congr (fun k => if_neg (by omega)) ?_
      rw [tmod_nat, gcd_step]
      exact ih b (a % b) (by have := Nat.mod_lt a (show b > 0 by omega); omega)
theorem divisor_Ev (a b : Int) (ha : 0 ≤ a) (hb : 0 ≤ b) : Ev (fun k => impl_divisor.f k a b) ((Nat.gcd a.toNat b.toNat : Nat) : Int) := by
  obtain ⟨x, rfl⟩ := Int.eq_ofNat_of_zero_le ha
  obtain ⟨y, rfl⟩ := Int.eq_ofNat_of_zero_le hb
  exact divisor_l0 y x y (Nat.le_refl _)
def IsF (n e : Int) : Prop := (0 ≤ n ∧ n ≤ 1000000) ∧ (0 ≤ e ∧ e ≤ 1000000) ∧ Nat.gcd n.toNat e.toNat = 1
instance (n e : Int) : Decidable (IsF n e) := by unfold IsF; infer_instance
theorem isF_Ev (n e : Int) : Ev (fun k => impl_IsFraction.f k n e) (decide (IsF n e)) := by
  have hf : ∀ k, impl_IsFraction.f k n e = if decide (0 ≤ n ∧ n ≤ 1000000) = true then (if decide (0 ≤ e ∧ e ≤ 1000000) = true then (impl_divisor.f k n e).bind fun t => some (t == 1) else some false) else some false := fun k => by
    unfold impl_IsFraction.f; rw [within_eq, within_eq]; rfl
  refine Ev.congr hf ?_
  by_cases h1 : 0 ≤ n ∧ n ≤ 1000000
  · refine Ev.congr (fun k => if_pos (decide_eq_true h1)) ?_
    by_cases h2 : 0 ≤ e ∧ e ≤ 1000000
    · refine Ev.congr (fun k => if_pos (decide_eq_true h2)) ?_
      refine Ev.bind (f := fun _ t => some (t == 1)) (divisor_Ev n e h1.1 h2.1) ?_
      have : (((Nat.gcd n.toNat e.toNat : Nat) : Int) == 1) = decide (IsF n e) := by
        rw [Bool.eq_iff_iff]; simp [IsF, h1, h2]; omega
      rw [this]; exact Ev.now _
    · refine Ev.congr (fun k => if_neg (by rw [decide_eq_true_iff]; exact h2)) ?_
      rw [decide_eq_false (fun h : IsF n e => h2 h.2.1)]; exact Ev.now _
  · refine Ev.congr (fun k => if_neg (by rw [decide_eq_true_iff]; exact h1)) ?_
    rw [decide_eq_false (fun h : IsF n e => h1 h.1)]; exact Ev.now _
theorem nbGood_l0 : ∀ (d a b : Nat), b ≤ d → Ev (fun k => spec_nbGood.l0 k (a : Int) (b : Int)) (((Nat.gcd a b : Nat) : Int) == 1) := by
  intro d
  induction d with
  | zero =>
    intro a b h
    have : b = 0 := by omega
    subst this
    refine Ev.step (fun k => rfl) ?_
    rw [Nat.gcd_zero_right]
    exact Ev.now _
  | succ d ih =>
    intro a b h
    refine Ev.step (fun k => rfl) ?_
    by_cases hb : b = 0
    · subst hb
      rw [Nat.gcd_zero_right]
      exact Ev.now _
    · refine Ev.congr (fun k => (if_pos (by omega)).trans (if_neg (by omega))) ?_
      rw [tmod_nat, gcd_step]
      exact ih b (a % b) (by have := Nat.mod_lt a (show b > 0 by omega); omega)
theorem nbGood_Ev (n e : Int) : Ev (fun k => spec_nbGood.f k n e) (decide (IsF n e)) := by
  have hf : ∀ k, spec_nbGood.f k n e = if decide (0 ≤ n ∧ n ≤ 1000000) = true then spec_nbGood.j0 k (!decide (0 ≤ e ∧ e ≤ 1000000)) n e else spec_nbGood.j0 k true n e := fun k => by
    unfold spec_nbGood.f; rw [l1In_eq, l1In_eq]; rfl
  refine Ev.congr hf ?_
  have no : Ev (fun k => spec_nbGood.j0 k true n e) false := Ev.step (fun k => rfl) (Ev.now _)
  by_cases h1 : 0 ≤ n ∧ n ≤ 1000000
  · refine Ev.congr (fun k => if_pos (decide_eq_true h1)) ?_
    by_cases h2 : 0 ≤ e ∧ e ≤ 1000000
    · rw [decide_eq_true h2]
      refine Ev.step (fun k => rfl) ?_
      obtain ⟨x, rfl⟩ := Int.eq_ofNat_of_zero_le h1.1
      obtain ⟨y, rfl⟩ := Int.eq_ofNat_of_zero_le h2.1
      have := nbGood_l0 y x y (Nat.le_refl _)
      have e1 : (((Nat.gcd x y : Nat) : Int) == 1) = decide (IsF (x : Int) (y : Int)) := by
        rw [Bool.eq_iff_iff]; simp [IsF, h1, h2]; omega
      rw [e1] at this
      exact this
    · rw [decide_eq_false h2, decide_eq_false (fun h : IsF n e => h2 h.2.1)]; exact no
  · refine Ev.congr (fun k => if_neg (by rw [decide_eq_true_iff]; exact h1)) ?_
    rw [decide_eq_false (fun h : IsF n e => h1 h.1)]; exact no
def cap (x y : Int) : Int × Int × Bool := if x.natAbs > 1000000000000000 ∨ y > 1000000000000000 then (0, 0, false) else (x, y, true)
def nrm (x y : Int) : Int × Int × Bool := if y < 0 ∨ (y = 0 ∧ x < 0) then cap (-x) (-y) else cap x y
/-- What MoveFraction returns. -/
def mvf (a b c d n e : Int) : Int × Int × Bool := if IsM a b c d ∧ IsF n e then nrm (a * n + b * e) (c * n + d * e) else (0, 0, false)
theorem natAbs_F {n : Int} (h : 0 ≤ n ∧ n ≤ 1000000) : n.natAbs ≤ 1000000 := by omega
theorem mv_wrap {a b n e : Int} (ha : ent a) (hb : ent b) (hn : 0 ≤ n ∧ n ≤ 1000000) (he : 0 ≤ e ∧ e ≤ 1000000) :
    wrap64 (wrap64 (a * n) + wrap64 (b * e)) = a * n + b * e ∧ (a * n + b * e).natAbs ≤ 2000000000000000 := by
  have h1 := prod_bd (natAbs_ent ha) (natAbs_F hn)
  have h2 := prod_bd (natAbs_ent hb) (natAbs_F he)
  rw [wrap64_id (x := a * n) (by omega) (by omega), wrap64_id (x := b * e) (by omega) (by omega), wrap64_id (by omega) (by omega)]
  exact ⟨rfl, by omega⟩
theorem mx_size (x y : Int) (hx : x.natAbs ≤ 2000000000000000) : mx (mx x (wrap64 (-x))) y > 1000000000000000 ↔ x.natAbs > 1000000000000000 ∨ y > 1000000000000000 := by
  rw [wrap64_id (x := -x) (by omega) (by omega)]
  unfold mx
  split <;> (try split) <;> omega
theorem impl_j1 (x y : Int) (s : Bool) (hx : x.natAbs ≤ 2000000000000000) (hy : y.natAbs ≤ 2000000000000000) : Ev (fun k => impl_MoveFraction.j1 k x y s) (if s = true then cap (-x) (-y) else cap x y) := by
  refine Ev.step (fun k => rfl) ?_
  simp only [impl_MoveFraction.j1]
  rw [wrap64_id (x := -x) (by omega) (by omega), wrap64_id (x := -y) (by omega) (by omega)]
  cases s with
  | true =>
    rw [if_pos rfl]
    refine Ev.congr (f := fun _ => some (cap (-x) (-y))) (fun k => ?_) (Ev.now _)
    unfold impl_size.f cap
    simp only [Option.bind_some, mx_size (-x) (-y) (by omega)]
    split <;> rfl
  | false =>
    rw [if_neg Bool.false_ne_true]
    refine Ev.congr (f := fun _ => some (cap x y)) (fun k => ?_) (Ev.now _)
    unfold impl_size.f cap
    simp only [Option.bind_some, mx_size x y hx]
    split <;> rfl
theorem l1Abs_eq (x : Int) (hx : x.natAbs ≤ 2000000000000000) : spec_l1Abs.f x = some (x.natAbs : Int) := by
  unfold spec_l1Abs.f spec_l1Most.f
  rw [wrap64_id (x := -x) (by omega) (by omega)]
  by_cases h : x > -x
  · rw [if_pos h]; simp only [Option.bind_some]; congr 1; omega
  · rw [if_neg h]; simp only [Option.bind_some]; congr 1; omega
theorem spec_j1 (x y : Int) (s : Bool) (hx : x.natAbs ≤ 2000000000000000) (hy : y.natAbs ≤ 2000000000000000) : Ev (fun k => spec_MoveFraction.j1 k x y s) (if s = true then cap (-x) (-y) else cap x y) := by
  refine Ev.step (fun k => rfl) ?_
  simp only [spec_MoveFraction.j1]
  rw [wrap64_id (x := -x) (by omega) (by omega), wrap64_id (x := -y) (by omega) (by omega)]
  have hc : ∀ u v : Int, (if ((u.natAbs : Nat) : Int) > 1000000000000000 then some ((0 : Int), (0 : Int), false) else (if v > 1000000000000000 then some (0, 0, false) else some (u, v, true))) = some (cap u v) := fun u v => by
    unfold cap
    by_cases h1 : u.natAbs > 1000000000000000
    · rw [if_pos (by omega), if_pos (.inl h1)]
    · rw [if_neg (by omega)]
      by_cases h2 : v > 1000000000000000
      · rw [if_pos h2, if_pos (.inr h2)]
      · rw [if_neg h2, if_neg (fun h => h.elim h1 h2)]
  cases s with
  | true =>
    rw [if_pos rfl]
    refine Ev.congr (f := fun _ => some (cap (-x) (-y))) (fun k => ?_) (Ev.now _)
    rw [l1Abs_eq _ (by omega)]
    exact hc _ _
  | false =>
    rw [if_neg Bool.false_ne_true]
    refine Ev.congr (f := fun _ => some (cap x y)) (fun k => ?_) (Ev.now _)
    rw [l1Abs_eq _ hx]
    exact hc _ _
theorem nrm_cases (x y : Int) (g : Int × Int × Bool → Prop) (h1 : y < 0 → g (cap (-x) (-y))) (h2 : y = 0 → x < 0 → g (cap (-x) (-y))) (h3 : y = 0 → ¬ x < 0 → g (cap x y)) (h4 : 0 < y → g (cap x y)) : g (nrm x y) := by
  unfold nrm
  by_cases a1 : y < 0
  · rw [if_pos (.inl a1)]; exact h1 a1
  · by_cases a2 : y = 0
    · by_cases a3 : x < 0
      · rw [if_pos (.inr ⟨a2, a3⟩)]; exact h2 a2 a3
      · rw [if_neg (by omega)]; exact h3 a2 a3
    · rw [if_neg (by omega)]; exact h4 (by omega)
theorem impl_mvf (a b c d n e : Int) : Ev (fun k => impl_MoveFraction.f k a b c d n e) (mvf a b c d n e) := by
  have hf : ∀ k, impl_MoveFraction.f k a b c d n e = if decide (IsM a b c d) = true then ((impl_IsFraction.f k n e).bind fun t => impl_MoveFraction.j0 k (!t) a b c d n e) else impl_MoveFraction.j0 k true a b c d n e := fun k => by
    unfold impl_MoveFraction.f; rw [isMatrix_eq]; rfl
  refine Ev.congr hf ?_
  have no : Ev (fun k => impl_MoveFraction.j0 k true a b c d n e) (0, 0, false) := Ev.step (fun k => rfl) (Ev.now _)
  unfold mvf
  by_cases h1 : IsM a b c d
  · refine Ev.congr (fun k => if_pos (decide_eq_true h1)) ?_
    refine Ev.bind (f := fun k t => impl_MoveFraction.j0 k (!t) a b c d n e) (isF_Ev n e) ?_
    by_cases h2 : IsF n e
    · rw [decide_eq_true h2, if_pos ⟨h1, h2⟩]
      refine Ev.step (fun k => rfl) ?_
      simp only [impl_MoveFraction.j0]
      obtain ⟨p1, p2, p3, p4, p5⟩ := h1
      obtain ⟨q1, q2, q3⟩ := h2
      obtain ⟨w1, b1⟩ := mv_wrap p1 p2 q1 q2
      obtain ⟨w2, b2⟩ := mv_wrap p3 p4 q1 q2
      rw [w1, w2]
      generalize a * n + b * e = x at *
      generalize c * n + d * e = y at *
      refine nrm_cases x y _ ?_ ?_ ?_ ?_
      · intro hy; exact Ev.congr (fun k => if_pos hy) (impl_j1 x y true b1 b2)
      · intro hy hx
        refine Ev.congr (fun k => (if_neg (show ¬ y < 0 by omega)).trans (if_pos hy)) ?_
        rw [decide_eq_true hx]; exact impl_j1 x y true b1 b2
      · intro hy hx
        refine Ev.congr (fun k => (if_neg (show ¬ y < 0 by omega)).trans (if_pos hy)) ?_
        rw [decide_eq_false hx]; exact impl_j1 x y false b1 b2
      · intro hy
        exact Ev.congr (fun k => (if_neg (show ¬ y < 0 by omega)).trans (if_neg (show ¬ y = 0 by omega))) (impl_j1 x y false b1 b2)
    · rw [decide_eq_false h2, if_neg (fun h => h2 h.2)]; exact no
  · refine Ev.congr (fun k => if_neg (by rw [decide_eq_true_iff]; exact h1)) ?_
    rw [if_neg (fun h => h1 h.1)]; exact no
theorem spec_mvf (a b c d n e : Int) : Ev (fun k => spec_MoveFraction.f k a b c d n e) (mvf a b c d n e) := by
  refine Ev.bind (f := fun k t => if t = true then ((spec_nbGood.f k n e).bind fun t => spec_MoveFraction.j0 k (!t) a b c d n e) else spec_MoveFraction.j0 k true a b c d n e) (mxGood_Ev a b c d) ?_
  have no : Ev (fun k => spec_MoveFraction.j0 k true a b c d n e) (0, 0, false) := Ev.step (fun k => rfl) (Ev.now _)
  unfold mvf
  by_cases h1 : IsM a b c d
  · refine Ev.congr (fun k => if_pos (decide_eq_true h1)) ?_
    refine Ev.bind (f := fun k t => spec_MoveFraction.j0 k (!t) a b c d n e) (nbGood_Ev n e) ?_
    by_cases h2 : IsF n e
    · rw [decide_eq_true h2, if_pos ⟨h1, h2⟩]
      refine Ev.step (fun k => rfl) ?_
      simp only [spec_MoveFraction.j0]
      obtain ⟨p1, p2, p3, p4, p5⟩ := h1
      obtain ⟨q1, q2, q3⟩ := h2
      obtain ⟨w1, b1⟩ := mv_wrap p1 p2 q1 q2
      obtain ⟨w2, b2⟩ := mv_wrap p3 p4 q1 q2
      rw [w1, w2]
      generalize a * n + b * e = x at *
      generalize c * n + d * e = y at *
      refine nrm_cases x y _ ?_ ?_ ?_ ?_
      · intro hy; exact Ev.congr (fun k => if_pos hy) (spec_j1 x y true b1 b2)
      · intro hy hx
        refine Ev.congr (fun k => (if_neg (show ¬ y < 0 by omega)).trans (if_pos hy)) ?_
        rw [decide_eq_true hx]; exact spec_j1 x y true b1 b2
      · intro hy hx
        refine Ev.congr (fun k => (if_neg (show ¬ y < 0 by omega)).trans (if_pos hy)) ?_
        rw [decide_eq_false hx]; exact spec_j1 x y false b1 b2
      · intro hy
        exact Ev.congr (fun k => (if_neg (show ¬ y < 0 by omega)).trans (if_neg (show ¬ y = 0 by omega))) (spec_j1 x y false b1 b2)
    · rw [decide_eq_false h2, if_neg (fun h => h2 h.2)]; exact no
  · refine Ev.congr (fun k => if_neg (by rw [decide_eq_true_iff]; exact h1)) ?_
    rw [if_neg (fun h => h1 h.1)]; exact no
theorem inverse_eq (a b c d : Int) : impl_InverseMatrix.f a b c d = some (if IsM a b c d then (d, wrap64 (-b), wrap64 (-c), a, true) else (0, 0, 0, 0, false)) := by
  unfold impl_InverseMatrix.f
  rw [isMatrix_eq]
  by_cases h : IsM a b c d
  · rw [if_pos h, decide_eq_true h]; rfl
  · rw [if_neg h, decide_eq_false h]; rfl
/-- What a moved fraction is: not 0/0, in lowest terms, and moved back. -/
theorem moved {a b c d n e x y : Int} (h : mvf a b c d n e = (x, y, true)) :
    IsM a b c d ∧ ¬ y < 0 ∧ (y = 0 → x = 1) ∧ (0 ≤ x → x ≤ 1000000 → y ≤ 1000000 → IsF x y ∧ mvf d (-b) (-c) a x y = (n, e, true)) := by
  unfold mvf at h
  by_cases hc : IsM a b c d ∧ IsF n e
  · rw [if_pos hc] at h
    obtain ⟨hM, hF⟩ := hc
    have hM2 : IsM d (-b) (-c) a := by
      obtain ⟨p1, p2, p3, p4, p5⟩ := hM
      unfold ent at *
      have e5 : d * a - -b * -c = a * d - b * c := by grind
      exact ⟨by unfold ent; omega, by unfold ent; omega, by unfold ent; omega, by unfold ent; omega, by omega⟩
    obtain ⟨q1, q2, q3⟩ := hF
    have hdet := hM.2.2.2.2
    -- the sign
    obtain ⟨s, hs, hx, hy, hpos⟩ : ∃ s : Int, (s = 1 ∨ s = -1) ∧ x = s * (a * n + b * e) ∧ y = s * (c * n + d * e) ∧ (0 < y ∨ (y = 0 ∧ 0 ≤ x)) := by
      have hcap : ∀ u v, cap u v = (x, y, true) → x = u ∧ y = v := fun u v hh => by
        unfold cap at hh
        split at hh
        · cases hh
        · cases hh; exact ⟨rfl, rfl⟩
      unfold nrm at h
      split at h
      · obtain ⟨e1, e2⟩ := hcap _ _ h
        exact ⟨-1, .inr rfl, by rw [e1]; grind, by rw [e2]; grind, by omega⟩
      · obtain ⟨e1, e2⟩ := hcap _ _ h
        exact ⟨1, .inl rfl, by rw [e1]; grind, by rw [e2]; grind, by omega⟩
    have hss : s * s = 1 := by rcases hs with rfl | rfl <;> rfl
    have bn : d * x + -b * y = s * n := by
      rw [hx, hy]
      have : d * (s * (a * n + b * e)) + -b * (s * (c * n + d * e)) = (a * d - b * c) * (s * n) := by grind
      rw [this, hdet]; omega
    have be : -c * x + a * y = s * e := by
      rw [hx, hy]
      have : -c * (s * (a * n + b * e)) + a * (s * (c * n + d * e)) = (a * d - b * c) * (s * e) := by grind
      rw [this, hdet]; omega
    have dvd1 : ∀ g : Nat, (g : Int) ∣ x → (g : Int) ∣ y → g = 1 := fun g g1 g2 => by
      have k1 : (g : Int) ∣ s * n := by rw [← bn]; exact Int.dvd_add (Int.dvd_mul_of_dvd_right g1) (Int.dvd_mul_of_dvd_right g2)
      have k2 : (g : Int) ∣ s * e := by rw [← be]; exact Int.dvd_add (Int.dvd_mul_of_dvd_right g1) (Int.dvd_mul_of_dvd_right g2)
      have k3 : g ∣ n.toNat := by
        have := Int.natAbs_dvd_natAbs.2 k1
        rcases hs with rfl | rfl
        · have e1 : (1 * n).natAbs = n.toNat := by omega
          rw [e1] at this; simpa using this
        · have e1 : (-1 * n).natAbs = n.toNat := by omega
          rw [e1] at this; simpa using this
      have k4 : g ∣ e.toNat := by
        have := Int.natAbs_dvd_natAbs.2 k2
        rcases hs with rfl | rfl
        · have e1 : (1 * e).natAbs = e.toNat := by omega
          rw [e1] at this; simpa using this
        · have e1 : (-1 * e).natAbs = e.toNat := by omega
          rw [e1] at this; simpa using this
      have := Nat.dvd_gcd k3 k4
      rw [q3] at this
      exact Nat.dvd_one.1 this
    refine ⟨hM, by omega, ?_, ?_⟩
    · intro hy0
      have := dvd1 x.natAbs (Int.natAbs_dvd.2 (Int.dvd_refl x)) (by rw [hy0]; exact Int.dvd_zero _)
      omega
    · intro h0 h1 h2
      have hF2 : IsF x y := by
        refine ⟨⟨h0, h1⟩, ⟨by omega, h2⟩, ?_⟩
        refine dvd1 _ ?_ ?_
        · have := Int.natCast_dvd_natCast.2 (Nat.gcd_dvd_left x.toNat y.toNat)
          rwa [Int.toNat_of_nonneg h0] at this
        · have := Int.natCast_dvd_natCast.2 (Nat.gcd_dvd_right x.toNat y.toNat)
          rwa [Int.toNat_of_nonneg (show 0 ≤ y by omega)] at this
      refine ⟨hF2, ?_⟩
      unfold mvf
      rw [if_pos ⟨hM2, hF2⟩, bn, be]
      have he0 : e = 0 → n = 1 := fun e0 => by
        rw [e0] at q3
        have : n.toNat = 1 := by simpa using q3
        omega
      have hcap : cap n e = (n, e, true) := by unfold cap; rw [if_neg (by omega)]
      unfold nrm
      rcases hs with rfl | rfl
      · rw [if_neg (by omega), show (1 : Int) * n = n by omega, show (1 : Int) * e = e by omega]; exact hcap
      · rw [if_pos (by omega), show -(-1 * n) = n by omega, show -(-1 * e) = e by omega]; exact hcap
  · rw [if_neg hc] at h; cases h
end Go.Proofs.YtdclgghdilbheaaDoor.P

/- The cursor that draws the laws' inputs: each draw answers, and its numbers lie where they are said to lie. -/
namespace Go.Proofs.YtdclgghdilbheaaDoor.P
open Go.RowKit Go.Proofs.YtdclgghdilbheaaDoorW.PrintWords Go.Proofs.YtdclgghdilbheaaDoorW.PrintLast Go.Proofs.YtdclgghdilbheaaDoorW.PrintMore
/-- The cursor's place: it has not gone far. -/
def At (a : Int) (n : Nat) : Prop := 0 ≤ a ∧ a ≤ (n : Int) ∧ n ≤ 1000000000000
theorem At.mono {a : Int} {n m : Nat} (h : At a n) (hn : n ≤ m) (hm : m ≤ 1000000000000) : At a m := ⟨h.1, by have := h.2.1; omega, hm⟩
theorem wrap_u64_small (m : Nat) (h : m ≤ 255) : IntKind.u64.wrap (m : Int) = m := by
  simp [IntKind.wrap, IntKind.signed, IntKind.bits]; omega
theorem and_255 (x : Int) : 0 ≤ wrap64 (Go.bits .and .u64 x 255) ∧ wrap64 (Go.bits .and .u64 x 255) ≤ 255 := by
  have h : 0 ≤ Go.bits .and .u64 x 255 ∧ Go.bits .and .u64 x 255 ≤ 255 := by
    have h2 : (BitVec.ofInt 64 x &&& BitVec.ofInt 64 255).toNat ≤ 255 := by
      rw [BitVec.toNat_and]
      exact Nat.le_trans Nat.and_le_right (by decide)
    have h3 : Go.bits .and .u64 x 255 = IntKind.u64.wrap ((BitVec.ofInt 64 x &&& BitVec.ofInt 64 255).toNat : Nat) := rfl
    rw [h3, wrap_u64_small _ h2]
    omega
  rw [wrap64_id (by omega) (by omega)]; exact h
theorem next_T (l : List Int) (hl : Bytes l) (a s : Int) (n : Nat) (h : At a n) (hn : n + 1 ≤ 1000000000000) :
    ∃ v a' s', spec_l1Cur_next.f l a s = some (v, a', s') ∧ (0 ≤ v ∧ v ≤ 255) ∧ At a' (n + 1) := by
  obtain ⟨h0, h1, h2⟩ := h
  have hw : wrap64 (a + 1) = a + 1 := wrap64_id (by omega) (by omega)
  have hA : At (a + 1) (n + 1) := ⟨by omega, by omega, hn⟩
  unfold spec_l1Cur_next.f
  rw [hw]
  by_cases c1 : a < (l.length : Int)
  · rw [if_pos c1, if_pos h0]
    have hm := hl _ (rd_mem h0 c1)
    by_cases c2 : a + 1 ≤ (l.length : Int)
    · rw [if_pos c2]
      exact ⟨_, _, _, rfl, by rw [wrap64_id (by omega) (by omega)]; exact hm, hA⟩
    · rw [if_neg c2]
      exact ⟨_, _, _, rfl, and_255 _, hA⟩
  · rw [if_neg c1]
    by_cases c2 : a + 1 ≤ (l.length : Int)
    · rw [if_pos c2]; exact ⟨_, _, _, rfl, ⟨by omega, by omega⟩, hA⟩
    · rw [if_neg c2]
      exact ⟨_, _, _, rfl, and_255 _, hA⟩
theorem pick_ex (l : List Int) (hl : Bytes l) (a s m : Int) (n : Nat) (h : At a n) (hn : n + 2 ≤ 1000000000000) (hm : m ≤ 1000000000) :
    ∃ v a' s', spec_l1Cur_pick.f l a s m = some (v, a', s') ∧ (0 ≤ v ∧ (1 ≤ m → v < m) ∧ (m ≤ 1 → v = 0)) ∧ At a' (n + 2) := by
  unfold spec_l1Cur_pick.f
  by_cases c1 : m ≤ 1
  · rw [if_pos c1]; exact ⟨_, _, _, rfl, ⟨by omega, by omega, by omega⟩, h.mono (by omega) hn⟩
  · rw [if_neg c1]
    obtain ⟨v, a1, s1, e1, hv, hA⟩ := next_T l hl a s n h (by omega)
    rw [e1]; simp only [Option.bind_some]
    by_cases c2 : m > 200
    · rw [if_pos c2]
      obtain ⟨v2, a2, s2, e2, hv2, hA2⟩ := next_T l hl a1 s1 (n + 1) hA (by omega)
      rw [e2]; simp only [Option.bind_some]
      rw [if_neg (by omega)]
      refine ⟨_, _, _, rfl, ?_, hA2⟩
      rw [wrap64_id (x := v * 256) (by omega) (by omega), wrap64_id (by omega) (by omega), Int.tmod_eq_emod_of_nonneg (by omega)]
      exact ⟨Int.emod_nonneg _ (by omega), fun _ => Int.emod_lt_of_pos _ (by omega), by omega⟩
    · rw [if_neg c2, if_neg (by omega)]
      refine ⟨_, _, _, rfl, ?_, hA.mono (by omega) hn⟩
      rw [Int.tmod_eq_emod_of_nonneg (by omega)]
      exact ⟨Int.emod_nonneg _ (by omega), fun _ => Int.emod_lt_of_pos _ (by omega), by omega⟩
theorem pick_T (l : List Int) (hl : Bytes l) (a s m : Int) (n : Nat) (h : At a n) (hn : n + 2 ≤ 1000000000000 := by omega) (hm : m ≤ 1000000000 := by omega) :
    T (fun _ => spec_l1Cur_pick.f l a s m) fun r => (0 ≤ r.1 ∧ (1 ≤ m → r.1 < m) ∧ (m ≤ 1 → r.1 = 0)) ∧ At r.2.1 (n + 2) := by
  obtain ⟨v, a', s', e, h1, h2⟩ := pick_ex l hl a s m n h hn hm
  exact T.of_eq e ⟨h1, h2⟩
theorem one_T (l : List Int) (hl : Bytes l) (a s m : Int) (n : Nat) (h : At a n) (hn : n + 2 ≤ 1000000000000 := by omega) (hm : m ≤ 1000000000 := by omega) :
    T (fun _ => spec_l1Cur_one.f l a s m) fun r => At r.2.1 (n + 2) := by
  obtain ⟨v, a', s', e, h1, h2⟩ := pick_ex l hl a s m n h hn hm
  refine T.of_eq (r := ((v == 0), a', s')) ?_ h2
  unfold spec_l1Cur_one.f; rw [e]; rfl
theorem of_T (l : List Int) (hl : Bytes l) (a s : Int) (xs : List ByteArray) (n : Nat) (h : At a n) (hx : 0 < xs.length) (hx2 : xs.length ≤ 1000) (hn : n + 2 ≤ 1000000000000 := by omega) :
    T (fun _ => spec_l1Cur_of.f l a s xs) fun r => r.1 ∈ xs ∧ At r.2.1 (n + 2) := by
  obtain ⟨v, a', s', e, ⟨h1, h2, _⟩, h3⟩ := pick_ex l hl a s (xs.length : Int) n h hn (by omega)
  have hv := h2 (by omega)
  refine T.of_eq (r := (rdOf ByteArray.empty xs v, a', s')) ?_ ⟨?_, h3⟩
  · unfold spec_l1Cur_of.f; rw [e]; simp only [Option.bind_some]; rw [if_pos h1, if_pos hv]
  · unfold rdOf
    have : v.toNat < xs.length := by omega
    simp [List.getD, List.getElem?_eq_getElem this]
theorem among_T (l : List Int) (hl : Bytes l) (a s : Int) (xs : List Int) (n : Nat) (h : At a n) (hx : 0 < xs.length) (hx2 : xs.length ≤ 1000) (hn : n + 2 ≤ 1000000000000 := by omega) :
    T (fun _ => spec_l1Cur_among.f l a s xs) fun r => r.1 ∈ xs ∧ At r.2.1 (n + 2) := by
  obtain ⟨v, a', s', e, ⟨h1, h2, _⟩, h3⟩ := pick_ex l hl a s (xs.length : Int) n h hn (by omega)
  have hv := h2 (by omega)
  refine T.of_eq (r := (rd xs v, a', s')) ?_ ⟨rd_mem h1 hv, h3⟩
  unfold spec_l1Cur_among.f; rw [e]; simp only [Option.bind_some]; rw [if_pos h1, if_pos hv]
/-- Texts that draws make are short. -/
def Short (s : ByteArray) (n : Nat) : Prop := s.size ≤ n ∧ n ≤ 1000000000
theorem strOf_one (x : Int) : (strOfNums [x]).size = 1 := rfl
theorem spoilt_l0_T (l : List Int) (hl : Bytes l) (w : ByteArray) (hw : 0 < w.size) (hw2 : w.size ≤ 1000000) : ∀ (d : Nat) (t : ByteArray) (m a s : Int) (n z : Nat), m ≤ d → 0 ≤ m → d ≤ 10 → Short t z → z + d ≤ 1000000000 → At a n → n + 6 * d ≤ 1000000000000 →
    T (fun k => spec_l1Cur_spoilt.l0 k t w m l a s) fun r => Short r.1 (z + d) ∧ At r.2.1 (n + 6 * d) := by
  intro d
  induction d with
  | zero =>
    intro t m a s n z h1 h2 h3 hz hzd hA hn
    have hz1 := hz.1
    have hz2 := hz.2
    refine T.step (fun k => rfl) ?_
    refine T.neg (by omega) ?_
    refine T.step (fun k => rfl) ?_
    exact T.ret ⟨(⟨by omega, by omega⟩ : Short t _), hA.mono (by omega) (by omega)⟩
  | succ d ih =>
    intro t m a s n z h1 h2 h3 hz hzd hA hn
    have hz1 := hz.1
    have hz2 := hz.2
    by_cases hm : m > 0
    · refine T.step (fun k => rfl) ?_
      refine T.pos hm ?_
      refine T.step (fun k => rfl) ?_
      refine T.ite (fun c => ?_) (fun c => ?_)
      · have ht : 0 < t.size := by have := of_decide_eq_true c; omega
        refine T.bind (pick_T l hl a s (t.size : Int) n hA) ?_
        rintro ⟨i, a1, s1⟩ ⟨⟨i0, i1, _⟩, hA1⟩
        dsimp only at i0 i1 hA1 ⊢
        have i2 := i1 (by omega)
        refine T.bind (pick_T l hl a1 s1 (w.size : Int) _ hA1) ?_
        rintro ⟨j, a2, s2⟩ ⟨⟨j0, j1, _⟩, hA2⟩
        dsimp only at j0 j1 hA2 ⊢
        refine T.pos j0 (T.pos (j1 (by omega)) ?_)
        refine T.some_bind ?_
        refine T.bind (pick_T l hl a2 s2 3 _ hA2) ?_
        rintro ⟨q, a3, s3⟩ ⟨⟨q0, q1, _⟩, hA3⟩
        dsimp only at q0 q1 hA3 ⊢
        have hm1 : wrap64 (m - 1) = m - 1 := wrap64_id (by omega) (by omega)
        have hi1 : wrap64 (i + 1) = i + 1 := wrap64_id (by omega) (by omega)
        have e1 : (t.extract 0 i.toNat).size = i.toNat := by rw [ByteArray.size_extract]; omega
        have e2 : (t.extract i.toNat t.size).size = t.size - i.toNat := by rw [ByteArray.size_extract]; omega
        have e3 : (t.extract (i + 1).toNat t.size).size = t.size - (i.toNat + 1) := by rw [ByteArray.size_extract]; omega
        have fin : ∀ t' : ByteArray, t'.size ≤ t.size + 1 → T (fun k => spec_l1Cur_spoilt.l0 k t' w (m - 1) l a3 s3) fun r => Short r.1 (z + (d + 1)) ∧ At r.2.1 (n + 6 * (d + 1)) := by
          intro t' ht'
          refine (ih t' (m - 1) a3 s3 (n + 2 + 2 + 2) (z + 1) (by omega) (by omega) (by omega) ⟨by omega, by omega⟩ (by omega) hA3 (by omega)).mono ?_
          rintro ⟨r1, r2, r3⟩ ⟨⟨g1, g2⟩, g3⟩
          exact ⟨⟨by omega, by omega⟩, g3.mono (by omega) (by omega)⟩
        rw [hm1, hi1]
        refine T.ite (fun c1 => ?_) (fun c1 => T.ite (fun c2 => ?_) (fun c2 => ?_))
        · refine T.pos i0 (T.pos (by omega) (T.pos (by rw [e1, strOf_one]; omega) (T.pos (by rw [ByteArray.size_append, e1, e2, strOf_one]; omega) ?_)))
          exact fin _ (by rw [ByteArray.size_append, ByteArray.size_append, e1, e2, strOf_one]; omega)
        · refine T.pos i0 (T.pos (by omega) (T.pos (by rw [e1, strOf_one]; omega) (T.pos (by omega) (T.pos (by omega) (T.pos (by rw [ByteArray.size_append, e1, e3, strOf_one]; omega) ?_)))))
          exact fin _ (by rw [ByteArray.size_append, ByteArray.size_append, e1, e3, strOf_one]; omega)
        · refine T.pos i0 (T.pos (by omega) (T.pos (by omega) (T.pos (by omega) (T.pos (by rw [e1, e3]; omega) ?_))))
          exact fin _ (by rw [ByteArray.size_append, e1, e3]; omega)
      · exact T.ret ⟨(⟨by omega, by omega⟩ : Short t _), hA.mono (by omega) (by omega)⟩
    · refine T.step (fun k => rfl) ?_
      refine T.neg hm ?_
      refine T.step (fun k => rfl) ?_
      exact T.ret ⟨(⟨by omega, by omega⟩ : Short t _), hA.mono (by omega) (by omega)⟩
theorem spoilt_T (l : List Int) (hl : Bytes l) (t w : ByteArray) (a s : Int) (n z : Nat) (hw : 0 < w.size) (hw2 : w.size ≤ 1000000) (hz : Short t z) (hz2 : z ≤ 1000000) (hA : At a n) (hn : n + 14 ≤ 1000000000000 := by omega) :
    T (fun k => spec_l1Cur_spoilt.f k l a s t w) fun r => Short r.1 (z + 2) ∧ At r.2.1 (n + 14) := by
  refine T.bind (pick_T l hl a s 2 n hA) ?_
  rintro ⟨q, a1, s1⟩ ⟨⟨q0, q1, _⟩, hA1⟩
  dsimp only at q0 q1 hA1 ⊢
  have q2 := q1 (by omega)
  rw [wrap64_id (x := 1 + q) (by omega) (by omega)]
  exact spoilt_l0_T l hl w hw hw2 2 t (1 + q) a1 s1 (n + 2) z (by omega) (by omega) (by omega) hz (by omega) hA1 (by omega)
end Go.Proofs.YtdclgghdilbheaaDoor.P

