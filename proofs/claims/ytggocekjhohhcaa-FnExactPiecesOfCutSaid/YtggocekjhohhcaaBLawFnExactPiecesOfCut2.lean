/- Proof of FnExactPiecesOfCutSaid, part 3 of 4: the texts Pf44, Pf15, Pf10, Good, GoodB, Pf77, PiecesPure, ExtLib, ShelfF, Pf81, Compare, SortRow, Pieces, Pf71, Pf40, CuPieces, CuPiecesB, Sizes, ExtCut, Lists, Pf26, Pf27, Pf18, Pf23, joined by a program of this session. -/
import Derived.Test.YtggocekjhohhcaaBLawFnExactPiecesOfCut1
import Derived.Test.YtggocekjhohhcaaBLawFnExactPiecesOfCut0
import Derived.Lib.SliceRun
import Derived.Shelf.SlGeneric
import Derived.Ground.NamesProg
import Derived.Ground.SlsfProg
import Derived.Ground.SlgmProg
import Derived.Shelf.SlSortCmp.NoneTotal
import Derived.Shelf.SortM.Plain
import Derived.Shelf.SortM.SortNone
import Derived.Test.YtggocekjhohhcaaProg
import Derived.Sort.OwnSortedInts
import Derived.BigQuiet
import Derived.Deep.QuietTactic
import Derived.StillTailTactics
import Derived.IntWalk
-- By a program of this session.
namespace Go.Proofs.Ytggocekjhohhcaa.P
open Go.RowKit Go.Proofs.YtggocekjhohhcaaW.PrintWords Go.Proofs.YtggocekjhohhcaaW.PrintLast Go.Proofs.YtggocekjhohhcaaW.PrintMore
attribute [local go_sem] max2_int min2_int max_two min_two max_three min_three max_four min_four
set_option linter.unusedVariables false
set_option linter.unusedSimpArgs false

/-! ### laws_eqDiagonal: function 44 -/
def laws_eqDiagonal.f (a0_0 : Int) (a0_1 : Int) (a1_0 : Int) (a1_1 : Int) : Option (Bool) := if a0_0 = a1_0 then (if a0_1 = a1_1 then (some true) else (some false)) else (some false)
set_option maxHeartbeats 8000000 in
set_option maxRecDepth 100000 in
theorem laws_eqDiagonal.calls (a0_0 : Int) (a0_1 : Int) (a1_0 : Int) (a1_1 : Int) (r : Bool) (w : World) (h : laws_eqDiagonal.f a0_0 a0_1 a1_0 a1_1 = some r) :
  Calls Try.prog 44 #[.agg #[.int .i64 a0_0, .int .i64 a0_1], .agg #[.int .i64 a1_0, .int .i64 a1_1]] w fun e w' => e = .returned (.bool r) ∧ Below w.heap.size w w' := by
 have hu59 := Try.underlying59
 have HB := Aside0.mk (Below.refl w.heap.size w)
 have H : (if a0_0 = a1_0 then (if a0_1 = a1_1 then (some true) else (some false)) else (some false)) = some r := h
 clear h
 by_cases c3 : a0_0 = a1_0
 ·rw [if_pos c3] at H
  have c3b0 : (a0_0 == a1_0) = true := beq_iff_eq.mpr c3
  have c3b1 : (a0_0 != a1_0) = false := bne_eq_false_iff_eq.mpr c3
  clear c3
  by_cases c4 : a0_1 = a1_1
  ·rw [if_pos c4] at H
   have c4b0 : (a0_1 == a1_1) = true := beq_iff_eq.mpr c4
   have c4b1 : (a0_1 != a1_1) = false := bne_eq_false_iff_eq.mpr c4
   clear c4
   obtain rfl := Option.some.inj H
   simp only [Option.some.injEq, Prod.mk.injEq] at H
   obtain ⟨rfl⟩ := H
   go_enter Try.func44, Try.ntmps44
   go_wp2_with (first | ((with_reducible refine gate_dst (N := 2) rfl ?_); refine box_ 2 #[.int .i64 a0_0, .int .i64 a0_1] 59 ?_; intro gb225 hg w5 hbox hb; have BK225 := Aside0.mk (hbox); have GW225 := ge_ HB hg; have GE225 := GW225; replace HB := hh HB hb; clear hb hbox hg) | ((with_reducible refine gate_dst (N := 3) rfl ?_); refine box_ 3 #[.int .i64 a1_0, .int .i64 a1_1] 59 ?_; intro gb226 hg w6 hbox hb; have BK226 := Aside0.mk (hbox); have GW226 := ge_ HB hg; have GE226 := GW226; obtain ⟨NB225_226, NB226_225⟩ := nb BK225 hg; replace BK225 := bb BK225 hb; replace HB := hh HB hb; clear hb hbox hg; have hnb7 := NB225_226.out; have hnc7 := NB226_225.out; obtain ⟨z8a, z8b, y8a, y8b⟩ := c2_ BK225; obtain ⟨z9a, z9b, y9a, y9b⟩ := c2_ BK226))
   go_ret
   exact ⟨eqr, hk HB⟩
  ·rw [if_neg c4] at H
   have c4b0 : (a0_1 == a1_1) = false := beq_eq_false_iff_ne.mpr c4
   have c4b1 : (a0_1 != a1_1) = true := bne_iff_ne.mpr c4
   obtain rfl := Option.some.inj H
   simp only [Option.some.injEq, Prod.mk.injEq] at H
   obtain ⟨rfl⟩ := H
   go_enter Try.func44, Try.ntmps44
   go_wp2_with (first | ((with_reducible refine gate_dst (N := 2) rfl ?_); refine box_ 2 #[.int .i64 a0_0, .int .i64 a0_1] 59 ?_; intro gb225 hg w10 hbox hb; have BK225 := Aside0.mk (hbox); have GW225 := ge_ HB hg; have GE225 := GW225; replace HB := hh HB hb; clear hb hbox hg) | ((with_reducible refine gate_dst (N := 3) rfl ?_); refine box_ 3 #[.int .i64 a1_0, .int .i64 a1_1] 59 ?_; intro gb226 hg w11 hbox hb; have BK226 := Aside0.mk (hbox); have GW226 := ge_ HB hg; have GE226 := GW226; obtain ⟨NB225_226, NB226_225⟩ := nb BK225 hg; replace BK225 := bb BK225 hb; replace HB := hh HB hb; clear hb hbox hg; have hnb12 := NB225_226.out; have hnc12 := NB226_225.out; obtain ⟨z13a, z13b, y13a, y13b⟩ := c2_ BK225; obtain ⟨z14a, z14b, y14a, y14b⟩ := c2_ BK226))
   go_ret
   exact ⟨eqr, hk HB⟩
 ·rw [if_neg c3] at H
  have c3b0 : (a0_0 == a1_0) = false := beq_eq_false_iff_ne.mpr c3
  have c3b1 : (a0_0 != a1_0) = true := bne_iff_ne.mpr c3
  obtain rfl := Option.some.inj H
  simp only [Option.some.injEq, Prod.mk.injEq] at H
  obtain ⟨rfl⟩ := H
  go_enter Try.func44, Try.ntmps44
  go_wp2_with (first | ((with_reducible refine gate_dst (N := 2) rfl ?_); refine box_ 2 #[.int .i64 a0_0, .int .i64 a0_1] 59 ?_; intro gb225 hg w15 hbox hb; have BK225 := Aside0.mk (hbox); have GW225 := ge_ HB hg; have GE225 := GW225; replace HB := hh HB hb; clear hb hbox hg) | ((with_reducible refine gate_dst (N := 3) rfl ?_); refine box_ 3 #[.int .i64 a1_0, .int .i64 a1_1] 59 ?_; intro gb226 hg w16 hbox hb; have BK226 := Aside0.mk (hbox); have GW226 := ge_ HB hg; have GE226 := GW226; obtain ⟨NB225_226, NB226_225⟩ := nb BK225 hg; replace BK225 := bb BK225 hb; replace HB := hh HB hb; clear hb hbox hg; have hnb17 := NB225_226.out; have hnc17 := NB226_225.out; obtain ⟨z18a, z18b, y18a, y18b⟩ := c2_ BK225; obtain ⟨z19a, z19b, y19a, y19b⟩ := c2_ BK226))
  go_ret
  exact ⟨eqr, hk HB⟩

end Go.Proofs.Ytggocekjhohhcaa.P

-- By a program of this session.
namespace Go.Proofs.Ytggocekjhohhcaa.P
open Go.RowKit Go.Proofs.YtggocekjhohhcaaW.PrintWords Go.Proofs.YtggocekjhohhcaaW.PrintLast Go.Proofs.YtggocekjhohhcaaW.PrintMore
attribute [local go_sem] max2_int min2_int max_two min_two max_three min_three max_four min_four
set_option linter.unusedVariables false
set_option linter.unusedSimpArgs false

/-! ### laws_eqDiagonalS: function 15 -/
def laws_eqDiagonalS.l0 : Nat → List (S59) → List (S59) → Int → Option (Bool)
 | 0, _, _, _ => none
 | k + 1, x0, x1, x5 => if x5 < (x0.length : Int) then (if 0 ≤ x5 then (if x5 < (x1.length : Int) then ((laws_eqDiagonal.f ((rd_T59 x0 x5).f0) ((rd_T59 x0 x5).f1) ((rd_T59 x1 x5).f0) ((rd_T59 x1 x5).f1)).bind fun t229 => (if t229 = true then (laws_eqDiagonalS.l0 k x0 x1 (wrap64 (x5 + 1))) else (some false))) else (none)) else (none)) else (some true)
def laws_eqDiagonalS.f (k : Nat) (l0 : List (S59)) (l1 : List (S59)) : Option (Bool) := if (l0.length : Int) = (l1.length : Int) then (laws_eqDiagonalS.l0 k l0 l1 0) else (some false)
theorem laws_eqDiagonalS.mono_l : ∀ k, (∀ y0 y1 y2, LeO (laws_eqDiagonalS.l0 k y0 y1 y2) (laws_eqDiagonalS.l0 (k + 1) y0 y1 y2))
 | 0 => fun _ _ _ r h => by simp [laws_eqDiagonalS.l0] at h
 | k + 1 => by
  have ih0 := laws_eqDiagonalS.mono_l k
  ·intro y0 y1 y2
   unfold laws_eqDiagonalS.l0
   repeat' first
   | (with_reducible exact ih0 _ _ _)
   | (with_reducible exact LeO.refl _)
   | (with_reducible exact LeO.none _)
   | (with_reducible refine LeO.ite ?_ ?_)
   | (with_reducible refine LeO.bind ?_ (fun _ => ?_))
   | apply ih0
   | apply LeO.none
   | refine LeO.ite ?_ ?_
   | refine LeO.bind ?_ (fun _ => ?_)
theorem laws_eqDiagonalS.mono : ∀ a0 a1 k, LeO (laws_eqDiagonalS.f k a0 a1) (laws_eqDiagonalS.f (k + 1) a0 a1) := by
 intro a0 a1 k
 have ih0 := laws_eqDiagonalS.mono_l k
 unfold laws_eqDiagonalS.f
 repeat' first
   | (with_reducible exact ih0 _ _ _)
   | (with_reducible exact LeO.refl _)
   | (with_reducible exact LeO.none _)
   | (with_reducible refine LeO.ite ?_ ?_)
   | (with_reducible refine LeO.bind ?_ (fun _ => ?_))
   | apply ih0
   | apply LeO.none
   | refine LeO.ite ?_ ?_
   | refine LeO.bind ?_ (fun _ => ?_)
def laws_eqDiagonalS.T6 : Bool × List (List Nat × List Nat) := (true, [([], []), ([], []), ([0, 1], [0, 1]), ([2], [2]), ([], []), ([], []), ([4, 5], [4, 5]), ([6], [6]), ([3, 7], [3, 7]), ([8], [8])])
def laws_eqDiagonalS.B6 : List Nat := [0, 0, 3, 7, 0, 0, 48, 112, 255, 511]
theorem laws_eqDiagonalS.tab6 : rtab .any (opsOf Try.f15 6) = laws_eqDiagonalS.T6 := by kernel_rfl
theorem laws_eqDiagonalS.bits6 : waitsOk laws_eqDiagonalS.T6.2 laws_eqDiagonalS.B6 = true := by kernel_rfl
set_option maxHeartbeats 8000000 in
set_option maxRecDepth 100000 in
theorem laws_eqDiagonalS.calls (k : Nat) (A0 : Option Addr) (c0 : Nat) (l0 : List (S59)) (A1 : Option Addr) (c1 : Nat) (l1 : List (S59)) (r : Bool) (w : World) (hr0 : Kd.C k59 w A0 l0.length l0) (hc0 : l0.length ≤ c0) (hr1 : Kd.C k59 w A1 l1.length l1) (hc1 : l1.length ≤ c1) (h : laws_eqDiagonalS.f k l0 l1 = some r) :
  Calls Try.prog 15 #[.slice A0 l0.length c0, .slice A1 l1.length c1] w fun e w' => e = .returned (.bool r) ∧ Below w.heap.size w w' := by
 have hu59 := Try.underlying59
 have HR0 := Aside0.mk hr0
 have HC0 := Aside0.mk hc0
 clear hr0 hc0
 have HR1 := Aside0.mk hr1
 have HC1 := Aside0.mk hc1
 clear hr1 hc1
 have HB := Aside0.mk (Below.refl w.heap.size w)
 have H : (if (l0.length : Int) = (l1.length : Int) then (laws_eqDiagonalS.l0 k l0 l1 0) else (some false)) = some r := h
 clear h
 by_cases c3 : (l0.length : Int) = (l1.length : Int)
 ·rw [if_pos c3] at H
  have c3b0 : ((l0.length : Int) == (l1.length : Int)) = true := beq_iff_eq.mpr c3
  have c3b1 : ((l0.length : Int) != (l1.length : Int)) = false := bne_eq_false_iff_eq.mpr c3
  have c3b2 : (l0.length == l1.length) = true := by first | simpa using c3 | (simp at c3 ⊢; omega)
  clear c3
  have H' := Aside0.mk H
  clear H
  go_enter Try.func15, Try.ntmps15
  go_wp2
  go_loopg [5] k (fun kq v5 w' => ∃ (x5_1 : Int), v5 = .int .i64 x5_1 ∧ Aside0 (laws_eqDiagonalS.l0 kq l0 l1 x5_1 = some r) ∧ Aside0 (kq ≤ k) ∧ Aside0 (Below w.heap.size w w'))
  case atStart => exact ⟨(0), (by first | rfl | (simp; done) | (simp [*]; done)), H', ⟨Nat.le_refl _⟩, ⟨by repeat (first | (with_reducible first | exact HB.out | apply below_alloc | apply pw_below_drewN | apply below_drew1) | exact HB.out)⟩⟩
  case round =>
   clear H'
   (try clear c3);(try clear c3b0);(try clear c3b1);(try clear c3b2)
   obtain ⟨x5_1, rfl, HA, HK1, HB⟩ := hrel
   cases gk with
   | zero => exact absurd HA.out (by simp [laws_eqDiagonalS.l0])
   | succ k1 =>
    have H := HA.out
    clear HA
    simp only [laws_eqDiagonalS.l0] at H
    by_cases c4 : x5_1 < (l0.length : Int)
    ·rw [if_pos c4] at H
     have c4b0 : decide (x5_1 < (l0.length : Int)) = true := decide_eq_true c4
     clear c4
     by_cases c5 : 0 ≤ x5_1
     ·rw [if_pos c5] at H
      have c5b0 : decide (0 ≤ x5_1) = true := decide_eq_true c5
      clear c5
      by_cases c6 : x5_1 < (l1.length : Int)
      ·rw [if_pos c6] at H
       have c6b0 : decide (x5_1 < (l1.length : Int)) = true := decide_eq_true c6
       clear c6
       replace H := Option.bind_eq_some_iff.mp H
       obtain ⟨t229, A70, H⟩ := H
       have A7 := Aside0.mk A70
       clear A70
       by_cases c8 : t229 = true
       ·subst c8
        rw [if_pos rfl] at H
        have H' := Aside0.mk H
        clear H
        try go_wp2
        replace HB := Aside0.mk (below_drew1 HB.out)
        have p227 : 0 ≤ (x5_1 : Int) := of_decide_eq_true (by first | (with_reducible assumption) | assumption)
        have q227 : x5_1 < (l0.length : Int) := of_decide_eq_true (by first | (with_reducible assumption) | assumption)
        obtain ⟨ad227, e227, hx227_0, hx227_1⟩ := at_T59 HR0.out x5_1 p227 q227
        have hw227_1 := hx227_1
        have hw227_0 := hx227_0
        cases e227
        replace hx227_0 := (HB.out.cell (World.block_lt_of_cell? w _ hx227_0)).trans hx227_0
        replace hx227_1 := (HB.out.cell (World.block_lt_of_cell? w _ hx227_1)).trans hx227_1
        replace p227 := eq_true p227
        replace q227 := eq_true q227
        have p228 : 0 ≤ (x5_1 : Int) := of_decide_eq_true (by first | (with_reducible assumption) | assumption)
        have q228 : x5_1 < (l1.length : Int) := of_decide_eq_true (by first | (with_reducible assumption) | assumption)
        obtain ⟨ad228, e228, hx228_0, hx228_1⟩ := at_T59 HR1.out x5_1 p228 q228
        have hw228_1 := hx228_1
        have hw228_0 := hx228_0
        cases e228
        replace hx228_0 := (HB.out.cell (World.block_lt_of_cell? w _ hx228_0)).trans hx228_0
        replace hx228_1 := (HB.out.cell (World.block_lt_of_cell? w _ hx228_1)).trans hx228_1
        replace p228 := eq_true p228
        replace q228 := eq_true q228
        refine start_ (n := 10) (S := fun w' => w'.cell? (ad227.add ((x5_1).toNat * 2)) = some (.int .i64 ((rd_T59 l0 x5_1).f0)) ∧ w'.cell? ⟨(ad227.add ((x5_1).toNat * 2)).block, (ad227.add ((x5_1).toNat * 2)).off + 1, none⟩ = some (.int .i64 ((rd_T59 l0 x5_1).f1)) ∧ w'.cell? (ad228.add ((x5_1).toNat * 2)) = some (.int .i64 ((rd_T59 l1 x5_1).f0)) ∧ w'.cell? ⟨(ad228.add ((x5_1).toNat * 2)).block, (ad228.add ((x5_1).toNat * 2)).off + 1, none⟩ = some (.int .i64 ((rd_T59 l1 x5_1).f1))) (ds := []) (bT 0 10) (by kernel_rfl) rfl rfl ⟨((HB.out.cell (World.block_lt_of_cell? w _ hw227_0)).trans hw227_0), ((HB.out.cell (World.block_lt_of_cell? w _ hw227_1)).trans hw227_1), ((HB.out.cell (World.block_lt_of_cell? w _ hw228_0)).trans hw228_0), ((HB.out.cell (World.block_lt_of_cell? w _ hw228_1)).trans hw228_1)⟩ (fun hHeld => ?_); refine with_tabW laws_eqDiagonalS.tab6 laws_eqDiagonalS.bits6 (fun HT_ HW_ => ?_)
        generalize wr.drew = w9 at HB hx227_0 hx227_1 hx228_0 hx228_1 hHeld ⊢
        refine pu_ HT_ 0 (some 17) (bT 1 10) ?_
        refine pu_ HT_ 1 (some 18) (bT 2 10) ?_
        refine pu_ HT_ 2 (some 19) (bT 3 10) ?_
        refine pure_ (i := 4) (N := some 21) (v := ?_) (a' := ?_) #[true, true, true, false, true, false, false, false, false, false] rfl rfl (any_of HT_.out (by kernel_rfl)) (fun _ _ _ h => h) (Or.inl ⟨by rfl, ?_⟩) ?_ ?_; rotate_left; (· intro w'; go_simp; with_reducible rfl); rotate_left; (· simp only [Act.put, List.setIfInBounds_toArray, List.set_cons_zero, List.set_cons_succ, i64_w, i32_w]; rfl)
        refine pure_ (i := 5) (N := some 22) (v := ?_) (a' := ?_) #[true, true, true, false, true, true, false, false, false, false] rfl rfl (any_of HT_.out (by kernel_rfl)) (fun _ _ _ h => h) (Or.inl ⟨by rfl, ?_⟩) ?_ ?_; rotate_left; (· intro w'; go_simp; with_reducible rfl); rotate_left; (· simp only [Act.put, List.setIfInBounds_toArray, List.set_cons_zero, List.set_cons_succ, i64_w, i32_w]; rfl)
        refine pure_ (i := 6) (N := some 23) (v := ?_) (a' := ?_) #[true, true, true, false, true, true, true, false, false, false] rfl rfl (any_of HT_.out (by kernel_rfl)) (fun _ _ _ h => h) (Or.inl ⟨by rfl, ?_⟩) ?_ ?_; rotate_left; (· intro w'; go_simp; with_reducible rfl); rotate_left; (· simp only [Act.put, List.setIfInBounds_toArray, List.set_cons_zero, List.set_cons_succ, i64_w, i32_w]; rfl)
        refine take_ (i := 3) (N := some 20) (v := ?_) (a' := ?_) (bT 7 10) rfl rfl (take_ofW HT_.out HW_.out (by kernel_rfl)) (fun _ _ _ h => h) (Or.inl ⟨by rfl, ?_⟩) hHeld ?_ ?_
        rotate_left
        ·rintro w' ⟨s0, s1, s2, s3⟩
         go_simp
         with_reducible rfl
        rotate_left
        ·simp only [Act.put, List.setIfInBounds_toArray, List.set_cons_zero, List.set_cons_succ, i64_w, i32_w]
         rfl
        refine take_ (i := 7) (N := some 24) (v := ?_) (a' := ?_) (bT 8 10) rfl rfl (take_ofW HT_.out HW_.out (by kernel_rfl)) (fun _ _ _ h => h) (Or.inl ⟨by rfl, ?_⟩) hHeld ?_ ?_
        rotate_left
        ·rintro w' ⟨s0, s1, s2, s3⟩
         go_simp
         with_reducible rfl
        rotate_left
        ·simp only [Act.put, List.setIfInBounds_toArray, List.set_cons_zero, List.set_cons_succ, i64_w, i32_w]
         rfl
        refine one_ (i := 8) (N := some 25) (bT 9 10) rfl rfl (one_of HT_.out (by kernel_rfl)) (by decide) (fun K hK => ?_)
        refine goes_ Try.func44 (by kernel_rfl) rfl #[.agg #[.int .i64 ((rd_T59 l0 x5_1).f0), .int .i64 ((rd_T59 l0 x5_1).f1)], .agg #[.int .i64 ((rd_T59 l1 x5_1).f0), .int .i64 ((rd_T59 l1 x5_1).f1)]] (by rfl) rfl rfl (by (try simp only [List.map_toArray, List.map_cons, List.map_nil]); first | done | rfl | (simp only [List.length_drop, List.length_take]; rfl)) ?_
        with_reducible refine (laws_eqDiagonal.calls ((rd_T59 l0 x5_1).f0) ((rd_T59 l0 x5_1).f1) ((rd_T59 l1 x5_1).f0) ((rd_T59 l1 x5_1).f1) true _ A7.out).mono ?_
        rintro e w10 ⟨rfl, hb⟩
        refine ⟨_, rfl, ?_⟩
        replace HB := hh HB hb
        (try clear hb);(try clear hb2);(try clear hk);(try clear hi)
        refine hK.out _ _ ⟨((HB.out.cell (World.block_lt_of_cell? w _ hw227_0)).trans hw227_0), ((HB.out.cell (World.block_lt_of_cell? w _ hw227_1)).trans hw227_1), ((HB.out.cell (World.block_lt_of_cell? w _ hw228_0)).trans hw228_0), ((HB.out.cell (World.block_lt_of_cell? w _ hw228_1)).trans hw228_1)⟩ (fun hHeld => ?_)
        clear hK K
        refine norm_ (a' := ?_) ?_ ?_
        rotate_left
        ·show Act.put _ (some 25) _ = _
         simp only [Act.put, List.setIfInBounds_toArray, List.set_cons_zero, List.set_cons_succ, i64_w, i32_w]
         rfl
        refine pu_ HT_ 9 (some 26) (bT 10 10) ?_
        refine done_ (done_of HT_.out (by kernel_rfl)) ?_
        try go_wp2
        go_roundg k1
        case measure => have := HK1.out; omega
        case rel => exact ⟨(wrap64 (x5_1 + 1)), (by first | rfl | (simp; done) | (simp [*]; done)), H', ⟨by have := HK1.out; omega⟩, ⟨by repeat (first | (with_reducible first | exact HB.out | apply below_alloc | apply pw_below_drewN | apply below_drew1) | exact HB.out)⟩⟩
       ·replace c8 := Bool.eq_false_iff.mpr c8
        subst c8
        rw [if_neg (show ¬ (false = true) by decide)] at H
        obtain rfl := Option.some.inj H
        simp only [Option.some.injEq, Prod.mk.injEq] at H
        obtain ⟨rfl⟩ := H
        try go_wp2
        replace HB := Aside0.mk (below_drew1 HB.out)
        have p227 : 0 ≤ (x5_1 : Int) := of_decide_eq_true (by first | (with_reducible assumption) | assumption)
        have q227 : x5_1 < (l0.length : Int) := of_decide_eq_true (by first | (with_reducible assumption) | assumption)
        obtain ⟨ad227, e227, hx227_0, hx227_1⟩ := at_T59 HR0.out x5_1 p227 q227
        have hw227_1 := hx227_1
        have hw227_0 := hx227_0
        cases e227
        replace hx227_0 := (HB.out.cell (World.block_lt_of_cell? w _ hx227_0)).trans hx227_0
        replace hx227_1 := (HB.out.cell (World.block_lt_of_cell? w _ hx227_1)).trans hx227_1
        replace p227 := eq_true p227
        replace q227 := eq_true q227
        have p228 : 0 ≤ (x5_1 : Int) := of_decide_eq_true (by first | (with_reducible assumption) | assumption)
        have q228 : x5_1 < (l1.length : Int) := of_decide_eq_true (by first | (with_reducible assumption) | assumption)
        obtain ⟨ad228, e228, hx228_0, hx228_1⟩ := at_T59 HR1.out x5_1 p228 q228
        have hw228_1 := hx228_1
        have hw228_0 := hx228_0
        cases e228
        replace hx228_0 := (HB.out.cell (World.block_lt_of_cell? w _ hx228_0)).trans hx228_0
        replace hx228_1 := (HB.out.cell (World.block_lt_of_cell? w _ hx228_1)).trans hx228_1
        replace p228 := eq_true p228
        replace q228 := eq_true q228
        refine start_ (n := 10) (S := fun w' => w'.cell? (ad227.add ((x5_1).toNat * 2)) = some (.int .i64 ((rd_T59 l0 x5_1).f0)) ∧ w'.cell? ⟨(ad227.add ((x5_1).toNat * 2)).block, (ad227.add ((x5_1).toNat * 2)).off + 1, none⟩ = some (.int .i64 ((rd_T59 l0 x5_1).f1)) ∧ w'.cell? (ad228.add ((x5_1).toNat * 2)) = some (.int .i64 ((rd_T59 l1 x5_1).f0)) ∧ w'.cell? ⟨(ad228.add ((x5_1).toNat * 2)).block, (ad228.add ((x5_1).toNat * 2)).off + 1, none⟩ = some (.int .i64 ((rd_T59 l1 x5_1).f1))) (ds := []) (bT 0 10) (by kernel_rfl) rfl rfl ⟨((HB.out.cell (World.block_lt_of_cell? w _ hw227_0)).trans hw227_0), ((HB.out.cell (World.block_lt_of_cell? w _ hw227_1)).trans hw227_1), ((HB.out.cell (World.block_lt_of_cell? w _ hw228_0)).trans hw228_0), ((HB.out.cell (World.block_lt_of_cell? w _ hw228_1)).trans hw228_1)⟩ (fun hHeld => ?_); refine with_tabW laws_eqDiagonalS.tab6 laws_eqDiagonalS.bits6 (fun HT_ HW_ => ?_)
        generalize wr.drew = w11 at HB hx227_0 hx227_1 hx228_0 hx228_1 hHeld ⊢
        refine pu_ HT_ 0 (some 17) (bT 1 10) ?_
        refine pu_ HT_ 1 (some 18) (bT 2 10) ?_
        refine pu_ HT_ 2 (some 19) (bT 3 10) ?_
        refine pure_ (i := 4) (N := some 21) (v := ?_) (a' := ?_) #[true, true, true, false, true, false, false, false, false, false] rfl rfl (any_of HT_.out (by kernel_rfl)) (fun _ _ _ h => h) (Or.inl ⟨by rfl, ?_⟩) ?_ ?_; rotate_left; (· intro w'; go_simp; with_reducible rfl); rotate_left; (· simp only [Act.put, List.setIfInBounds_toArray, List.set_cons_zero, List.set_cons_succ, i64_w, i32_w]; rfl)
        refine pure_ (i := 5) (N := some 22) (v := ?_) (a' := ?_) #[true, true, true, false, true, true, false, false, false, false] rfl rfl (any_of HT_.out (by kernel_rfl)) (fun _ _ _ h => h) (Or.inl ⟨by rfl, ?_⟩) ?_ ?_; rotate_left; (· intro w'; go_simp; with_reducible rfl); rotate_left; (· simp only [Act.put, List.setIfInBounds_toArray, List.set_cons_zero, List.set_cons_succ, i64_w, i32_w]; rfl)
        refine pure_ (i := 6) (N := some 23) (v := ?_) (a' := ?_) #[true, true, true, false, true, true, true, false, false, false] rfl rfl (any_of HT_.out (by kernel_rfl)) (fun _ _ _ h => h) (Or.inl ⟨by rfl, ?_⟩) ?_ ?_; rotate_left; (· intro w'; go_simp; with_reducible rfl); rotate_left; (· simp only [Act.put, List.setIfInBounds_toArray, List.set_cons_zero, List.set_cons_succ, i64_w, i32_w]; rfl)
        refine take_ (i := 3) (N := some 20) (v := ?_) (a' := ?_) (bT 7 10) rfl rfl (take_ofW HT_.out HW_.out (by kernel_rfl)) (fun _ _ _ h => h) (Or.inl ⟨by rfl, ?_⟩) hHeld ?_ ?_
        rotate_left
        ·rintro w' ⟨s0, s1, s2, s3⟩
         go_simp
         with_reducible rfl
        rotate_left
        ·simp only [Act.put, List.setIfInBounds_toArray, List.set_cons_zero, List.set_cons_succ, i64_w, i32_w]
         rfl
        refine take_ (i := 7) (N := some 24) (v := ?_) (a' := ?_) (bT 8 10) rfl rfl (take_ofW HT_.out HW_.out (by kernel_rfl)) (fun _ _ _ h => h) (Or.inl ⟨by rfl, ?_⟩) hHeld ?_ ?_
        rotate_left
        ·rintro w' ⟨s0, s1, s2, s3⟩
         go_simp
         with_reducible rfl
        rotate_left
        ·simp only [Act.put, List.setIfInBounds_toArray, List.set_cons_zero, List.set_cons_succ, i64_w, i32_w]
         rfl
        refine one_ (i := 8) (N := some 25) (bT 9 10) rfl rfl (one_of HT_.out (by kernel_rfl)) (by decide) (fun K hK => ?_)
        refine goes_ Try.func44 (by kernel_rfl) rfl #[.agg #[.int .i64 ((rd_T59 l0 x5_1).f0), .int .i64 ((rd_T59 l0 x5_1).f1)], .agg #[.int .i64 ((rd_T59 l1 x5_1).f0), .int .i64 ((rd_T59 l1 x5_1).f1)]] (by rfl) rfl rfl (by (try simp only [List.map_toArray, List.map_cons, List.map_nil]); first | done | rfl | (simp only [List.length_drop, List.length_take]; rfl)) ?_
        with_reducible refine (laws_eqDiagonal.calls ((rd_T59 l0 x5_1).f0) ((rd_T59 l0 x5_1).f1) ((rd_T59 l1 x5_1).f0) ((rd_T59 l1 x5_1).f1) false _ A7.out).mono ?_
        rintro e w12 ⟨rfl, hb⟩
        refine ⟨_, rfl, ?_⟩
        replace HB := hh HB hb
        (try clear hb);(try clear hb2);(try clear hk);(try clear hi)
        refine hK.out _ _ ⟨((HB.out.cell (World.block_lt_of_cell? w _ hw227_0)).trans hw227_0), ((HB.out.cell (World.block_lt_of_cell? w _ hw227_1)).trans hw227_1), ((HB.out.cell (World.block_lt_of_cell? w _ hw228_0)).trans hw228_0), ((HB.out.cell (World.block_lt_of_cell? w _ hw228_1)).trans hw228_1)⟩ (fun hHeld => ?_)
        clear hK K
        refine norm_ (a' := ?_) ?_ ?_
        rotate_left
        ·show Act.put _ (some 25) _ = _
         simp only [Act.put, List.setIfInBounds_toArray, List.set_cons_zero, List.set_cons_succ, i64_w, i32_w]
         rfl
        refine pu_ HT_ 9 (some 26) (bT 10 10) ?_
        refine done_ (done_of HT_.out (by kernel_rfl)) ?_
        try go_wp2
        go_ret
        exact ⟨eqr, hk HB⟩
      ·rw [if_neg c6] at H
       exact absurd H (by simp)
     ·rw [if_neg c5] at H
      exact absurd H (by simp)
    ·rw [if_neg c4] at H
     have c4b0 : decide (x5_1 < (l0.length : Int)) = false := decide_eq_false c4
     clear c4
     obtain rfl := Option.some.inj H
     simp only [Option.some.injEq, Prod.mk.injEq] at H
     obtain ⟨rfl⟩ := H
     go_wp2
     go_ret
     exact ⟨eqr, hk HB⟩
 ·rw [if_neg c3] at H
  have c3b0 : ((l0.length : Int) == (l1.length : Int)) = false := beq_eq_false_iff_ne.mpr c3
  have c3b1 : ((l0.length : Int) != (l1.length : Int)) = true := bne_iff_ne.mpr c3
  have c3b2 : (l0.length == l1.length) = false := by first | simpa using c3 | (simp at c3 ⊢; omega)
  obtain rfl := Option.some.inj H
  simp only [Option.some.injEq, Prod.mk.injEq] at H
  obtain ⟨rfl⟩ := H
  go_enter Try.func15, Try.ntmps15
  go_wp2
  go_ret
  exact ⟨eqr, hk HB⟩

end Go.Proofs.Ytggocekjhohhcaa.P

-- By a program of this session.
namespace Go.Proofs.Ytggocekjhohhcaa.P
open Go.RowKit Go.Proofs.YtggocekjhohhcaaW.PrintWords Go.Proofs.YtggocekjhohhcaaW.PrintLast Go.Proofs.YtggocekjhohhcaaW.PrintMore
attribute [local go_sem] max2_int min2_int max_two min_two max_three min_three max_four min_four
set_option linter.unusedVariables false
set_option linter.unusedSimpArgs false

/-! ### laws_szDiagonalS: function 10 -/
def laws_szDiagonalS.f (l0 : List (S61)) (a1 : Int) : Option (Int) := if (wrap64 (a1 - (l0.length : Int))) < 0 then (some (-1)) else (some (wrap64 (a1 - (l0.length : Int))))
set_option maxHeartbeats 8000000 in
set_option maxRecDepth 100000 in
theorem laws_szDiagonalS.calls (A0 : Option Addr) (c0 : Nat) (l0 : List (S61)) (a1 : Int) (r : Int) (w : World) (hr0 : Kd.C k61 w A0 l0.length l0) (hc0 : l0.length ≤ c0) (h : laws_szDiagonalS.f l0 a1 = some r) :
  Calls Try.prog 10 #[.slice A0 l0.length c0, .int .i64 a1] w fun e w' => e = .returned (.int .i64 r) ∧ Drawn0 w w' := by
 have HR0 := Aside0.mk hr0
 have HC0 := Aside0.mk hc0
 clear hr0 hc0
 have H : (if (wrap64 (a1 - (l0.length : Int))) < 0 then (some (-1)) else (some (wrap64 (a1 - (l0.length : Int))))) = some r := h
 clear h
 by_cases c3 : (wrap64 (a1 - (l0.length : Int))) < 0
 ·rw [if_pos c3] at H
  have c3b0 : decide ((wrap64 (a1 - (l0.length : Int))) < 0) = true := decide_eq_true c3
  clear c3
  obtain rfl := Option.some.inj H
  simp only [Option.some.injEq, Prod.mk.injEq] at H
  obtain ⟨rfl⟩ := H
  go_enter Try.func10, Try.ntmps10
  go_wp2
  go_ret
  exact ⟨by first | rfl | (simp; done) | (simp [*]; done), by repeat (first | exact Drawn0.refl _ | apply Drawn0.step)⟩
 ·rw [if_neg c3] at H
  have c3b0 : decide ((wrap64 (a1 - (l0.length : Int))) < 0) = false := decide_eq_false c3
  clear c3
  obtain rfl := Option.some.inj H
  simp only [Option.some.injEq, Prod.mk.injEq] at H
  obtain ⟨rfl⟩ := H
  go_enter Try.func10, Try.ntmps10
  go_wp2
  go_ret
  exact ⟨by first | rfl | (simp; done) | (simp [*]; done), by repeat (first | exact Drawn0.refl _ | apply Drawn0.step)⟩

end Go.Proofs.Ytggocekjhohhcaa.P

/- Whether a list is a cut: both sides say the same. -/
namespace Go.Proofs.Ytggocekjhohhcaa.P
set_option linter.unusedVariables false
set_option linter.unusedSimpArgs false
open Go.RowKit Go.Proofs.YtggocekjhohhcaaW.PrintWords
section
variable {α β : Type}
/-- For all fuel from some on. -/
def Ev (f : Nat → Option α) (v : α) : Prop := ∃ K, ∀ k, K ≤ k → f k = some v
theorem Ev.succ {f : Nat → Option α} {v : α} (h : Ev (fun k => f (k + 1)) v) : Ev f v := by
  obtain ⟨K, h⟩ := h
  refine ⟨K + 1, fun k hk => ?_⟩
  obtain ⟨k', rfl⟩ : ∃ k', k = k' + 1 := ⟨k - 1, by omega⟩
  exact h k' (by omega)
theorem Ev.at {f : Nat → Option α} {v : α} (h : Ev f v) : ∃ k, f k = some v := by
  obtain ⟨K, h⟩ := h
  exact ⟨K, h K (Nat.le_refl _)⟩
theorem Ev.const {f : Nat → Option α} {v : α} (h : ∀ k, f k = some v) : Ev f v := ⟨0, fun k _ => h k⟩
theorem Ev.congr {f g : Nat → Option α} {v : α} (h : Ev g v) (e : ∀ k, f k = g k) : Ev f v := by
  obtain ⟨K, h⟩ := h
  exact ⟨K, fun k hk => by rw [e k]; exact h k hk⟩
theorem Ev.bind {f : Nat → Option α} {g : Nat → α → Option β} {a : α} {b : β} (h : Ev f a) (h2 : Ev (fun k => g k a) b) : Ev (fun k => (f k).bind (g k)) b := by
  obtain ⟨K, h⟩ := h
  obtain ⟨K2, h2⟩ := h2
  exact ⟨max K K2, fun k hk => by show (f k).bind (g k) = some b; rw [h k (by omega)]; exact h2 k (by omega)⟩
end
theorem w64n {x : Int} (h0 : -1000000000000 ≤ x) (h1 : x ≤ 1000000000000) : wrap64 x = x := by unfold wrap64; omega
theorem l1In_eq (x lo hi : Int) : spec_l1In.f x lo hi = some (decide (lo ≤ x ∧ x ≤ hi)) := by
  unfold spec_l1In.f
  by_cases h : x ≥ lo
  · rw [if_pos h]; congr 1; exact decide_eq_decide.2 ⟨fun h2 => ⟨h, h2⟩, fun h2 => h2.2⟩
  · rw [if_neg h]; congr 1; exact (decide_eq_false fun h2 => h h2.1).symm
theorem within_eq (x lo hi : Int) : impl_within.f x lo hi = some (decide (lo ≤ x ∧ x ≤ hi)) := l1In_eq x lo hi
theorem poIs_eq (n : Int) : spec_poIs.f n = some (decide (3 ≤ n ∧ n ≤ 12)) := by unfold spec_poIs.f; rw [l1In_eq]; rfl
theorem isPolygon_eq (n : Int) : impl_isPolygon.f n = some (decide (3 ≤ n ∧ n ≤ 12)) := by unfold impl_isPolygon.f; rw [within_eq]; rfl
def diagB (n : Int) (d : Dia) : Bool := decide (0 ≤ d.f0 ∧ d.f1 ≤ n - 1 ∧ 2 ≤ d.f1 - d.f0 ∧ d.f1 - d.f0 ≤ n - 2)
def lessB (d e : Dia) : Bool := decide (d.f0 < e.f0 ∨ d.f0 = e.f0 ∧ d.f1 < e.f1)
theorem poDiagonal_eq {n : Int} (h3 : 3 ≤ n) (h12 : n ≤ 12) (a b : Int) : spec_poDiagonal.f n a b = some (diagB n ⟨a, b⟩) := by
  unfold spec_poDiagonal.f diagB
  rw [poIs_eq, decide_eq_true (show 3 ≤ n ∧ n ≤ 12 from ⟨h3, h12⟩), l1In_eq, l1In_eq, w64n (show _ ≤ n - 1 by omega) (by omega), w64n (show _ ≤ n - 2 by omega) (by omega)]
  simp only [Option.bind_some, if_true]
  by_cases ha : 0 ≤ a ∧ a ≤ n - 1
  · rw [if_pos (decide_eq_true ha)]
    by_cases hb : 0 ≤ b ∧ b ≤ n - 1
    · rw [if_pos (decide_eq_true hb), w64n (show _ ≤ b - a by omega) (by omega)]
      by_cases h2 : b - a ≥ 2
      · rw [if_pos h2]; congr 1; exact decide_eq_decide.2 ⟨fun h => by omega, fun h => by omega⟩
      · rw [if_neg h2]; congr 1; exact (decide_eq_false fun h => by omega).symm
    · rw [if_neg fun h => hb (of_decide_eq_true h)]; congr 1; exact (decide_eq_false fun h => by omega).symm
  · rw [if_neg fun h => ha (of_decide_eq_true h)]; congr 1; exact (decide_eq_false fun h => by omega).symm
theorem isDiagonal_eq {n : Int} (h3 : 3 ≤ n) (h12 : n ≤ 12) (a b : Int) : impl_isDiagonal.f n a b = some (diagB n ⟨a, b⟩) := by
  unfold impl_isDiagonal.f diagB
  rw [within_eq, within_eq, w64n (show _ ≤ n - 1 by omega) (by omega)]
  simp only [Option.bind_some]
  by_cases ha : 0 ≤ a ∧ a ≤ n - 1
  · rw [if_pos (decide_eq_true ha)]
    by_cases hb : 0 ≤ b ∧ b ≤ n - 1
    · rw [if_pos (decide_eq_true hb), w64n (show _ ≤ b - a by omega) (by omega)]
      by_cases h2 : b - a > 1
      · rw [if_pos h2]
        by_cases h0 : a = 0
        · rw [if_pos h0]; congr 1
          by_cases h1 : b = n - 1
          · rw [show (b == n - 1) = true from by simpa using h1]; exact (decide_eq_false fun h => by omega).symm
          · rw [show (b == n - 1) = false from by simpa using h1]; exact (decide_eq_true (by omega)).symm
        · rw [if_neg h0]; congr 1; exact (decide_eq_true (by omega)).symm
      · rw [if_neg h2]; congr 1; exact (decide_eq_false fun h => by omega).symm
    · rw [if_neg fun h => hb (of_decide_eq_true h)]; congr 1; exact (decide_eq_false fun h => by omega).symm
  · rw [if_neg fun h => ha (of_decide_eq_true h)]; congr 1; exact (decide_eq_false fun h => by omega).symm
theorem poLess_eq (a b c d : Int) : spec_poLess.f a b c d = some (lessB ⟨a, b⟩ ⟨c, d⟩) := by
  show _ = some (decide (a < c ∨ a = c ∧ b < d))
  unfold spec_poLess.f
  by_cases h1 : a < c
  · rw [if_pos h1]; congr 1; exact (decide_eq_true (Or.inl h1)).symm
  · rw [if_neg h1]
    by_cases h2 : a = c
    · rw [if_pos h2]; congr 1; exact decide_eq_decide.2 ⟨fun h => Or.inr ⟨h2, h⟩, fun h => by rcases h with h | h <;> omega⟩
    · rw [if_neg h2]; congr 1; exact (decide_eq_false fun h => by rcases h with h | h <;> omega).symm
theorem poCross_eq (a b c d : Int) : spec_poCross.f a b c d = some (crossD ⟨a, b⟩ ⟨c, d⟩) := by
  unfold spec_poCross.f crossD
  by_cases h1 : a < c <;> by_cases h2 : c < b <;> by_cases h3 : b < d <;> by_cases h4 : c < a <;> by_cases h5 : a < d <;> by_cases h6 : d < b <;> simp [h1, h2, h3, h4, h5, h6]
theorem Compare_eq (a b : Int) : cmp_Compare_int.f a b = some (if a < b then -1 else if a > b then 1 else 0) := by
  unfold cmp_Compare_int.f cmp_isNaN_int.f
  simp only [Option.bind_some, bne_self_eq_false, Bool.false_eq_true, if_false]
  split
  · rfl
  · split <;> rfl
theorem Or_eq (x y : Int) : Ev (fun k => cmp_Or_int.f k [x, y]) (if x = 0 then y else x) := by
  unfold cmp_Or_int.f
  refine Ev.succ ?_
  simp only [cmp_Or_int.l0]
  by_cases hx : x = 0
  · subst hx
    rw [if_pos rfl]
    refine Ev.succ ?_
    by_cases hy : y = 0
    · subst hy
      refine Ev.succ ?_
      exact Ev.const fun k => by simp [cmp_Or_int.l0, rd, w64n]
    · exact Ev.const fun k => by simp [cmp_Or_int.l0, rd, w64n, hy]
  · rw [if_neg hx]
    exact Ev.const fun k => by simp [rd, hx]
theorem compare_eq (a b c d : Int) : ∃ t, Ev (fun k => impl_compareDiagonals.f k a b c d) t ∧ (t ≥ 0 ↔ lessB ⟨a, b⟩ ⟨c, d⟩ = false) := by
  unfold impl_compareDiagonals.f
  refine ⟨if (if a < c then (-1 : Int) else if a > c then 1 else 0) = 0 then (if b < d then -1 else if b > d then 1 else 0) else (if a < c then -1 else if a > c then 1 else 0), ?_, ?_⟩
  · refine Ev.congr (Ev.bind (Or_eq (if a < c then -1 else if a > c then 1 else 0) (if b < d then -1 else if b > d then 1 else 0)) (g := fun _ t => some t) (Ev.const fun _ => rfl)) fun k => ?_
    rw [Compare_eq, Compare_eq]; rfl
  · show _ ↔ decide (a < c ∨ a = c ∧ b < d) = false
    rw [decide_eq_false_iff_not]
    by_cases h1 : a < c
    · simp [h1]
    · by_cases h2 : a > c
      · simp [h1, h2]; omega
      · have e : a = c := by omega
        subst e
        by_cases h3 : b < d
        · simp [h3]
        · by_cases h4 : b > d
          · simp [h3, h4]
          · simp [h3, h4]
end Go.Proofs.Ytggocekjhohhcaa.P

/- cuGood and IsCut, their loops. -/
namespace Go.Proofs.Ytggocekjhohhcaa.P
set_option linter.unusedVariables false
set_option linter.unusedSimpArgs false
open Go.RowKit Go.Proofs.YtggocekjhohhcaaW.PrintWords
theorem Ev.val {α : Type} {f : Nat → Option α} {v w : α} (h : Ev f v) (e : v = w) : Ev f w := e ▸ h
abbrev gd (ds : List Dia) (i : Nat) : Dia := ds.getD i z59
theorem rd_gd (ds : List Dia) (i : Nat) : rd_T59 ds (i : Int) = gd ds i := by unfold rd_T59; rw [Int.toNat_natCast]
def goodAt (n : Int) (ds : List Dia) (i : Nat) : Bool := diagB n (gd ds i) && (decide (i = 0) || lessB (gd ds (i - 1)) (gd ds i)) && !((ds.take i).any fun e => crossD (gd ds i) e)
def goodFrom (n : Int) (ds : List Dia) : Nat → Nat → Bool
  | _, 0 => true
  | i, m + 1 => goodAt n ds i && goodFrom n ds (i + 1) m
def goodB (n : Int) (ds : List Dia) : Bool := decide (3 ≤ n ∧ n ≤ 12) && decide ((ds.length : Int) ≤ n - 3) && goodFrom n ds 0 ds.length
theorem gd_pred (ds : List Dia) {i : Nat} (hi : 0 < i) (hb : i ≤ 2000000) : wrap64 ((i : Int) - 1) = ((i - 1 : Nat) : Int) := by rw [w64n (by omega) (by omega)]; omega
theorem w64s {i : Nat} (hb : i ≤ 2000000) : wrap64 ((i : Int) + 1) = ((i + 1 : Nat) : Int) := by rw [w64n (by omega) (by omega)]; omega
theorem l1_eq (n : Int) (ds es : List Dia) (L i : Int) (x y : Int) (v : Bool) (hl : es.length ≤ 2000000) (hv : Ev (fun k => spec_cuGood.l0 k n ds ds L (wrap64 (i + 1))) v) :
    ∀ m j, es.length - j = m → j ≤ es.length → Ev (fun k => spec_cuGood.l1 k n ds ds L i es (es.length : Int) (j : Int) x y) (!((es.drop j).any fun e => crossD ⟨x, y⟩ e) && v)
  | 0, j, hm, hj => by
    have e : j = es.length := by omega
    subst e
    refine Ev.succ ?_
    rw [List.drop_length]
    refine Ev.congr hv fun k => ?_
    simp only [spec_cuGood.l1]
    rw [if_neg (by omega)]
  | m + 1, j, hm, hj => by
    have hlt : j < es.length := by omega
    refine Ev.succ ?_
    have hd : es.drop j = es[j] :: es.drop (j + 1) := List.drop_eq_getElem_cons hlt
    have hg : gd es j = es[j] := by simp [gd, hlt]
    have ih := l1_eq n ds es L i x y v hl hv m (j + 1) (by omega) (by omega)
    rw [hd, List.any_cons]
    cases hc : crossD ⟨x, y⟩ es[j] with
    | true =>
      refine Ev.const fun k => ?_
      simp only [spec_cuGood.l1]
      rw [if_pos (by omega), if_pos (by omega), if_pos (by omega), rd_gd, hg, poCross_eq]
      show (if crossD ⟨x, y⟩ es[j] = true then _ else _) = _
      rw [if_pos hc]; rfl
    | false =>
      refine Ev.congr ih fun k => ?_
      simp only [spec_cuGood.l1]
      rw [if_pos (by omega), if_pos (by omega), if_pos (by omega), rd_gd, hg, poCross_eq, w64s (by omega)]
      show (if crossD ⟨x, y⟩ es[j] = true then _ else _) = _
      rw [if_neg (by rw [hc]; exact Bool.false_ne_true)]
theorem j2_eq (n : Int) (ds : List Dia) (i : Nat) (b : Bool) (v : Bool) (hi : i < ds.length) (hl : ds.length ≤ 2000000) (hv : Ev (fun k => spec_cuGood.l0 k n ds ds (ds.length : Int) ((i + 1 : Nat) : Int)) v) :
    Ev (fun k => spec_cuGood.j2 k n ds (i : Int) ds (ds.length : Int) (i : Int) b (gd ds i).f0 (gd ds i).f1) (!b && !((ds.take i).any fun e => crossD (gd ds i) e) && v) := by
  refine Ev.succ ?_
  cases b with
  | true => exact Ev.const fun k => by simp only [spec_cuGood.j2]; rw [if_pos trivial]; rfl
  | false =>
    have h := l1_eq n ds (ds.take i) (ds.length : Int) (i : Int) (gd ds i).f0 (gd ds i).f1 v (by rw [List.length_take]; omega) (by rw [w64s (by omega)]; exact hv) _ 0 rfl (by omega)
    rw [List.drop_zero] at h
    refine Ev.congr h fun k => ?_
    simp only [spec_cuGood.j2]
    rw [if_neg Bool.false_ne_true, if_pos (by omega), if_pos (by omega), Int.toNat_natCast]
    rfl
theorem l0_eq {n : Int} (h3 : 3 ≤ n) (h12 : n ≤ 12) (ds : List Dia) (hl : ds.length ≤ 2000000) : ∀ m i, ds.length - i = m → i ≤ ds.length → Ev (fun k => spec_cuGood.l0 k n ds ds (ds.length : Int) (i : Int)) (goodFrom n ds i m)
  | 0, i, hm, hi => by
    have e : i = ds.length := by omega
    subst e
    exact Ev.succ (Ev.const fun k => by simp only [spec_cuGood.l0]; rw [if_neg (by omega)]; rfl)
  | m + 1, i, hm, hi => by
    have hlt : i < ds.length := by omega
    have ih := l0_eq h3 h12 ds hl m (i + 1) (by omega) (by omega)
    refine Ev.succ ?_
    unfold goodFrom goodAt
    cases hdg : diagB n (gd ds i) with
    | false =>
      refine Ev.congr (j2_eq n ds i true _ hlt hl ih) fun k => ?_
      simp only [spec_cuGood.l0]
      rw [if_pos (by omega), if_pos (by omega), if_pos (by omega), rd_gd, poDiagonal_eq h3 h12]
      show (if diagB n (gd ds i) = true then _ else _) = _
      rw [if_neg (by rw [hdg]; exact Bool.false_ne_true)]
    | true =>
      by_cases h0 : i = 0
      · subst h0
        have h := j2_eq n ds 0 false _ hlt hl ih
        refine Ev.congr (Ev.val h (by simp)) fun k => ?_
        simp only [spec_cuGood.l0]
        rw [if_pos (by omega), if_pos (by omega), if_pos (by omega), rd_gd, poDiagonal_eq h3 h12]
        show (if diagB n (gd ds 0) = true then _ else _) = _
        rw [if_pos hdg, if_neg (by omega)]
      · have h := j2_eq n ds i (!lessB (gd ds (i - 1)) (gd ds i)) _ hlt hl ih
        refine Ev.congr (Ev.val h (by simp [h0])) fun k => ?_
        simp only [spec_cuGood.l0]
        rw [if_pos (by omega), if_pos (by omega), if_pos (by omega), rd_gd, poDiagonal_eq h3 h12]
        show (if diagB n (gd ds i) = true then _ else _) = _
        rw [if_pos hdg, if_pos (by omega), gd_pred ds (by omega) (by omega), if_pos (by omega), if_pos (by omega), rd_gd, poLess_eq]
        rfl
theorem cuGood_eq (n : Int) (ds : List Dia) (hl : ds.length ≤ 2000000) : Ev (fun k => spec_cuGood.f k n ds) (goodB n ds) := by
  unfold spec_cuGood.f goodB
  rw [poIs_eq]
  simp only [Option.bind_some]
  by_cases hn : 3 ≤ n ∧ n ≤ 12
  · rw [decide_eq_true hn]
    simp only [if_true]
    refine Ev.succ ?_
    rw [w64n (show _ ≤ n - 3 by omega) (by omega)]
    by_cases hle : (ds.length : Int) ≤ n - 3
    · have h := l0_eq hn.1 hn.2 ds hl _ 0 rfl (by omega)
      refine Ev.congr (Ev.val h (by simp [hle])) fun k => ?_
      simp only [spec_cuGood.j0]
      rw [if_neg (by rw [decide_eq_true_iff]; omega)]
      rfl
    · refine Ev.const fun k => ?_
      simp only [spec_cuGood.j0]
      rw [if_pos (decide_eq_true (by omega)), decide_eq_false hle]
      rfl
  · rw [decide_eq_false hn]
    refine Ev.succ (Ev.const fun k => ?_)
    simp only [spec_cuGood.j0]
    rfl
theorem il0_eq {n : Int} (h3 : 3 ≤ n) (h12 : n ≤ 12) (ds : List Dia) (hl : ds.length ≤ 2000000) : ∀ m i, ds.length - i = m → i ≤ ds.length → Ev (fun k => impl_IsCut.l0 k n ds ds (ds.length : Int) (i : Int)) (goodFrom n ds i m)
  | 0, i, hm, hi => by
    have e : i = ds.length := by omega
    subst e
    exact Ev.succ (Ev.const fun k => by simp only [impl_IsCut.l0]; rw [if_neg (by omega)]; rfl)
  | m + 1, i, hm, hi => by
    have hlt : i < ds.length := by omega
    have ih := il0_eq h3 h12 ds hl m (i + 1) (by omega) (by omega)
    refine Ev.succ ?_
    unfold goodFrom goodAt
    have tail : ∀ k, (if (i : Int) ≤ (ds.length : Int) then ((impl_crosses.f (ds.take (i : Int).toNat) (gd ds i).f0 (gd ds i).f1).bind fun t209 => (if t209 = true then (some false) else (impl_IsCut.l0 k n ds ds (ds.length : Int) (wrap64 ((i : Int) + 1))))) else none) = if ((ds.take i).any fun e => crossD (gd ds i) e) = true then some false else impl_IsCut.l0 k n ds ds (ds.length : Int) ((i + 1 : Nat) : Int) := fun k => by
      rw [if_pos (by omega), Int.toNat_natCast, w64s (by omega)]
      rfl
    have hT : Ev (fun k => if ((ds.take i).any fun e => crossD (gd ds i) e) = true then some false else impl_IsCut.l0 k n ds ds (ds.length : Int) ((i + 1 : Nat) : Int)) (!((ds.take i).any fun e => crossD (gd ds i) e) && goodFrom n ds (i + 1) m) := by
      cases hx : ((ds.take i).any fun e => crossD (gd ds i) e) with
      | true => exact Ev.const fun k => by rw [if_pos rfl]; rfl
      | false => exact Ev.congr ih fun k => by rw [if_neg Bool.false_ne_true]
    cases hdg : diagB n (gd ds i) with
    | false =>
      refine Ev.const fun k => ?_
      simp only [impl_IsCut.l0]
      rw [if_pos (by omega), if_pos (by omega), if_pos (by omega), rd_gd, isDiagonal_eq h3 h12]
      show (if diagB n (gd ds i) = true then _ else _) = _
      rw [if_neg (by rw [hdg]; exact Bool.false_ne_true)]
      rfl
    | true =>
      by_cases h0 : i = 0
      · subst h0
        refine Ev.congr (Ev.val hT (by simp)) fun k => ?_
        simp only [impl_IsCut.l0]
        rw [if_pos (by omega), if_pos (by omega), if_pos (by omega), rd_gd, isDiagonal_eq h3 h12]
        show (if diagB n (gd ds 0) = true then _ else _) = _
        rw [if_pos hdg, if_neg (by omega)]
        exact tail k
      · obtain ⟨t, ht, htl⟩ := compare_eq (gd ds (i - 1)).f0 (gd ds (i - 1)).f1 (gd ds i).f0 (gd ds i).f1
        have htl' : t ≥ 0 ↔ lessB (gd ds (i - 1)) (gd ds i) = false := htl
        have hfin : Ev (fun k => if t ≥ 0 then some false else if ((ds.take i).any fun e => crossD (gd ds i) e) = true then some false else impl_IsCut.l0 k n ds ds (ds.length : Int) ((i + 1 : Nat) : Int)) (lessB (gd ds (i - 1)) (gd ds i) && (!((ds.take i).any fun e => crossD (gd ds i) e) && goodFrom n ds (i + 1) m)) := by
          cases hx : lessB (gd ds (i - 1)) (gd ds i) with
          | false => exact Ev.const fun k => by rw [if_pos (htl'.2 hx)]; rfl
          | true => exact Ev.congr hT fun k => by rw [if_neg fun h => by rw [htl'.1 h] at hx; cases hx]
        have hb := Ev.bind (g := fun k t => if t ≥ 0 then some false else if ((ds.take i).any fun e => crossD (gd ds i) e) = true then some false else impl_IsCut.l0 k n ds ds (ds.length : Int) ((i + 1 : Nat) : Int)) ht hfin
        refine Ev.congr (Ev.val hb (by simp [h0, Bool.and_assoc])) fun k => ?_
        simp only [impl_IsCut.l0]
        rw [if_pos (by omega), if_pos (by omega), if_pos (by omega), rd_gd, isDiagonal_eq h3 h12]
        show (if diagB n (gd ds i) = true then _ else _) = _
        rw [if_pos hdg, if_pos (by omega), gd_pred ds (by omega) (by omega), if_pos (by omega), if_pos (by omega), rd_gd, tail k]
theorem IsCut_eq (n : Int) (ds : List Dia) (hl : ds.length ≤ 2000000) : Ev (fun k => impl_IsCut.f k n ds) (goodB n ds) := by
  unfold impl_IsCut.f goodB
  rw [isPolygon_eq]
  simp only [Option.bind_some]
  by_cases hn : 3 ≤ n ∧ n ≤ 12
  · rw [decide_eq_true hn]
    simp only [if_true]
    refine Ev.succ ?_
    rw [w64n (show _ ≤ n - 3 by omega) (by omega)]
    by_cases hle : (ds.length : Int) ≤ n - 3
    · have h := il0_eq hn.1 hn.2 ds hl _ 0 rfl (by omega)
      refine Ev.congr (Ev.val h (by simp [hle])) fun k => ?_
      simp only [impl_IsCut.j0]
      rw [if_neg (by rw [decide_eq_true_iff]; omega)]
      rfl
    · refine Ev.const fun k => ?_
      simp only [impl_IsCut.j0]
      rw [if_pos (decide_eq_true (by omega)), decide_eq_false hle]
      rfl
  · rw [decide_eq_false hn]
    refine Ev.succ (Ev.const fun k => ?_)
    simp only [impl_IsCut.j0]
    rfl
end Go.Proofs.Ytggocekjhohhcaa.P

-- By a program of this session.
namespace Go.Proofs.Ytggocekjhohhcaa.P
open Go.RowKit Go.Proofs.YtggocekjhohhcaaW.PrintWords Go.Proofs.YtggocekjhohhcaaW.PrintLast Go.Proofs.YtggocekjhohhcaaW.PrintMore
attribute [local go_sem] max2_int min2_int max_two min_two max_three min_three max_four min_four
set_option linter.unusedVariables false
set_option linter.unusedSimpArgs false

/-! ### slices_Index_int_int: function 77 -/
def slices_Index_int_int.l0 : Nat → List Int → Int → Int → Int → Option (Int)
 | 0, _, _, _, _ => none
 | k + 1, x0, x1, x7, x8 => if x8 < x7 then (if 0 ≤ x8 then (if x8 < (x0.length : Int) then (if x1 = (rd x0 x8) then (some x8) else (slices_Index_int_int.l0 k x0 x1 x7 (wrap64 (x8 + 1)))) else (none)) else (none)) else (some (-1))
def slices_Index_int_int.f (k : Nat) (l0 : List Int) (a1 : Int) : Option (Int) := slices_Index_int_int.l0 k l0 a1 (l0.length : Int) 0
theorem slices_Index_int_int.mono_l : ∀ k, (∀ y0 y1 y2 y3, LeO (slices_Index_int_int.l0 k y0 y1 y2 y3) (slices_Index_int_int.l0 (k + 1) y0 y1 y2 y3))
 | 0 => fun _ _ _ _ r h => by simp [slices_Index_int_int.l0] at h
 | k + 1 => by
  have ih0 := slices_Index_int_int.mono_l k
  ·intro y0 y1 y2 y3
   unfold slices_Index_int_int.l0
   repeat' first
   | (with_reducible exact ih0 _ _ _ _)
   | (with_reducible exact LeO.refl _)
   | (with_reducible exact LeO.none _)
   | (with_reducible refine LeO.ite ?_ ?_)
   | (with_reducible refine LeO.bind ?_ (fun _ => ?_))
   | apply ih0
   | apply LeO.none
   | refine LeO.ite ?_ ?_
   | refine LeO.bind ?_ (fun _ => ?_)
theorem slices_Index_int_int.mono : ∀ a0 a1 k, LeO (slices_Index_int_int.f k a0 a1) (slices_Index_int_int.f (k + 1) a0 a1) := by
 intro a0 a1 k
 have ih0 := slices_Index_int_int.mono_l k
 unfold slices_Index_int_int.f
 repeat' first
   | (with_reducible exact ih0 _ _ _ _)
   | (with_reducible exact LeO.refl _)
   | (with_reducible exact LeO.none _)
   | (with_reducible refine LeO.ite ?_ ?_)
   | (with_reducible refine LeO.bind ?_ (fun _ => ?_))
   | apply ih0
   | apply LeO.none
   | refine LeO.ite ?_ ?_
   | refine LeO.bind ?_ (fun _ => ?_)
set_option maxHeartbeats 8000000 in
set_option maxRecDepth 100000 in
theorem slices_Index_int_int.calls (k : Nat) (A0 : Option Addr) (c0 : Nat) (l0 : List Int) (a1 : Int) (r : Int) (w : World) (hr0 : Kd.C (Kd.int .i64) w A0 l0.length l0) (hc0 : l0.length ≤ c0) (h : slices_Index_int_int.f k l0 a1 = some r) :
  Calls Try.prog 77 #[.slice A0 l0.length c0, .int .i64 a1] w fun e w' => e = .returned (.int .i64 r) ∧ Drawn0 w w' := by
 have HR0 := Aside0.mk hr0
 have HC0 := Aside0.mk hc0
 clear hr0 hc0
 have H : (slices_Index_int_int.l0 k l0 a1 (l0.length : Int) 0) = some r := h
 clear h
 have H' := Aside0.mk H
 clear H
 go_enter Try.func77, Try.ntmps77
 go_wp2
 go_loopg [8] k (fun kq v8 w' => ∃ (x8_1 : Int), v8 = .int .i64 x8_1 ∧ Aside0 (slices_Index_int_int.l0 kq l0 a1 (l0.length : Int) x8_1 = some r) ∧ Aside0 (kq ≤ k) ∧ Drawn0 w w')
 case atStart => exact ⟨(0), (by first | rfl | (simp; done) | (simp [*]; done)), H', ⟨Nat.le_refl _⟩, by repeat (first | exact Drawn0.refl _ | apply Drawn0.step)⟩
 case round =>
  clear H'
  obtain ⟨x8_1, rfl, HA, HK1, ⟨m1, rfl⟩⟩ := hrel
  cases gk with
  | zero => exact absurd HA.out (by simp [slices_Index_int_int.l0])
  | succ k1 =>
   have H := HA.out
   clear HA
   simp only [slices_Index_int_int.l0] at H
   by_cases c3 : x8_1 < (l0.length : Int)
   ·rw [if_pos c3] at H
    have c3b0 : decide (x8_1 < (l0.length : Int)) = true := decide_eq_true c3
    clear c3
    by_cases c4 : 0 ≤ x8_1
    ·rw [if_pos c4] at H
     have c4b0 : decide (0 ≤ x8_1) = true := decide_eq_true c4
     clear c4
     by_cases c5 : x8_1 < (l0.length : Int)
     ·rw [if_pos c5] at H
      have c5b0 : decide (x8_1 < (l0.length : Int)) = true := decide_eq_true c5
      clear c5
      by_cases c6 : a1 = (rd l0 x8_1)
      ·rw [if_pos c6] at H
       have c6b0 : (a1 == (rd l0 x8_1)) = true := beq_iff_eq.mpr c6
       have c6b1 : (a1 != (rd l0 x8_1)) = false := bne_eq_false_iff_eq.mpr c6
       clear c6
       obtain rfl := Option.some.inj H
       simp only [Option.some.injEq, Prod.mk.injEq] at H
       obtain ⟨rfl⟩ := H
       have p210 : 0 ≤ (x8_1 : Int) := of_decide_eq_true (by first | (with_reducible assumption) | assumption)
       have q210 : x8_1 < (l0.length : Int) := of_decide_eq_true (by first | (with_reducible assumption) | assumption)
       obtain ⟨ad210, e210, hx210_0⟩ := Kd.at_int HR0.out x8_1 p210 q210
       cases e210
       replace p210 := eq_true p210
       replace q210 := eq_true q210
       go_wp2
       go_ret
       exact ⟨by first | rfl | (simp; done) | (simp [*]; done), by repeat (first | exact Drawn0.refl _ | apply Drawn0.step)⟩
      ·rw [if_neg c6] at H
       have c6b0 : (a1 == (rd l0 x8_1)) = false := beq_eq_false_iff_ne.mpr c6
       have c6b1 : (a1 != (rd l0 x8_1)) = true := bne_iff_ne.mpr c6
       have H' := Aside0.mk H
       clear H
       have p210 : 0 ≤ (x8_1 : Int) := of_decide_eq_true (by first | (with_reducible assumption) | assumption)
       have q210 : x8_1 < (l0.length : Int) := of_decide_eq_true (by first | (with_reducible assumption) | assumption)
       obtain ⟨ad210, e210, hx210_0⟩ := Kd.at_int HR0.out x8_1 p210 q210
       cases e210
       replace p210 := eq_true p210
       replace q210 := eq_true q210
       go_wp2
       go_roundg k1
       case measure => have := HK1.out; omega
       case rel => exact ⟨(wrap64 (x8_1 + 1)), (by first | rfl | (simp; done) | (simp [*]; done)), H', ⟨by have := HK1.out; omega⟩, by repeat (first | exact Drawn0.refl _ | apply Drawn0.step)⟩
     ·rw [if_neg c5] at H
      exact absurd H (by simp)
    ·rw [if_neg c4] at H
     exact absurd H (by simp)
   ·rw [if_neg c3] at H
    have c3b0 : decide (x8_1 < (l0.length : Int)) = false := decide_eq_false c3
    clear c3
    obtain rfl := Option.some.inj H
    simp only [Option.some.injEq, Prod.mk.injEq] at H
    obtain ⟨rfl⟩ := H
    go_wp2
    go_ret
    exact ⟨by first | rfl | (simp; done) | (simp [*]; done), by repeat (first | exact Drawn0.refl _ | apply Drawn0.step)⟩

end Go.Proofs.Ytggocekjhohhcaa.P

/- The cutting of pieces, by places. -/
namespace Go.Proofs.Ytggocekjhohhcaa.P
set_option linter.unusedVariables false
open Go.RowKit Go.Proofs.YtggocekjhohhcaaW.PrintWords
def idxI (l : List Int) (x : Int) : Int := if x ∈ l then (l.idxOf x : Int) else -1
theorem index_at (l : List Int) (x : Int) (hl : l.length ≤ 9223372036854775807) : ∀ (d i : Nat), l.length - i = d → i ≤ l.length → (∀ j (h : j < l.length), j < i → l[j] ≠ x) → ∃ k, slices_Index_int_int.l0 k l x (l.length : Int) i = some (idxI l x)
  | 0, i, hd, hi, hno => by
    have e : i = l.length := by omega
    subst e
    refine ⟨1, ?_⟩
    simp only [slices_Index_int_int.l0]
    rw [if_neg (by omega)]
    unfold idxI
    rw [if_neg]
    intro hx
    obtain ⟨j, hj, he⟩ := List.getElem_of_mem hx
    exact hno j hj hj he
  | d + 1, i, hd, hi, hno => by
    have hil : i < l.length := by omega
    by_cases he : x = l[i]
    · refine ⟨1, ?_⟩
      simp only [slices_Index_int_int.l0]
      rw [if_pos (by omega), if_pos (by omega), if_pos (by omega), rd_get hil, if_pos he]
      unfold idxI
      rw [if_pos (by rw [he]; exact List.getElem_mem hil)]
      have h1 : l.idxOf x < l.length := List.idxOf_lt_length_iff.2 (by rw [he]; exact List.getElem_mem hil)
      have h2 : l[l.idxOf x] = x := List.getElem_idxOf h1
      have h3 : ¬ l.idxOf x < i := fun h => hno _ h1 h h2
      have h4 : ¬ i < l.idxOf x := fun h => by
        have := List.not_of_lt_findIdx (p := (· == x)) (xs := l) h
        simp [he] at this
      congr 2
      omega
    · obtain ⟨k, hk⟩ := index_at l x hl d (i + 1) (by omega) (by omega) (fun j h hj => by
        by_cases e : j = i
        · subst e; exact fun h => he h.symm
        · exact hno j h (by omega))
      refine ⟨k + 1, ?_⟩
      simp only [slices_Index_int_int.l0]
      rw [if_pos (by omega), if_pos (by omega), if_pos (by omega), rd_get hil, if_neg he]
      rw [show wrap64 ((i : Int) + 1) = ((i + 1 : Nat) : Int) from by unfold wrap64; omega]
      exact hk
theorem index_eq (l : List Int) (x : Int) (hl : l.length ≤ 9223372036854775807) : ∃ k, slices_Index_int_int.f k l x = some (idxI l x) := by
  obtain ⟨k, hk⟩ := index_at l x hl l.length 0 (by omega) (by omega) (fun _ _ h => absurd h (Nat.not_lt_zero _))
  exact ⟨k, hk⟩
namespace Cut
/-- In an ascending list, by places and by members. -/
theorem cut_places {p : List Int} (hs : p.Pairwise (· < ·)) {a b : Nat} (ha : a < p.length) (hb : b < p.length) (hab : p[a] < p[b]) :
    a < b ∧ p.take (a + 1) ++ p.drop b = (p.filter fun v => !(decide (p[a] < v) && decide (v < p[b]))) ∧ (p.take (b + 1)).drop a = p.filter fun v => decide (p[a] ≤ v) && decide (v ≤ p[b]) := by
  have mono : ∀ i j (hi : i < p.length) (hj : j < p.length), i < j → p[i] < p[j] := fun i j hi hj h => (List.pairwise_iff_getElem.1 hs) i j hi hj h
  have hlt : a < b := by
    rcases Nat.lt_trichotomy a b with h | h | h
    · exact h
    · subst h; omega
    · have := mono b a hb ha h; omega
  have inv : ∀ i j (hi : i < p.length) (hj : j < p.length), p[i] < p[j] → i < j := fun i j hi hj h => by
    rcases Nat.lt_trichotomy i j with h1 | h1 | h1
    · exact h1
    · subst h1; omega
    · have := mono j i hj hi h1; omega
  refine ⟨hlt, ?_, ?_⟩
  · refine sorted_ext ?_ (hs.filter _) fun v => ?_
    · rw [List.pairwise_append]
      refine ⟨hs.sublist (List.take_sublist _ _), hs.sublist (List.drop_sublist _ _), fun x hx y hy => ?_⟩
      obtain ⟨i, hi, rfl⟩ := List.getElem_of_mem hx
      obtain ⟨j, hj, rfl⟩ := List.getElem_of_mem hy
      rw [List.length_take] at hi
      rw [List.length_drop] at hj
      rw [List.getElem_take, List.getElem_drop]
      exact mono _ _ _ _ (by omega)
    · rw [List.mem_append, List.mem_filter]
      simp only [Bool.not_eq_true', Bool.and_eq_false_iff, decide_eq_false_iff_not]
      constructor
      · rintro (h | h)
        · obtain ⟨i, hi, rfl⟩ := List.getElem_of_mem h
          rw [List.length_take] at hi
          rw [List.getElem_take]
          refine ⟨List.getElem_mem _, .inl fun h1 => ?_⟩
          have := inv _ _ _ _ h1
          omega
        · obtain ⟨j, hj, rfl⟩ := List.getElem_of_mem h
          rw [List.length_drop] at hj
          rw [List.getElem_drop]
          refine ⟨List.getElem_mem _, .inr fun h1 => ?_⟩
          have := inv _ _ _ _ h1
          omega
      · rintro ⟨hv, h⟩
        obtain ⟨i, hi, rfl⟩ := List.getElem_of_mem hv
        by_cases h1 : i ≤ a
        · left
          rw [List.mem_take_iff_getElem]
          exact ⟨i, by omega, rfl⟩
        · right
          by_cases h2 : b ≤ i
          · rw [List.mem_drop_iff_getElem]
            exact ⟨i - b, by omega, by congr 1; omega⟩
          · exfalso
            have := mono a i ha hi (by omega)
            have := mono i b hi hb (by omega)
            omega
  · refine sorted_ext ?_ (hs.filter _) fun v => ?_
    · exact hs.sublist ((List.drop_sublist _ _).trans (List.take_sublist _ _))
    · rw [List.mem_filter]
      simp only [Bool.and_eq_true, decide_eq_true_eq]
      constructor
      · intro h
        obtain ⟨i, hi, rfl⟩ := List.getElem_of_mem h
        rw [List.length_drop, List.length_take] at hi
        rw [List.getElem_drop, List.getElem_take]
        refine ⟨List.getElem_mem _, ?_, ?_⟩
        · rcases Nat.eq_or_lt_of_le (show a ≤ a + i by omega) with h | h
          · have : p[a] = p[a + i] := by congr 1
            omega
          · have := mono a (a + i) ha (by omega) h; omega
        · rcases Nat.eq_or_lt_of_le (show a + i ≤ b by omega) with h | h
          · have : p[a + i] = p[b] := by congr 1
            omega
          · have := mono (a + i) b (by omega) hb h; omega
      · rintro ⟨hv, h1, h2⟩
        obtain ⟨i, hi, rfl⟩ := List.getElem_of_mem hv
        have g1 : ¬ i < a := fun h => by have := mono i a hi ha h; omega
        have g2 : ¬ b < i := fun h => by have := mono b i hb hi h; omega
        rw [List.mem_drop_iff_getElem]
        exact ⟨i - a, by rw [List.length_take]; omega, by rw [List.getElem_take]; congr 1; omega⟩
/-- The step, by the place of the first piece that has both ends. -/
theorem cutStep_at (d : Int × Int) : ∀ (rows : List (List Int)) (i : Nat) (hi : i < rows.length), (∀ j (h : j < rows.length), j < i → ¬ (d.1 ∈ rows[j] ∧ d.2 ∈ rows[j])) → d.1 ∈ rows[i] → d.2 ∈ rows[i] →
    cutStep d rows = (rows.set i (rows[i].filter fun v => !(decide (d.1 < v) && decide (v < d.2))), [rows[i].filter fun v => decide (d.1 ≤ v) && decide (v ≤ d.2)])
  | p :: rows, 0, hi, hno, h1, h2 => by
    simp only [List.getElem_cons_zero] at h1 h2
    rw [cutStep, if_pos (by simp [h1, h2])]
    rfl
  | p :: rows, i + 1, hi, hno, h1, h2 => by
    have h0 := hno 0 (by simp) (by omega)
    simp only [List.getElem_cons_zero] at h0
    simp only [List.getElem_cons_succ] at h1 h2
    rw [cutStep, if_neg (by simpa using h0)]
    rw [cutStep_at d rows i (by simpa using hi) (fun j h hj => by have := hno (j + 1) (by simpa using h) (by omega); simpa only [List.getElem_cons_succ] using this) h1 h2]
    rfl
theorem cutStep_none (d : Int × Int) : ∀ (rows : List (List Int)), (∀ j (h : j < rows.length), ¬ (d.1 ∈ rows[j] ∧ d.2 ∈ rows[j])) → cutStep d rows = (rows, [])
  | [], _ => rfl
  | p :: rows, hno => by
    have h0 := hno 0 (by simp)
    simp only [List.getElem_cons_zero] at h0
    rw [cutStep, if_neg (by simpa using h0)]
    rw [cutStep_none d rows (fun j h => by have := hno (j + 1) (by simpa using h); simpa only [List.getElem_cons_succ] using this)]
theorem cutStep_sorted (d : Int × Int) : ∀ (rows : List (List Int)), (∀ r ∈ rows, r.Pairwise (· < ·)) → (∀ r ∈ (cutStep d rows).1, r.Pairwise (· < ·)) ∧ ∀ r ∈ (cutStep d rows).2, r.Pairwise (· < ·)
  | [], _ => ⟨fun _ h => (by cases h), fun _ h => (by cases h)⟩
  | p :: rows, h => by
    rw [cutStep]
    split
    · exact ⟨fun r hr => by
        rcases List.mem_cons.1 hr with rfl | hr
        · exact (h p (by simp)).filter _
        · exact h r (List.mem_cons_of_mem _ hr), fun r hr => by rw [List.mem_singleton] at hr; subst hr; exact (h p (by simp)).filter _⟩
    · obtain ⟨i1, i2⟩ := cutStep_sorted d rows (fun r hr => h r (List.mem_cons_of_mem _ hr))
      exact ⟨fun r hr => by
        rcases List.mem_cons.1 hr with rfl | hr
        · exact h r (by simp)
        · exact i1 r hr, i2⟩
theorem cutOne_sorted {d : Int × Int} {rows : List (List Int)} (h : ∀ r ∈ rows, r.Pairwise (· < ·)) : ∀ r ∈ cutOne rows d, r.Pairwise (· < ·) := fun r hr => by
  obtain ⟨i1, i2⟩ := cutStep_sorted d rows h
  rcases List.mem_append.1 hr with hr | hr
  · exact i1 r hr
  · exact i2 r hr
theorem cutOne_length (d : Int × Int) (rows : List (List Int)) : (cutOne rows d).length ≤ rows.length + 1 := by
  have key : ∀ rows : List (List Int), (cutStep d rows).1.length = rows.length ∧ (cutStep d rows).2.length ≤ 1 := by
    intro rows
    induction rows with
    | nil => exact ⟨rfl, Nat.zero_le _⟩
    | cons p rows ih =>
      rw [cutStep]
      split
      · exact ⟨rfl, Nat.le_refl _⟩
      · exact ⟨by show (cutStep d rows).1.length + 1 = _; rw [ih.1]; rfl, ih.2⟩
  unfold cutOne
  rw [List.length_append, (key rows).1]
  have := (key rows).2
  omega
end Cut
end Go.Proofs.Ytggocekjhohhcaa.P

/- Copies and joins of rows of numbers: slices.Clone, slices.Grow, slices.Concat. -/
namespace Go.Proofs.Ytggocekjhohhcaa.P
set_option linter.unusedVariables false
set_option linter.unusedSimpArgs false
open Go.RowKit Go.Proofs.YtggocekjhohhcaaW.PrintWords Go.Proofs.YtggocekjhohhcaaW.PrintLast Go.Proofs.YtggocekjhohhcaaW.PrintMore
theorem intInfo : (Try.prog.info? 3).map (fun i => (i.zero, i.size, i.bytes)) = some (some (.int .i64 0), 1, 8) := by kernel_rfl
set_option maxHeartbeats 1000000 in
set_option maxRecDepth 100000 in
/-- slices.Clone at []int. -/
theorem clone_ints (A : Option Addr) (c : Nat) (xs : List Int) (w : World) (hC : Kd.C (Kd.int .i64) w A xs.length xs) (hc : xs.length ≤ c) (hn : xs.length ≤ 17179869184) :
    Calls Try.prog 79 #[.slice A xs.length c] w fun e w' => ∃ v, e = .returned v ∧ (Kd.int .i64).R 3 w' w.heap.size (fun _ => True) v xs ∧ Below w.heap.size w w' := by
  have hu := Try.underlying34
  have hu3 := Try.underlying3
  have q22 : ∀ (w : World) (a : Option Addr) (n c n' c' : Nat), (binOp .eql 34 (.slice a n c) (.slice none n' c')).run Try.prog w = .ok (.bool a.isNone) w := fun w a n c n' c' => Lib.run_eql_slice_nil w _ _ a n c n' c' hu
  have HC := Aside0.mk hC
  clear hC
  cases A with
  | none =>
    have h0 : xs = [] := by
      rcases Nat.eq_zero_or_pos xs.length with h | h
      · exact List.eq_nil_of_length_eq_zero h
      · obtain ⟨ad, he, _⟩ := HC.out.2.2 h; cases he
    subst h0
    go_enter Try.func79, Try.ntmps79
    go_wp2
    go_ret
    exact ⟨_, rfl, Kd.R_nil _ _ _ _ _, Below.refl _ _⟩
  | some ad =>
    go_enter Try.func79, Try.ntmps79
    go_wp2_with (first
      | ((with_reducible refine gate_dst (N := 5) rfl ?_); refine Kd.R_lit (Kd.int .i64) (w0 := w) w.heap.size 3 ?hg (N := 5) ?hd (xs := ([] : List Int)) (inner := []) (ok := fun _ => True) (okp := fun _ => True) ?hr ?hp (fun _ hk => hk) trivial (Below.refl _ _) (Nat.le_refl _) (by simp) ?_; (case hd => rfl); (case hg => rfl); (case hr => first | (go_simp; done) | (go_simp; rfl)); (case hp => exact (Reps.none _ _)); intro v5 w5 ho hb hg_ hn_; have H5 := Aside0.mk ho; have B5 := Aside0.mk hb; clear ho hb hg_ hn_)
      | ((with_reducible refine gate_builtin (b := .append) (xs := #[.tmp 5, .tmp 6]) rfl ?_); at_builtin; refine Kd.R_append_row (Value.int .i64) (0 : Int) (h1 := fun _ => rfl) (w0 := w) w.heap.size rfl (.tmp 5) (.tmp 6) 34 3 (.int .i64 0) 8 rfl hu intInfo rfl (by omega) v5 [] xs (some ad) xs.length c (fun _ => True) rfl rfl (fun _ _ => trivial) H5.out (Kd.C_below HC.out B5.out) B5.out (below_size B5.out) (by simp; omega) ?_; intro v7 w7 ho hb hg_ hat; have H7 := Aside0.mk ho; have B7 := Aside0.mk hb; clear ho hb hg_ hat))
    go_ret
    exact ⟨_, rfl, H7.out, B7.out⟩
set_option maxHeartbeats 1000000 in
set_option maxRecDepth 100000 in
/-- slices.Grow of nil. -/
theorem grow_nil (n : Int) (w : World) (h0 : 0 ≤ n) (hn : n ≤ 17179869184) :
    Calls Try.prog 102 #[.slice none 0 0, .int .i64 n] w fun e w' => ∃ v, e = .returned v ∧ (Kd.int .i64).R 3 w' w.heap.size (fun _ => True) v [] ∧ Below w.heap.size w w' := by
  have hu := Try.underlying34
  have hu3 := Try.underlying3
  obtain ⟨i0, hi0, _, hsz, _⟩ := info_parts intInfo
  have hto := cut_to (P := Try.prog) 34 3 .i64 hu hi0 none 0 0 0 (by omega) (by omega) (by omega)
  by_cases hp : 0 < n
  · have HS := Aside0.mk (fun (A : Option Addr) (m c : Nat) (hc : m ≤ c) => cut_to (P := Try.prog) 34 3 .i64 hu hi0 A m c 0 (by omega) (by omega) hc)
    clear hi0 hsz
    go_enter Try.func102, Try.ntmps102
    go_wp2_with (((with_reducible refine gate_builtin (b := .append) (xs := #[.tmp 20, .tmp 21]) rfl ?_); at_builtin; refine Kd.R_append_zeros (Kd.int .i64) (w0 := w) w.heap.size rfl (.tmp 20) (.tmp 21) 34 3 3 (.int .i64 0) 8 rfl hu hu3 intInfo rfl (by decide) (by omega) (.slice none 0 0) [] (0 : Int) n (fun _ => True) rfl rfl rfl (fun _ _ => trivial) (Kd.R_nil _ _ _ _ _) h0 (Below.refl _ _) (Nat.le_refl _) (by simp; omega) ?_; intro v22 w22 ho hb hg_ hat; have H22 := Aside0.mk ho; have B22 := Aside0.mk hb; clear ho hb hg_ hat; obtain ⟨A22, c22, rfl, hl22, -⟩ := Kd.R_reads H22.out; have hcut := HS.out A22 _ c22 hl22))
    go_ret
    exact ⟨_, rfl, by have h := Kd.R_take H22.out (m := 0) (Nat.zero_le _); rwa [List.take_zero] at h, B22.out⟩
  · have e : n = 0 := by omega
    subst e
    clear hi0 hsz
    go_enter Try.func102, Try.ntmps102
    go_wp2
    go_ret
    exact ⟨_, rfl, Kd.R_nil _ _ _ _ _, Below.refl _ _⟩
def flat (ps : List El) : List Int := (ps.map (·.2.1)).flatten
theorem flat_take {ps : List El} {i : Nat} (h : i < ps.length) : flat (ps.take (i + 1)) = flat (ps.take i) ++ ps[i].2.1 := by
  unfold flat
  rw [List.take_succ_eq_append_getElem h, List.map_append, List.flatten_append]
  simp only [List.map_cons, List.map_nil, List.flatten_cons, List.flatten_nil, List.append_nil]
theorem flat_le (ps : List El) (i : Nat) : (flat (ps.take i)).length ≤ (flat ps).length := by
  have h : ps = ps.take i ++ ps.drop i := (List.take_append_drop i ps).symm
  have e : flat ps = flat (ps.take i) ++ flat (ps.drop i) := by
    conv => lhs; rw [h]
    unfold flat
    rw [List.map_append, List.flatten_append]
  rw [e, List.length_append]; omega
/-- The cell of a row of slices. -/
theorem sv_cell {w : World} {b o : Nat} {svs : List SV} {x : SV} {i : Nat} (hcell : ∀ j x, svs[j]? = some x → ∃ c, c.length = kSV.sz ∧ kSV.K w x c ∧ ∀ i u, c[i]? = some u → w.cell? ⟨b, o + j * kSV.sz + i, none⟩ = some u) (hi : svs[i]? = some x) : w.cell? ⟨b, o + i, none⟩ = some (encSV x) := by
  obtain ⟨c, _, hk, hcc⟩ := hcell i x hi
  have : c = [encSV x] := hk
  subst this
  have h9 := hcc 0 _ rfl
  rwa [show o + i * kSV.sz + 0 = o + i from by show o + i * 1 + 0 = o + i; omega] at h9
set_option maxHeartbeats 1000000 in
set_option maxRecDepth 100000 in
/-- slices.Concat at []int. -/
theorem concat_ints (A : Option Addr) (c : Nat) (ps : List El) (w : World) (hr : Kd.C kSV w A ps.length (ps.map (·.1))) (hc : ps.length ≤ c) (hrd : ∀ p ∈ ps, Rd w p) (hn : (flat ps).length ≤ 17179869184) :
    Calls Try.prog 78 #[.slice A ps.length c] w fun e w' => ∃ v, e = .returned v ∧ (Kd.int .i64).R 3 w' w.heap.size (fun _ => True) v (flat ps) ∧ Below w.heap.size w w' := by
  have HR := Aside0.mk hr
  have HRD := Aside0.mk hrd
  have HN := Aside0.mk hn
  have hlen := hr.2.1
  clear hr hrd hn
  have hu24 := Try.underlying24
  have hu34 := Try.underlying34
  have hu3 := Try.underlying3
  have cellAt : ∀ i (h : i < ps.length), ∃ b o, A = some ⟨b, o, none⟩ ∧ b < w.heap.size ∧ ∀ W, Below w.heap.size w W → W.cell? ⟨b, o + i, none⟩ = some (encSV ps[i].1) := fun i h => by
    obtain ⟨b, o, hA, hb, hcell⟩ := row_cells (d := kSV) (xs := ps.map (·.1)) (by decide) (by rw [List.length_map]; exact HR.out) (by intro e; have := congrArg List.length e; rw [List.length_map, List.length_nil] at this; omega)
    exact ⟨b, o, hA, hb, fun W hW => (hW.cell (p := ⟨b, o + i, none⟩) hb).trans (sv_cell hcell (by simp [h]))⟩
  have HCA := Aside0.mk cellAt
  clear cellAt
  go_enter Try.func78, Try.ntmps78
  go_wp2_with fail
  go_loopg [3, 11] ps.length (fun gg v3 v11 wr => ∃ i : Nat, i ≤ ps.length ∧ ps.length - i ≤ gg ∧ v11 = .int .i64 i ∧ v3 = .int .i64 ((flat (ps.take i)).length : Int) ∧ wr = w)
  case atStart => exact ⟨0, Nat.zero_le _, by omega, rfl, rfl, rfl⟩
  case round =>
    obtain ⟨i, hi, hg, rfl, rfl, rfl⟩ := hrel
    by_cases hlt : i < ps.length
    · have hltz : (i : Int) < (ps.length : Int) := by omega
      obtain ⟨b, o, rfl, hb, hcell⟩ := HCA.out i hlt
      have hx := hcell _ (Below.refl _ _)
      have HF := Aside0.mk (flat_take hlt)
      have hle := flat_le ps (i + 1)
      rw [HF.out, List.length_append] at hle
      have hle2 := HN.out
      have hrdx := HRD.out ps[i] (List.getElem_mem hlt)
      clear hcell
      generalize ps[i] = p at hx hrdx HF hle
      obtain ⟨⟨xa, xl, xc⟩, xs, xt⟩ := p
      obtain rfl : xl = xs.length := hrdx.len
      have hxc : wr.cell? ⟨b, o + i, none⟩ = some (.slice xa xs.length xc) := hx
      clear hx hrdx
      have hle' : (flat (ps.take i)).length + xs.length ≤ (flat ps).length := hle
      have b1 : (0 : Int) ≤ ((flat (ps.take i)).length : Int) := by omega
      have b2 : ((flat (ps.take i)).length : Int) ≤ 17179869184 := by omega
      have b3 : ((flat (ps.take i)).length : Int) + (xs.length : Int) ≤ 17179869184 := by omega
      have b4 : ¬ ((flat (ps.take i)).length : Int) + (xs.length : Int) < 0 := by omega
      clear hle hle'
      obtain ⟨q, hq⟩ : ∃ q, (flat (ps.take i)).length = q := ⟨_, rfl⟩
      have HQ := Aside0.mk hq
      rw [hq] at b1 b2 b3 b4 ⊢
      clear hq
      go_wp2_with fail
      go_roundg (ps.length - (i + 1))
      case measure => omega
      case rel => exact ⟨i + 1, by omega, by omega, by go_num, by rw [HF.out, List.length_append, HQ.out]; go_num, rfl⟩
    · have hltz : ¬ (i : Int) < (ps.length : Int) := by omega
      have e : i = ps.length := by omega
      subst e
      rw [List.take_length]
      have b0 : (0 : Int) ≤ ((flat ps).length : Int) := by omega
      have b1 : ((flat ps).length : Int) ≤ 17179869184 := by have := HN.out; omega
      go_wp2_with (go_at_call 102; refine (grow_nil _ _ b0 b1).mono ?_; rintro e w24 ⟨v24, rfl, ho, hb⟩; have H24 := Aside0.mk ho; have B24 := Aside0.mk hb; clear ho hb)
      go_loopg [6, 27] ps.length (fun gg v6 v27 wl => ∃ i : Nat, i ≤ ps.length ∧ ps.length - i ≤ gg ∧ v27 = .int .i64 i ∧ Aside0 ((Kd.int .i64).R 3 wl wr.heap.size (fun _ => True) v6 (flat (ps.take i))) ∧ Aside0 (Below wr.heap.size wr wl))
      case atStart => exact ⟨0, Nat.zero_le _, by omega, rfl, H24, B24⟩
      case round =>
        obtain ⟨i, hi, hg, rfl, HO, HB⟩ := hrel
        by_cases hlt : i < ps.length
        · have hltz : (i : Int) < (ps.length : Int) := by omega
          obtain ⟨b, o, rfl, hb, hcell⟩ := HCA.out i hlt
          have hx := hcell _ HB.out
          have HF := Aside0.mk (flat_take hlt)
          have hle := flat_le ps (i + 1)
          rw [HF.out, List.length_append] at hle
          have hle2 := HN.out
          have HX := Aside0.mk ((HRD.out ps[i] (List.getElem_mem hlt)).below HB.out)
          clear hcell
          generalize ps[i] = p at hx HX HF hle
          obtain ⟨⟨xa, xl, xc⟩, xs, xt⟩ := p
          obtain rfl : xl = xs.length := HX.out.len
          have hxc : wr.cell? ⟨b, o + i, none⟩ = some (.slice xa xs.length xc) := hx
          clear hx
          have HLE := Aside0.mk (show (flat (ps.take i)).length + xs.length ≤ (flat ps).length from hle)
          clear hle
          go_wp2_with ((with_reducible refine gate_builtin (b := .append) (xs := #[.tmp 31, .tmp 32]) rfl ?_); at_builtin; refine Kd.R_append_row (Value.int .i64) (0 : Int) (h1 := fun _ => rfl) (w0 := _) _ rfl (.tmp 31) (.tmp 32) 34 3 (.int .i64 0) 8 rfl hu34 intInfo rfl (by omega) _ (flat (ps.take i)) xs xa xs.length xc (fun _ => True) rfl rfl (fun _ _ => trivial) HO.out HX.out.row HB.out (below_size HB.out) (by have := HLE.out; omega) ?_; intro v33 w33 ho hb hg_ hat; have H33 := Aside0.mk ho; have B33 := Aside0.mk hb; clear ho hb hg_ hat)
          go_roundg (ps.length - (i + 1))
          case measure => omega
          case rel => exact ⟨i + 1, by omega, by omega, by go_num, ⟨by rw [HF.out]; exact H33.out⟩, B33⟩
        · have hltz : ¬ (i : Int) < (ps.length : Int) := by omega
          have e : i = ps.length := by omega
          subst e
          go_wp2
          go_ret
          rw [List.take_length] at HO
          exact ⟨_, rfl, HO.out, HB.out⟩
end Go.Proofs.Ytggocekjhohhcaa.P

/-
  DERIVED: THE SHELF's CONTRACTS AT THIS DUMP, IN PLAIN WORDS (tools/lay-plain.mjs out of 'YtggocekjhohhcaaShelfF.lean', which tools/lay-shelf.mjs wrote): THE SAME DECLARATIONS UNDER THE SAME NAMES: 'import', 'namespace', 'open', 'def', 'theorem' AND NOTHING ELSE: no command of the shelf's: FOR A HAND-IN. Each laying: the table of numbers ('.._ren') and one theorem, a field a fact of the dump's own or the kernel's comparison; each contract: ONE APPLICATION.
-/
namespace Go.Proofs
open Go.Shelf
def Try.lSortFI_ren : Go.Shelf.Ren := ⟨fun | 6 => 80 | 15 => 104 | 14 => 103 | 28 => 126 | 29 => 127 | 20 => 118 | 21 => 119 | 22 => 120 | 23 => 121 | 24 => 122 | 25 => 123 | 26 => 124 | 27 => 125 | 46 => 141 | 47 => 142 | 48 => 143 | 49 => 144 | 50 => 145 | 57 => 150 | n => n, fun | 22 => 24 | 24 => 34 | 25 => 87 | 3 => 3 | 39 => 102 | 0 => 0 | 53 => 118 | 55 => 120 | 4 => 4 | 46 => 112 | 45 => 111 | 50 => 51 | 5 => 5 | 9 => 9 | 66 => 126 | 70 => 130 | 76 => 136 | 77 => 137 | n => n, fun | n => n⟩
theorem Try.lSortFI : Go.Proofs.SlLaysF.n6 Try.prog Try.lSortFI_ren := {
  mixed := by kernel_rfl
  f6 := ⟨Try.f80.name, by decide, Try.func80.trans (congrArg some (by kernel_rfl))⟩
  f14 := ⟨Try.f103.name, by decide, Try.func103.trans (congrArg some (by kernel_rfl))⟩
  f15 := Try.func104.trans (congrArg some (by kernel_rfl))
  f20 := ⟨Try.f118.name, by decide, Try.func118.trans (congrArg some (by kernel_rfl))⟩
  f21 := ⟨Try.f119.name, by decide, Try.func119.trans (congrArg some (by kernel_rfl))⟩
  f22 := ⟨Try.f120.name, by decide, Try.func120.trans (congrArg some (by kernel_rfl))⟩
  f23 := ⟨Try.f121.name, by decide, Try.func121.trans (congrArg some (by kernel_rfl))⟩
  f24 := ⟨Try.f122.name, by decide, Try.func122.trans (congrArg some (by kernel_rfl))⟩
  f25 := ⟨Try.f123.name, by decide, Try.func123.trans (congrArg some (by kernel_rfl))⟩
  f26 := ⟨Try.f124.name, by decide, Try.func124.trans (congrArg some (by kernel_rfl))⟩
  f27 := ⟨Try.f125.name, by decide, Try.func125.trans (congrArg some (by kernel_rfl))⟩
  f28 := Try.func126.trans (congrArg some (by kernel_rfl))
  f29 := Try.func127.trans (congrArg some (by kernel_rfl))
  f46 := ⟨Try.f141.name, by decide, Try.func141.trans (congrArg some (by kernel_rfl))⟩
  f47 := Try.func142.trans (congrArg some (by kernel_rfl))
  f48 := Try.func143.trans (congrArg some (by kernel_rfl))
  f49 := ⟨Try.f144.name, by decide, Try.func144.trans (congrArg some (by kernel_rfl))⟩
  f50 := ⟨Try.f145.name, by decide, Try.func145.trans (congrArg some (by kernel_rfl))⟩
  f57 := ⟨Try.f150.name, by decide, Try.func150.trans (congrArg some (by kernel_rfl))⟩
  t0 := Try.underlying0
  a0 := Try.isAgg0
  z0 := Try.sizeOf0
  v0 := Try.zeroValue0
  t3 := Try.underlying3
  a3 := Try.isAgg3
  z3 := Try.sizeOf3
  v3 := Try.zeroValue3
  t4 := Try.underlying4
  a4 := Try.isAgg4
  z4 := Try.sizeOf4
  v4 := Try.zeroValue4
  t5 := Try.underlying5
  a5 := Try.isAgg5
  z5 := Try.sizeOf5
  v5 := Try.zeroValue5
  t9 := Try.underlying9
  a9 := Try.isAgg9
  z9 := Try.sizeOf9
  v9 := Try.zeroValue9
  t22 := Try.underlying24
  a22 := Try.isAgg24
  z22 := Try.sizeOf24
  v22 := Try.zeroValue24
  a24 := Try.isAgg34
  z24 := Try.sizeOf34
  t25 := Try.underlying87
  a25 := Try.isAgg87
  z25 := Try.sizeOf87
  v25 := Try.zeroValue87
  t39 := Try.underlying102
  a39 := Try.isAgg102
  z39 := Try.sizeOf102
  v39 := Try.zeroValue102
  t45 := Try.underlying111
  a45 := Try.isAgg111
  z45 := Try.sizeOf111
  v45 := Try.zeroValue111
  t46 := Try.underlying112
  a46 := Try.isAgg112
  z46 := Try.sizeOf112
  v46 := Try.zeroValue112
  t50 := Try.underlying51
  a50 := Try.isAgg51
  z50 := Try.sizeOf51
  v50 := Try.zeroValue51
  t53 := Try.underlying118
  a53 := Try.isAgg118
  z53 := Try.sizeOf118
  v53 := Try.zeroValue118
  t55 := Try.underlying120
  a55 := Try.isAgg120
  z55 := Try.sizeOf120
  v55 := Try.zeroValue120
  t66 := Try.underlying126
  a66 := Try.isAgg126
  z66 := Try.sizeOf126
  v66 := Try.zeroValue126
  t70 := Try.underlying130
  a70 := Try.isAgg130
  z70 := Try.sizeOf130
  v70 := Try.zeroValue130
  t76 := Try.underlying136
  a76 := Try.isAgg136
  z76 := Try.sizeOf136
  v76 := Try.zeroValue136
  t77 := Try.underlying137
  a77 := Try.isAgg137
  z77 := Try.sizeOf137
  v77 := Try.zeroValue137 }
def Try.lSortI_ren : Go.Shelf.Ren := ⟨fun | 5 => 92 | 8 => 104 | 7 => 115 | 19 => 126 | 20 => 127 | 10 => 132 | 11 => 133 | 12 => 134 | 13 => 135 | 14 => 136 | 15 => 137 | 16 => 138 | 17 => 139 | 18 => 140 | 30 => 147 | 31 => 142 | 32 => 143 | 33 => 148 | 34 => 149 | 35 => 116 | 40 => 153 | n => n, fun | 23 => 34 | 25 => 3 | 3 => 3 | 32 => 102 | 22 => 34 | 0 => 0 | 44 => 118 | 46 => 120 | 4 => 4 | 36 => 112 | 35 => 111 | 41 => 51 | 5 => 5 | 9 => 9 | 53 => 126 | 57 => 130 | 63 => 136 | 64 => 137 | n => n, fun | n => n⟩
theorem Try.lSortI : Go.Proofs.SlLaysM.n5 Try.prog Try.lSortI_ren := {
  mixed := by kernel_rfl
  f5 := ⟨Try.f92.name, by decide, Try.func92.trans (congrArg some (by kernel_rfl))⟩
  f7 := ⟨Try.f115.name, by decide, Try.func115.trans (congrArg some (by kernel_rfl))⟩
  f8 := Try.func104.trans (congrArg some (by kernel_rfl))
  f10 := ⟨Try.f132.name, by decide, Try.func132.trans (congrArg some (by kernel_rfl))⟩
  f11 := ⟨Try.f133.name, by decide, Try.func133.trans (congrArg some (by kernel_rfl))⟩
  f12 := ⟨Try.f134.name, by decide, Try.func134.trans (congrArg some (by kernel_rfl))⟩
  f13 := ⟨Try.f135.name, by decide, Try.func135.trans (congrArg some (by kernel_rfl))⟩
  f14 := ⟨Try.f136.name, by decide, Try.func136.trans (congrArg some (by kernel_rfl))⟩
  f15 := ⟨Try.f137.name, by decide, Try.func137.trans (congrArg some (by kernel_rfl))⟩
  f16 := ⟨Try.f138.name, by decide, Try.func138.trans (congrArg some (by kernel_rfl))⟩
  f17 := ⟨Try.f139.name, by decide, Try.func139.trans (congrArg some (by kernel_rfl))⟩
  f18 := ⟨Try.f140.name, by decide, Try.func140.trans (congrArg some (by kernel_rfl))⟩
  f19 := Try.func126.trans (congrArg some (by kernel_rfl))
  f20 := Try.func127.trans (congrArg some (by kernel_rfl))
  f30 := ⟨Try.f147.name, by decide, Try.func147.trans (congrArg some (by kernel_rfl))⟩
  f31 := Try.func142.trans (congrArg some (by kernel_rfl))
  f32 := Try.func143.trans (congrArg some (by kernel_rfl))
  f33 := ⟨Try.f148.name, by decide, Try.func148.trans (congrArg some (by kernel_rfl))⟩
  f34 := ⟨Try.f149.name, by decide, Try.func149.trans (congrArg some (by kernel_rfl))⟩
  f35 := ⟨Try.f116.name, by decide, Try.func116.trans (congrArg some (by kernel_rfl))⟩
  f40 := ⟨Try.f153.name, by decide, Try.func153.trans (congrArg some (by kernel_rfl))⟩
  t0 := Try.underlying0
  a0 := Try.isAgg0
  z0 := Try.sizeOf0
  v0 := Try.zeroValue0
  t3 := Try.underlying3
  a3 := Try.isAgg3
  z3 := Try.sizeOf3
  v3 := Try.zeroValue3
  t4 := Try.underlying4
  a4 := Try.isAgg4
  z4 := Try.sizeOf4
  v4 := Try.zeroValue4
  t5 := Try.underlying5
  a5 := Try.isAgg5
  z5 := Try.sizeOf5
  v5 := Try.zeroValue5
  t9 := Try.underlying9
  a9 := Try.isAgg9
  z9 := Try.sizeOf9
  v9 := Try.zeroValue9
  t22 := Try.underlying34
  a22 := Try.isAgg34
  z22 := Try.sizeOf34
  v22 := Try.zeroValue34
  t23 := Try.underlying34
  a23 := Try.isAgg34
  z23 := Try.sizeOf34
  v23 := Try.zeroValue34
  t25 := Try.underlying3
  a25 := Try.isAgg3
  z25 := Try.sizeOf3
  v25 := Try.zeroValue3
  t32 := Try.underlying102
  a32 := Try.isAgg102
  z32 := Try.sizeOf102
  v32 := Try.zeroValue102
  t35 := Try.underlying111
  a35 := Try.isAgg111
  z35 := Try.sizeOf111
  v35 := Try.zeroValue111
  t36 := Try.underlying112
  a36 := Try.isAgg112
  z36 := Try.sizeOf112
  v36 := Try.zeroValue112
  t41 := Try.underlying51
  a41 := Try.isAgg51
  z41 := Try.sizeOf51
  v41 := Try.zeroValue51
  t44 := Try.underlying118
  a44 := Try.isAgg118
  z44 := Try.sizeOf118
  v44 := Try.zeroValue118
  t46 := Try.underlying120
  a46 := Try.isAgg120
  z46 := Try.sizeOf120
  v46 := Try.zeroValue120
  t53 := Try.underlying126
  a53 := Try.isAgg126
  z53 := Try.sizeOf126
  v53 := Try.zeroValue126
  t57 := Try.underlying130
  a57 := Try.isAgg130
  z57 := Try.sizeOf130
  v57 := Try.zeroValue130
  t63 := Try.underlying136
  a63 := Try.isAgg136
  z63 := Try.sizeOf136
  v63 := Try.zeroValue136
  t64 := Try.underlying137
  a64 := Try.isAgg137
  z64 := Try.sizeOf137
  v64 := Try.zeroValue137 }
end Go.Proofs

-- By a program of this session.
namespace Go.Proofs.Ytggocekjhohhcaa.P
open Go.RowKit Go.Proofs.YtggocekjhohhcaaW.PrintWords Go.Proofs.YtggocekjhohhcaaW.PrintLast Go.Proofs.YtggocekjhohhcaaW.PrintMore
attribute [local go_sem] max2_int min2_int max_two min_two max_three min_three max_four min_four
set_option linter.unusedVariables false
set_option linter.unusedSimpArgs false

/-! ### slices_Compare_int_int: function 81 -/
def slices_Compare_int_int.l0 : Nat → List Int → List Int → List Int → Int → Int → Option (Int)
 | 0, _, _, _, _, _ => none
 | k + 1, x0, x1, x9, x10, x11 => if x11 < x10 then (if 0 ≤ x11 then (if x11 < (x9.length : Int) then (if x11 ≥ (x1.length : Int) then (some 1) else (if x11 < (x1.length : Int) then ((cmp_Compare_int.f (rd x9 x11) (rd x1 x11)).bind fun t215 => (if t215 = 0 then (slices_Compare_int_int.l0 k x0 x1 x9 x10 (wrap64 (x11 + 1))) else (some t215))) else (none))) else (none)) else (none)) else (if (x0.length : Int) < (x1.length : Int) then (some (-1)) else (some 0))
def slices_Compare_int_int.f (k : Nat) (l0 : List Int) (l1 : List Int) : Option (Int) := slices_Compare_int_int.l0 k l0 l1 l0 (l0.length : Int) 0
theorem slices_Compare_int_int.mono_l : ∀ k, (∀ y0 y1 y2 y3 y4, LeO (slices_Compare_int_int.l0 k y0 y1 y2 y3 y4) (slices_Compare_int_int.l0 (k + 1) y0 y1 y2 y3 y4))
 | 0 => fun _ _ _ _ _ r h => by simp [slices_Compare_int_int.l0] at h
 | k + 1 => by
  have ih0 := slices_Compare_int_int.mono_l k
  ·intro y0 y1 y2 y3 y4
   unfold slices_Compare_int_int.l0
   repeat' first
   | (with_reducible exact ih0 _ _ _ _ _)
   | (with_reducible exact LeO.refl _)
   | (with_reducible exact LeO.none _)
   | (with_reducible refine LeO.ite ?_ ?_)
   | (with_reducible refine LeO.bind ?_ (fun _ => ?_))
   | apply ih0
   | apply LeO.none
   | refine LeO.ite ?_ ?_
   | refine LeO.bind ?_ (fun _ => ?_)
theorem slices_Compare_int_int.mono : ∀ a0 a1 k, LeO (slices_Compare_int_int.f k a0 a1) (slices_Compare_int_int.f (k + 1) a0 a1) := by
 intro a0 a1 k
 have ih0 := slices_Compare_int_int.mono_l k
 unfold slices_Compare_int_int.f
 repeat' first
   | (with_reducible exact ih0 _ _ _ _ _)
   | (with_reducible exact LeO.refl _)
   | (with_reducible exact LeO.none _)
   | (with_reducible refine LeO.ite ?_ ?_)
   | (with_reducible refine LeO.bind ?_ (fun _ => ?_))
   | apply ih0
   | apply LeO.none
   | refine LeO.ite ?_ ?_
   | refine LeO.bind ?_ (fun _ => ?_)
set_option maxHeartbeats 8000000 in
set_option maxRecDepth 100000 in
theorem slices_Compare_int_int.calls (k : Nat) (A0 : Option Addr) (c0 : Nat) (l0 : List Int) (A1 : Option Addr) (c1 : Nat) (l1 : List Int) (r : Int) (w : World) (hr0 : Kd.C (Kd.int .i64) w A0 l0.length l0) (hc0 : l0.length ≤ c0) (hr1 : Kd.C (Kd.int .i64) w A1 l1.length l1) (hc1 : l1.length ≤ c1) (h : slices_Compare_int_int.f k l0 l1 = some r) :
  Calls Try.prog 81 #[.slice A0 l0.length c0, .slice A1 l1.length c1] w fun e w' => e = .returned (.int .i64 r) ∧ Drawn0 w w' := by
 have HR0 := Aside0.mk hr0
 have HC0 := Aside0.mk hc0
 clear hr0 hc0
 have HR1 := Aside0.mk hr1
 have HC1 := Aside0.mk hc1
 clear hr1 hc1
 have H : (slices_Compare_int_int.l0 k l0 l1 l0 (l0.length : Int) 0) = some r := h
 clear h
 have H' := Aside0.mk H
 clear H
 go_enter Try.func81, Try.ntmps81
 go_wp2
 go_loopg [11] k (fun kq v11 w' => ∃ (x11_1 : Int), v11 = .int .i64 x11_1 ∧ Aside0 (slices_Compare_int_int.l0 kq l0 l1 l0 (l0.length : Int) x11_1 = some r) ∧ Aside0 (kq ≤ k) ∧ Drawn0 w w')
 case atStart => exact ⟨(0), (by first | rfl | (simp; done) | (simp [*]; done)), H', ⟨Nat.le_refl _⟩, by repeat (first | exact Drawn0.refl _ | apply Drawn0.step)⟩
 case round =>
  clear H'
  obtain ⟨x11_1, rfl, HA, HK1, ⟨m1, rfl⟩⟩ := hrel
  cases gk with
  | zero => exact absurd HA.out (by simp [slices_Compare_int_int.l0])
  | succ k1 =>
   have H := HA.out
   clear HA
   simp only [slices_Compare_int_int.l0] at H
   by_cases c3 : x11_1 < (l0.length : Int)
   ·rw [if_pos c3] at H
    have c3b0 : decide (x11_1 < (l0.length : Int)) = true := decide_eq_true c3
    clear c3
    by_cases c4 : 0 ≤ x11_1
    ·rw [if_pos c4] at H
     have c4b0 : decide (0 ≤ x11_1) = true := decide_eq_true c4
     clear c4
     by_cases c5 : x11_1 < (l0.length : Int)
     ·rw [if_pos c5] at H
      have c5b0 : decide (x11_1 < (l0.length : Int)) = true := decide_eq_true c5
      clear c5
      by_cases c6 : x11_1 ≥ (l1.length : Int)
      ·rw [if_pos c6] at H
       have c6b0 : decide ((l1.length : Int) ≤ x11_1) = true := decide_eq_true c6
       clear c6
       obtain rfl := Option.some.inj H
       simp only [Option.some.injEq, Prod.mk.injEq] at H
       obtain ⟨rfl⟩ := H
       have p213 : 0 ≤ (x11_1 : Int) := of_decide_eq_true (by first | (with_reducible assumption) | assumption)
       have q213 : x11_1 < (l0.length : Int) := of_decide_eq_true (by first | (with_reducible assumption) | assumption)
       obtain ⟨ad213, e213, hx213_0⟩ := Kd.at_int HR0.out x11_1 p213 q213
       cases e213
       replace p213 := eq_true p213
       replace q213 := eq_true q213
       go_wp2
       go_ret
       exact ⟨by first | rfl | (simp; done) | (simp [*]; done), by repeat (first | exact Drawn0.refl _ | apply Drawn0.step)⟩
      ·rw [if_neg c6] at H
       have c6b0 : decide ((l1.length : Int) ≤ x11_1) = false := decide_eq_false c6
       clear c6
       by_cases c7 : x11_1 < (l1.length : Int)
       ·rw [if_pos c7] at H
        have c7b0 : decide (x11_1 < (l1.length : Int)) = true := decide_eq_true c7
        clear c7
        replace H := Option.bind_eq_some_iff.mp H
        obtain ⟨t215, A80, H⟩ := H
        have A8 := Aside0.mk A80
        clear A80
        by_cases c9 : t215 = 0
        ·rw [if_pos c9] at H
         have c9b0 : (t215 == 0) = true := beq_iff_eq.mpr c9
         have c9b1 : (t215 != 0) = false := bne_eq_false_iff_eq.mpr c9
         clear c9
         have H' := Aside0.mk H
         clear H
         have p213 : 0 ≤ (x11_1 : Int) := of_decide_eq_true (by first | (with_reducible assumption) | assumption)
         have q213 : x11_1 < (l0.length : Int) := of_decide_eq_true (by first | (with_reducible assumption) | assumption)
         obtain ⟨ad213, e213, hx213_0⟩ := Kd.at_int HR0.out x11_1 p213 q213
         cases e213
         replace p213 := eq_true p213
         replace q213 := eq_true q213
         have p214 : 0 ≤ (x11_1 : Int) := of_decide_eq_true (by first | (with_reducible assumption) | assumption)
         have q214 : x11_1 < (l1.length : Int) := of_decide_eq_true (by first | (with_reducible assumption) | assumption)
         obtain ⟨ad214, e214, hx214_0⟩ := Kd.at_int HR1.out x11_1 p214 q214
         cases e214
         replace p214 := eq_true p214
         replace q214 := eq_true q214
         go_wp2_with (first | ((with_reducible refine gate_callee (f := 98) rfl ?_); refine gof_ (some 26) Try.func98 #[.int .i64 (rd l0 x11_1), .int .i64 (rd l1 x11_1)] ?_; (with_reducible refine (cmp_Compare_int.calls (rd l0 x11_1) (rd l1 x11_1) t215 _ A8.out).mono ?_); rintro e w' ⟨rfl, ⟨nd, rfl⟩⟩; refine ⟨_, rfl, ?_⟩))
         go_roundg k1
         case measure => have := HK1.out; omega
         case rel => exact ⟨(wrap64 (x11_1 + 1)), (by first | rfl | (simp; done) | (simp [*]; done)), H', ⟨by have := HK1.out; omega⟩, by repeat (first | exact Drawn0.refl _ | apply Drawn0.step)⟩
        ·rw [if_neg c9] at H
         have c9b0 : (t215 == 0) = false := beq_eq_false_iff_ne.mpr c9
         have c9b1 : (t215 != 0) = true := bne_iff_ne.mpr c9
         obtain rfl := Option.some.inj H
         simp only [Option.some.injEq, Prod.mk.injEq] at H
         obtain ⟨rfl⟩ := H
         have p213 : 0 ≤ (x11_1 : Int) := of_decide_eq_true (by first | (with_reducible assumption) | assumption)
         have q213 : x11_1 < (l0.length : Int) := of_decide_eq_true (by first | (with_reducible assumption) | assumption)
         obtain ⟨ad213, e213, hx213_0⟩ := Kd.at_int HR0.out x11_1 p213 q213
         cases e213
         replace p213 := eq_true p213
         replace q213 := eq_true q213
         have p214 : 0 ≤ (x11_1 : Int) := of_decide_eq_true (by first | (with_reducible assumption) | assumption)
         have q214 : x11_1 < (l1.length : Int) := of_decide_eq_true (by first | (with_reducible assumption) | assumption)
         obtain ⟨ad214, e214, hx214_0⟩ := Kd.at_int HR1.out x11_1 p214 q214
         cases e214
         replace p214 := eq_true p214
         replace q214 := eq_true q214
         go_wp2_with (first | ((with_reducible refine gate_callee (f := 98) rfl ?_); refine gof_ (some 26) Try.func98 #[.int .i64 (rd l0 x11_1), .int .i64 (rd l1 x11_1)] ?_; (with_reducible refine (cmp_Compare_int.calls (rd l0 x11_1) (rd l1 x11_1) t215 _ A8.out).mono ?_); rintro e w' ⟨rfl, ⟨nd, rfl⟩⟩; refine ⟨_, rfl, ?_⟩))
         go_ret
         exact ⟨by first | rfl | (simp; done) | (simp [*]; done), by repeat (first | exact Drawn0.refl _ | apply Drawn0.step)⟩
       ·rw [if_neg c7] at H
        exact absurd H (by simp)
     ·rw [if_neg c5] at H
      exact absurd H (by simp)
    ·rw [if_neg c4] at H
     exact absurd H (by simp)
   ·rw [if_neg c3] at H
    have c3b0 : decide (x11_1 < (l0.length : Int)) = false := decide_eq_false c3
    clear c3
    by_cases c10 : (l0.length : Int) < (l1.length : Int)
    ·rw [if_pos c10] at H
     have c10b0 : decide ((l0.length : Int) < (l1.length : Int)) = true := decide_eq_true c10
     have c10b1 : decide (l0.length < l1.length) = true := decide_eq_true (Int.ofNat_lt.mp c10)
     clear c10
     obtain rfl := Option.some.inj H
     simp only [Option.some.injEq, Prod.mk.injEq] at H
     obtain ⟨rfl⟩ := H
     go_wp2
     go_ret
     exact ⟨by first | rfl | (simp; done) | (simp [*]; done), by repeat (first | exact Drawn0.refl _ | apply Drawn0.step)⟩
    ·rw [if_neg c10] at H
     have c10b0 : decide ((l0.length : Int) < (l1.length : Int)) = false := decide_eq_false c10
     have c10b1 : decide (l0.length < l1.length) = false := decide_eq_false (fun h => c10 (Int.ofNat_lt.mpr h))
     clear c10
     obtain rfl := Option.some.inj H
     simp only [Option.some.injEq, Prod.mk.injEq] at H
     obtain ⟨rfl⟩ := H
     go_wp2
     go_ret
     exact ⟨by first | rfl | (simp; done) | (simp [*]; done), by repeat (first | exact Drawn0.refl _ | apply Drawn0.step)⟩

end Go.Proofs.Ytggocekjhohhcaa.P

/- What slices.Compare tells of two lists of numbers. -/
namespace Go.Proofs.Ytggocekjhohhcaa.P
set_option linter.unusedVariables false
open Go.RowKit Go.Proofs.YtggocekjhohhcaaW.PrintWords
def cmpL (a b : List Int) : Int := if Lex.lt a b then -1 else if Lex.lt b a then 1 else 0
theorem cmp_int (a b : Int) : cmp_Compare_int.f a b = some (if a < b then -1 else if a > b then 1 else 0) := by
  unfold cmp_Compare_int.f cmp_isNaN_int.f
  simp
  split
  · rfl
  · split <;> rfl
theorem compare_at (a b : List Int) (ha : a.length ≤ 9223372036854775807) : ∀ (d i : Nat), a.length - i = d → i ≤ a.length → ∃ k, slices_Compare_int_int.l0 k a b a a.length i = some (if i < b.length ∨ i = a.length ∧ i = b.length then cmpL (a.drop i) (b.drop i) else if i < a.length then 1 else if a.length < b.length then -1 else 0)
  | 0, i, hd, hi => by
    have e : i = a.length := by omega
    subst e
    refine ⟨1, ?_⟩
    simp only [slices_Compare_int_int.l0]
    rw [if_neg (by omega)]
    by_cases h1 : a.length < b.length
    · rw [if_pos (by omega), if_pos (.inl h1), List.drop_length, List.drop_eq_getElem_cons h1]
      simp [cmpL, Lex.lt]
    · rw [if_neg (by omega)]
      by_cases h2 : a.length = b.length
      · rw [if_pos (by simp [h2]), List.drop_length, List.drop_of_length_le (by omega)]
        simp [cmpL, Lex.lt]
      · rw [if_neg (by omega), if_neg (by omega), if_neg h1]
  | d + 1, i, hd, hi => by
    have hia : i < a.length := by omega
    by_cases hib : i < b.length
    · rw [if_pos (.inl hib)]
      by_cases he : a[i] = b[i]
      · obtain ⟨k, hk⟩ := compare_at a b ha d (i + 1) (by omega) (by omega)
        have hz : (if b[i] < b[i] then (-1 : Int) else if b[i] > b[i] then 1 else 0) = 0 := by rw [if_neg (by omega), if_neg (by omega)]
        refine ⟨k + 1, ?_⟩
        simp only [slices_Compare_int_int.l0]
        rw [if_pos (by omega), if_pos (by omega), if_pos (by omega), if_neg (by omega), if_pos (by omega), rd_get hia, rd_get hib, cmp_int, Option.bind_some, he, hz, if_pos rfl]
        rw [show wrap64 ((i : Int) + 1) = ((i + 1 : Nat) : Int) from by unfold wrap64; omega, hk]
        have hc : cmpL (a.drop i) (b.drop i) = cmpL (a.drop (i + 1)) (b.drop (i + 1)) := by
          rw [List.drop_eq_getElem_cons hia, List.drop_eq_getElem_cons hib]
          unfold cmpL
          simp only [Lex.lt, he, Int.lt_irrefl, if_false]
        rw [hc]
        by_cases h1 : i + 1 < b.length ∨ i + 1 = a.length ∧ i + 1 = b.length
        · rw [if_pos h1]
        · rw [if_neg h1]
          have hb : b.drop (i + 1) = [] := List.drop_of_length_le (by omega)
          have hal : i + 1 < a.length := by omega
          rw [if_pos hal, hb, List.drop_eq_getElem_cons hal]
          simp [cmpL, Lex.lt]
      · refine ⟨1, ?_⟩
        simp only [slices_Compare_int_int.l0]
        rw [if_pos (by omega), if_pos (by omega), if_pos (by omega), if_neg (by omega), if_pos (by omega), rd_get hia, rd_get hib, cmp_int, Option.bind_some]
        rw [List.drop_eq_getElem_cons hia, List.drop_eq_getElem_cons hib]
        unfold cmpL
        rw [Lex.lt, Lex.lt]
        by_cases h1 : a[i] < b[i]
        · simp [h1]
        · have h2 : b[i] < a[i] := by omega
          simp [h1, h2]
    · refine ⟨1, ?_⟩
      simp only [slices_Compare_int_int.l0]
      rw [if_pos (by omega), if_pos (by omega), if_pos (by omega), if_pos (by omega), if_neg (by omega), if_pos hia]
theorem compare_lt (a b : List Int) (ha : a.length ≤ 9223372036854775807) : ∃ k, slices_Compare_int_int.f k a b = some (cmpL a b) := by
  obtain ⟨k, hk⟩ := compare_at a b ha a.length 0 (by omega) (by omega)
  refine ⟨k, ?_⟩
  unfold slices_Compare_int_int.f
  have e : ((0 : Nat) : Int) = 0 := rfl
  rw [← e, hk]
  by_cases h1 : 0 < b.length ∨ 0 = a.length ∧ 0 = b.length
  · rw [if_pos h1]; rfl
  · rw [if_neg h1]
    have hb : b = [] := List.eq_nil_of_length_eq_zero (by omega)
    subst hb
    cases a with
    | nil => simp [cmpL, Lex.lt]
    | cons x xs => simp [cmpL, Lex.lt]
end Go.Proofs.Ytggocekjhohhcaa.P

/- Rows of the call's own, sorted by the library. -/
namespace Go.Proofs.Ytggocekjhohhcaa.P
set_option linter.unusedVariables false
set_option linter.unusedSimpArgs false
open Go.RowKit Go.Shelf Go.Lib Go.Sort Go.Proofs.YtggocekjhohhcaaW.PrintWords Go.Proofs.YtggocekjhohhcaaW.PrintLast Go.Proofs.YtggocekjhohhcaaW.PrintMore
section
variable {α : Type} [Inhabited α] {enc : α → Value} {w : World}
theorem holds_of_blockE {g : Nat} {cur : Array Value} {e : TypeId} {ss : List α} (hb : w.heap[g]? = some (.cells cur e (0, 0))) (ht : cur.toList.take ss.length = ss.map enc) : Holds enc w g 0 ss.toArray := by
  intro j hj
  have hj' : j < ss.length := by simpa using hj
  refine ⟨?_, by simp [World.frozen?, hb]⟩
  have h1 : (cur.toList.take ss.length)[j]? = (ss.map enc)[j]? := by rw [ht]
  rw [List.getElem?_take_of_lt hj'] at h1
  simp only [World.cell?, hb, Nat.zero_add]
  simp only [Option.isSome_none, Bool.false_eq_true, if_false]
  rw [← Array.getElem?_toList, h1]
  simp [hj']
omit [Inhabited α] in
theorem heap_sortedE [Inhabited α] {g n : Nat} {os : Array Obj} {cur : Array Value} {e : TypeId} {fr : Nat × Nat} (d : Array α) (hb : w.heap[g]? = some (.cells cur e fr)) :
    (grow (putRow enc (Sort.ahead w n) g 0 d) os).heap[g]? = some (.cells (putCells enc 0 d cur) e fr) := by
  have hg : g < w.heap.size := (Array.getElem?_eq_some_iff.1 hb).1
  rw [heap_grow_old _ _ (by simpa using hg)]
  simp [putRow, mapBlock, Sort.ahead, Array.getElem?_modify, hb, onCells]
theorem grownBy_sortedE {g n : Nat} {os : Array Obj} (d : Array α) : w.grownBy (grow (putRow enc (Sort.ahead w n) g 0 d) os) (some g) := by
  refine ⟨rfl, rfl, rfl, by simp, fun k hk hne => ?_⟩
  rw [heap_grow_old _ _ (by simpa using hk)]
  have : g ≠ k := fun e => hne (by rw [e])
  simp [putRow, mapBlock, Sort.ahead, Array.getElem?_modify, this]
theorem take_putCellsE (cur : Array Value) (ts : List α) (h : ts.length ≤ cur.size) : (putCells enc 0 ts.toArray cur).toList.take ts.length = ts.map enc := by
  apply List.ext_getElem?
  intro j
  by_cases hj : j < ts.length
  · rw [List.getElem?_take_of_lt hj, Array.getElem?_toList]
    simp [putCells, hj, show j < cur.size by omega]
  · rw [List.getElem?_take_eq_none (by omega), List.getElem?_eq_none (by simp; omega)]
/-- A row of one's own, ahead of a sort and behind it. -/
theorem R_sortable {h1 : ∀ x, (enc x).oneCell' = true} {e base : Nat} {ok : Nat → Prop} {v : Value} {xs : List α} (h : (Kd.scalar enc h1).R e w base ok v xs) (hn : xs ≠ []) :
    ∃ g cap, v = .slice (some ⟨g, 0, none⟩) xs.length cap ∧ g < w.heap.size ∧ Holds enc w g 0 xs.toArray ∧
      ∀ (n : Nat) (os : Array Obj) (ts : List α), ts.length = xs.length → (Kd.scalar enc h1).R e (grow (putRow enc (Sort.ahead w n) g 0 ts.toArray) os) base ok v ts ∧ w.grownBy (grow (putRow enc (Sort.ahead w n) g 0 ts.toArray) os) v.ownBlock := by
  have ho := Kd.own_of_R h
  rcases ho.2 with ⟨-, h0⟩ | ⟨g, cap, cur, rfl, hbase, hb, hc1, hc2, hsz, ht⟩
  · exact absurd (List.eq_nil_of_length_eq_zero h0) hn
  · rw [Nat.mul_one] at hsz ht
    refine ⟨g, cap, rfl, (Array.getElem?_eq_some_iff.1 hb).1, holds_of_blockE hb ht, fun n os ts hl => ⟨Kd.R_of_own ?_ ?_, grownBy_sortedE _⟩⟩
    · rw [hl]
      exact ⟨by simp [encs, hl], .inr ⟨g, cap, _, rfl, hbase, heap_sortedE _ hb, hc1, hc2, by simp [putCells, hsz], by rw [Nat.mul_one, ← hl]; exact take_putCellsE cur ts (by omega)⟩⟩
    · exact h.1
end
theorem grownBy_same (w : World) (row : Option Nat) : w.grownBy w row := ⟨rfl, rfl, rfl, Nat.le_refl _, fun _ _ _ => rfl⟩
/-- slices.Sort on a row of the call's own. -/
theorem sort_ints (v : Value) (xs : List Int) (w : World) (base : Nat) (ok : Nat → Prop) (h : (Kd.int .i64).R 3 w base ok v xs) (hn : xs.length < 4611686018427387904) :
    Calls Try.prog 92 #[v] w fun e w' => e = .returned (.tuple #[]) ∧ (Kd.int .i64).R 3 w' base ok v (xs.mergeSort fun x y => decide (x ≤ y)) ∧ w.grownBy w' v.ownBlock := by
  by_cases h0 : xs = []
  · subst h0
    obtain ⟨A, c, rfl⟩ := Kd.R_slice h
    refine (AnyM.slices_Sort_int_none Try.lSortI A c w).mono ?_
    rintro e w' ⟨he, rfl⟩
    exact ⟨he, by rw [List.mergeSort_nil]; exact h, grownBy_same _ _⟩
  · obtain ⟨g, cap, rfl, hg, hH, hS⟩ := R_sortable (enc := Value.int .i64) h h0
    refine (AnyM.slices_Sort_int Try.lSortI g 0 cap xs w hH hg hn).mono ?_
    rintro e w' ⟨he, n, os, rfl⟩
    exact ⟨he, hS n os _ (List.length_mergeSort _)⟩
theorem cmpL_lt (a b : List Int) : decide (cmpL a b < 0) = Lex.lt a b := by
  unfold cmpL
  cases h : Lex.lt a b
  · cases h2 : Lex.lt b a <;> simp
  · simp
set_option maxHeartbeats 1000000 in
/-- slices.SortFunc by slices.Compare on a row of rows of the call's own. -/
theorem sort_rows (v : Value) (rows : List (List Int)) (w : World) (base : Nat) (ok : Nat → Prop) (h : Kd.S kRow 34 w base ok v rows) (hn : rows.length < 4611686018427387904) :
    Calls Try.prog 80 #[v, .func (.func 81) #[] #[]] w fun e w' => e = .returned (.tuple #[]) ∧ Kd.S kRow 34 w' base ok v (Lex.sort rows) ∧ w.grownBy w' v.ownBlock := by
  obtain ⟨f, ps, e1, e2, h3, h4⟩ := S_els h
  have hl : ps.length = rows.length := by rw [← e1, List.length_map]
  by_cases h0 : rows = []
  · subst h0
    obtain ⟨A, c, rfl⟩ := Kd.S_slice h
    refine (AnyF.slices_SortFunc_none { Try.lSortFI with } A c _ w).mono ?_
    rintro e w' ⟨he, rfl⟩
    exact ⟨he, h, grownBy_same _ _⟩
  · have hp0 : 0 < ps.length := by have := List.length_pos_iff.2 h0; omega
    let T := { p : El // (Kd.int .i64).R 3 w base (fun k => (ok k ∧ some k ≠ v.ownBlock) ∧ f k = p.2.2) (encSV p.1) p.2.1 }
    haveI : Inhabited T := ⟨⟨ps[0], h4 _ (List.getElem_mem hp0)⟩⟩
    let qs : List T := ps.attach.map fun p => ⟨p.1, h4 p.1 p.2⟩
    have hqs : qs.map (·.1) = ps := by
      show (ps.attach.map _).map _ = ps
      rw [List.map_map]
      exact List.attach_map_subtype_val ps
    have hll : qs.length = ps.length := by have := congrArg List.length hqs; rwa [List.length_map] at this
    let encT : T → Value := fun x => encSV x.1.1
    let cf : T → T → Int := fun x y => cmpL x.1.2.1 y.1.2.1
    have hlt : ∀ x y, ltOf cf x y = Lex.lt x.1.2.1 y.1.2.1 := fun x y => cmpL_lt _ _
    have h3T : (Kd.scalar encT (fun _ => rfl)).R 34 w base ok v qs := by
      refine Kd.R_of_own ?_ h3.1
      have ho := Kd.own_of_R h3
      rw [List.length_map] at ho
      have : encs encT qs = encs encSV (ps.map (·.1)) := by
        rw [← hqs]; simp [encs, encT]
      rw [this, hll]
      exact ho
    have hq0 : qs ≠ [] := by intro e; rw [e] at hll; rw [← hll] at hp0; cases hp0
    obtain ⟨g, cap, hv, hg, hH, hS⟩ := R_sortable h3T hq0
    have hlq : qs.length = rows.length := by rw [hll, hl]
    have eg : ∀ args w, (callFunc 81 args).run Try.prog w = .ok (.enter 81 args) w := enters_of Try.func81 (by kernel_rfl) rfl
    have hcmp : CmpLays1 Try.prog 81 #[] encT cf g 0 qs.toArray.size w := fun m os dk hs x y => by
      have hgr := grownBy_sortedE (enc := encT) (w := w) (g := g) (n := m) (os := os) dk
      have rd : ∀ z : T, Rd (sortWorld encT w g 0 m dk os) z.1 := fun z => by
        have hz : (Kd.int .i64).R 3 (sortWorld encT w g 0 m dk os) base (fun k => (ok k ∧ some k ≠ v.ownBlock) ∧ f k = z.1.2.2) (encSV z.1.1) z.1.2.1 := Kd.R_grown z.2 hgr fun k hk => by
          have := hk.1.2
          rw [hv] at this
          exact this
        obtain ⟨r1, r2, r3⟩ := Kd.R_reads' hz
        exact ⟨r1, by omega, r3, r3.2.1⟩
      have rx := rd x
      have ry := rd y
      obtain ⟨⟨⟨⟨xa, xl, xc⟩, xs, xt⟩, hx⟩, rfl⟩ : ∃ z, z = x := ⟨x, rfl⟩
      obtain ⟨⟨⟨⟨ya, yl, yc⟩, ys, yt⟩, hy⟩, rfl⟩ : ∃ z, z = y := ⟨y, rfl⟩
      obtain rfl : xl = xs.length := rx.len
      obtain rfl : yl = ys.length := ry.len
      obtain ⟨k, hk⟩ := compare_lt xs ys rx.small
      refine (slices_Compare_int_int.calls k xa xc xs ya yc ys _ _ rx.row rx.cap ry.row ry.cap hk).mono ?_
      rintro e w' ⟨he, ⟨q, hq⟩⟩
      exact ⟨he, q, #[], by rw [hq, grow_empty]⟩
    have hO : SWO (ltOf cf) := ⟨fun x => by rw [hlt]; exact Lex.lt_irrefl _, fun x y z a b => by rw [hlt] at *; exact Lex.lt_trans _ _ _ a b, fun x y z a b => by rw [hlt] at *; exact Lex.le_trans b a⟩
    have hcon := Any.slices_SortFunc Try.lSortFI encT (fun _ => rfl) cf hO 81 #[] g 0 cap qs.toArray w eg hcmp hH hg (by simp; omega)
    rw [hv]
    have hz : qs.toArray.size = qs.length := by simp
    rw [hz] at hcon
    refine hcon.mono ?_
    rintro e w' ⟨he, d', n, os, hP, hSd, rfl⟩
    obtain ⟨ts, rfl⟩ : ∃ ts : List T, ts.toArray = d' := ⟨d'.toList, by simp⟩
    have hsz : ts.length = qs.length := by have := hP.1; simpa using this
    have hperm : ts.Perm qs := by
      have h9 := hP.2.2
      simp only [List.extract_toArray, List.extract_eq_take_drop, List.drop_zero, Nat.sub_zero, List.size_toArray] at h9
      rw [← hsz, List.take_length, hsz, List.take_length] at h9
      exact h9
    obtain ⟨hR, hG⟩ := hS n os ts hsz
    rw [← hv]
    refine ⟨he, ?_, hG⟩
    have hpr : (ts.map (·.1)).Perm ps := by have := hperm.map (·.1); rwa [hqs] at this
    have hlist : (ts.map (·.1)).map (·.2.1) = Lex.sort rows := by
      refine Lex.sort_eq (by rw [← e1]; exact hpr.map _) ?_
      unfold Lex.Sorted
      rw [List.pairwise_map, List.pairwise_map, List.pairwise_iff_getElem]
      intro i j hi hj hij
      have := hSd i j (Nat.zero_le _) hij (by simpa using hsz ▸ hj)
      rw [hlt] at this
      simpa [hi, hj] using this
    rw [← hlist]
    refine S_of_els (f := f) ?_ ?_ fun p hp => ?_
    · refine Kd.R_of_own ?_ h3.1
      have ho := Kd.own_of_R hR
      have : encs encT ts = encs encSV ((ts.map (·.1)).map (·.1)) := by simp [encs, encT]
      rw [this] at ho
      rw [List.length_map, List.length_map]
      exact ho
    · exact (hpr.map (·.2.2)).nodup_iff.2 (by rw [e2]; exact List.nodup_range)
    · obtain ⟨q, _, rfl⟩ := List.mem_map.1 hp
      exact Kd.R_grown q.2 hG fun k hk => hk.1.2
end Go.Proofs.Ytggocekjhohhcaa.P

/- What pieces hands back. -/
namespace Go.Proofs.Ytggocekjhohhcaa.P
set_option linter.unusedVariables false
set_option linter.unusedSimpArgs false
open Go.RowKit Go.Proofs.YtggocekjhohhcaaW.PrintWords Go.Proofs.YtggocekjhohhcaaW.PrintLast Go.Proofs.YtggocekjhohhcaaW.PrintMore
def dpair (d : Dia) : Int × Int := (d.f0, d.f1)
theorem seg_succ (i : Nat) : Cut.seg 0 ((i : Int) + 1 - 1) = Cut.seg 0 ((i : Int) - 1) ++ [(i : Int)] := by
  unfold Cut.seg
  rw [show ((i : Int) + 1 - 1 + 1 - 0).toNat = i + 1 from by omega, show ((i : Int) - 1 + 1 - 0).toNat = i from by omega, List.range_succ, List.map_append]
  simp
def cutAll (n : Int) (ds : List Dia) : List (List Int) := (ds.map dpair).foldl Cut.cutOne [Cut.seg 0 (n - 1)]
theorem cutAll_take {n : Int} {ds : List Dia} {i : Nat} (h : i < ds.length) : cutAll n (ds.take (i + 1)) = Cut.cutOne (cutAll n (ds.take i)) (dpair ds[i]) := by
  unfold cutAll
  rw [List.take_succ_eq_append_getElem h, List.map_append, List.foldl_append]
  rfl
theorem foldl_sorted : ∀ (ds : List (Int × Int)) (rows : List (List Int)), (∀ r ∈ rows, r.Pairwise (· < ·)) → ∀ r ∈ ds.foldl Cut.cutOne rows, r.Pairwise (· < ·)
  | [], _, h => h
  | d :: ds, rows, h => foldl_sorted ds _ (Cut.cutOne_sorted h)
theorem cutAll_sorted (n : Int) (ds : List Dia) : ∀ r ∈ cutAll n ds, r.Pairwise (· < ·) := foldl_sorted _ _ fun r hr => by
  rw [List.mem_singleton] at hr; subst hr; exact Cut.seg_sorted _ _
theorem foldl_length : ∀ (ds : List (Int × Int)) (rows : List (List Int)), (ds.foldl Cut.cutOne rows).length ≤ rows.length + ds.length
  | [], _ => Nat.le_refl _
  | d :: ds, rows => by
    have := foldl_length ds (Cut.cutOne rows d)
    have := Cut.cutOne_length d rows
    simp only [List.foldl_cons, List.length_cons]
    omega
theorem cutAll_length (n : Int) (ds : List Dia) : (cutAll n ds).length ≤ ds.length + 1 := by
  have := foldl_length (ds.map dpair) [Cut.seg 0 (n - 1)]
  rw [List.length_map, List.length_singleton] at this
  unfold cutAll
  omega
theorem cutStep_len (N : Nat) (d : Int × Int) : ∀ (rows : List (List Int)), (∀ r ∈ rows, r.length ≤ N) → (∀ r ∈ (Cut.cutStep d rows).1, r.length ≤ N) ∧ ∀ r ∈ (Cut.cutStep d rows).2, r.length ≤ N
  | [], _ => ⟨fun _ h => (by cases h), fun _ h => (by cases h)⟩
  | p :: rows, h => by
    have h0 := h p (by simp)
    have ih := cutStep_len N d rows (fun r hr => h r (List.mem_cons_of_mem _ hr))
    rw [Cut.cutStep]
    split
    · refine ⟨fun r hr => ?_, fun r hr => ?_⟩
      · rcases List.mem_cons.1 hr with rfl | hr
        · exact Nat.le_trans (List.length_filter_le _ _) h0
        · exact h r (List.mem_cons_of_mem _ hr)
      · rw [List.mem_singleton] at hr; subst hr; exact Nat.le_trans (List.length_filter_le _ _) h0
    · refine ⟨fun r hr => ?_, ih.2⟩
      rcases List.mem_cons.1 hr with rfl | hr
      · exact h0
      · exact ih.1 r hr
theorem foldl_len (N : Nat) : ∀ (ds : List (Int × Int)) (rows : List (List Int)), (∀ r ∈ rows, r.length ≤ N) → ∀ r ∈ ds.foldl Cut.cutOne rows, r.length ≤ N
  | [], _, h => h
  | d :: ds, rows, h => foldl_len N ds _ fun r hr => by
    rcases List.mem_append.1 hr with hr | hr
    · exact (cutStep_len N d rows h).1 r hr
    · exact (cutStep_len N d rows h).2 r hr
theorem cutAll_len (n : Nat) (ds : List Dia) : ∀ r ∈ cutAll n ds, r.length ≤ n := foldl_len n _ _ fun r hr => by
  rw [List.mem_singleton] at hr; subst hr
  unfold Cut.seg; rw [List.length_map, List.length_range]; omega
theorem idxI_in {l : List Int} {x : Int} (h : x ∈ l) : ∃ a : Nat, ∃ ha : a < l.length, idxI l x = (a : Int) ∧ l[a] = x := by
  have h1 : l.idxOf x < l.length := List.idxOf_lt_length_iff.2 h
  exact ⟨l.idxOf x, h1, by unfold idxI; rw [if_pos h], List.getElem_idxOf h1⟩
theorem idxI_out {l : List Int} {x : Int} (h : ¬ x ∈ l) : idxI l x = -1 := by unfold idxI; rw [if_neg h]
theorem S_store1 {w : World} {base N g n cap m : Nat} {rows : List (List Int)} {row : List Int} {v : Value} (h : Kd.S kRow 34 w base (fun k => True ∧ ¬ N ≤ k) (.slice (some ⟨g, 0, none⟩) n cap) rows) (hm : m < n) (hg : g < N)
    (hR : (Kd.int .i64).R 3 w base (fun k => N ≤ k) v row) :
    Kd.S kRow 34 (w.setCell ⟨g, m, none⟩ v) base (fun _ => True) (.slice (some ⟨g, 0, none⟩) n cap) (rows.set m row) := by
  obtain ⟨oki, c, hcl, hM, hcc, hfr, hoki, hH⟩ := Kd.S_elem h ([] : List Int) (m : Int) (by omega) (by omega)
  obtain ⟨vm, rfl, -⟩ := hM
  have h2 := (Kd.S_seg (ok := fun _ => True) (okg := fun k => N ≤ k) (okp := fun k => N ≤ k) (d := kRow) hH (by omega) (by omega) (seg := [v]) (j := 0) (Nat.le_refl 1) (x' := row) ⟨v, rfl, hR⟩ (fun k hk => Or.inr hk) (fun k hk => ⟨trivial, by omega⟩)).1
  rw [show ((m : Int).toNat * kRow.sz + 0) = m from by show (m : Int).toNat * 1 + 0 = m; omega, Int.toNat_natCast] at h2
  exact h2
theorem S_cellAt {w : World} {base g n cap m : Nat} {ok : Nat → Prop} {rows : List (List Int)} (h : Kd.S kRow 34 w base ok (.slice (some ⟨g, 0, none⟩) n cap) rows) (hm : m < n) (hn : n = rows.length) :
    ∃ (A : Option Addr) (c : Nat), w.cell? ⟨g, m, none⟩ = some (.slice A (rows[m]'(by omega)).length c) ∧ w.frozen? ⟨g, m, none⟩ = false ∧ (rows[m]'(by omega)).length ≤ c ∧ Kd.C (Kd.int .i64) w A (rows[m]'(by omega)).length (rows[m]'(by omega)) ∧ ∃ oki, (Kd.int .i64).R 3 w base oki (.slice A (rows[m]'(by omega)).length c) (rows[m]'(by omega)) ∧ ∀ k, oki k → k ≠ g := by
  have hlt3 : m < rows.length := by omega
  obtain ⟨oki, cm0, hcl, hM, hcc, hfr, hoki, hH⟩ := Kd.S_elem h ([] : List Int) (m : Int) (by omega) (by omega)
  obtain ⟨vm, rfl, hRm⟩ := hM
  have e : ((m : Int).toNat * kRow.sz + 0) = m := by show (m : Int).toNat * 1 + 0 = m; omega
  have hcm := hcc 0 vm rfl
  have hf := hfr 0
  rw [e] at hcm hf
  rw [show rows.getD (m : Int).toNat [] = rows[m] from by rw [Int.toNat_natCast, List.getD_eq_getElem?_getD, List.getElem?_eq_getElem hlt3]; rfl] at hRm
  obtain ⟨Am, cm, rfl, hcm2, hCm⟩ := Kd.R_reads hRm
  exact ⟨Am, cm, hcm, hf, hcm2, hCm, oki, hRm, fun k hk => (hoki k hk).2⟩
theorem cuts_at {A : Option Addr} {p : List Int} {c a b : Nat} (hc : p.length ≤ c) (ha : a < p.length) (hb : b < p.length) (hab : a < b) :
    ∃ A2 A3, (∀ W : World, (Instr.slice 34 (.slice A p.length c) none (some (.int .i64 ((a : Int) + 1))) none).run Try.prog W = .ok (.slice A (p.take (a + 1)).length c) W) ∧
      (∀ W : World, (Instr.slice 34 (.slice A p.length c) (some (.int .i64 (b : Int))) none none).run Try.prog W = .ok (.slice A2 (p.drop b).length (c - b)) W) ∧
      (∀ W : World, (Instr.slice 34 (.slice A p.length c) (some (.int .i64 (a : Int))) (some (.int .i64 ((b : Int) + 1))) none).run Try.prog W = .ok (.slice A3 ((p.take (b + 1)).drop a).length (c - a)) W) ∧
      (p.take (a + 1)).length ≤ c ∧ (p.drop b).length ≤ c - b ∧ ((p.take (b + 1)).drop a).length ≤ c - a ∧
      ∀ w, Kd.C (Kd.int .i64) w A p.length p → Kd.C (Kd.int .i64) w A (p.take (a + 1)).length (p.take (a + 1)) ∧ Kd.C (Kd.int .i64) w A2 (p.drop b).length (p.drop b) ∧ Kd.C (Kd.int .i64) w A3 ((p.take (b + 1)).drop a).length ((p.take (b + 1)).drop a) := by
  have hu34 := Try.underlying34
  obtain ⟨i0, hi0, _, hsz, _⟩ := info_parts intInfo
  have l1 : (p.take (a + 1)).length = a + 1 := by rw [List.length_take]; omega
  have l2 : (p.drop b).length = p.length - b := List.length_drop
  have l3 : ((p.take (b + 1)).drop a).length = b + 1 - a := by rw [List.length_drop, List.length_take]; omega
  refine ⟨if c = b then A else A.map (·.add (b * 1)), if c = a then A else A.map (·.add (a * 1)), ?_, ?_, ?_, by omega, by omega, by omega, fun w h => ⟨Kd.C_take h (by omega), Kd.C_drop h (by omega) hc, Kd.C_mid h (by omega) (by omega) hc⟩⟩
  · have h := cut_to (P := Try.prog) 34 3 .i64 hu34 hi0 A p.length c ((a : Int) + 1) (by omega) (by omega) hc
    rw [l1]
    rwa [show ((a : Int) + 1).toNat = a + 1 from by omega] at h
  · have h := cut_from (P := Try.prog) 34 3 .i64 hu34 hi0 1 hsz A p.length c (b : Int) (by omega) (by omega)
    rw [l2]
    rwa [show (b : Int).toNat = b from by omega] at h
  · have h := cut_mid (P := Try.prog) 34 3 .i64 .i64 hu34 hi0 1 hsz A p.length c (a : Int) ((b : Int) + 1) (by omega) (by omega) (by omega) hc
    rw [l3]
    rwa [show (a : Int).toNat = a from by omega, show ((b : Int) + 1).toNat = b + 1 from by omega] at h
noncomputable def t16 := rtab .any (opsOf Try.f43 16)
theorem tab16 : rtab .any (opsOf Try.f43 16) = t16 := by kernel_rfl
theorem w64_ {m : Nat} (h : m ≤ 5000) : wrap64 ((m : Int) + 1) = (m : Int) + 1 := by unfold wrap64; omega
theorem of_if_pos {c : Prop} [Decidable c] {p q : Prop} (hc : c) (h : p) : if c then p else q := by rw [if_pos hc]; exact h
theorem index_quiet {k : Nat} {A : Option Addr} {c : Nat} {p : List Int} {x r : Int} {w : World} (hC : Kd.C (Kd.int .i64) w A p.length p) (hc : p.length ≤ c) (h : slices_Index_int_int.f k p x = some r) (n : Nat) :
    Calls Try.prog 77 #[.slice A p.length c, .int .i64 x] (w.drewN n) fun e w' => e = .returned (.int .i64 r) ∧ ∃ m, w' = w.drewN m :=
  Calls.quiet_of ((slices_Index_int_int.calls k A c p x r (w.drewN n) (Kd.C_drewN hC n) hc h).mono fun _ _ h => ⟨h.1, h.2.out⟩)
set_option maxHeartbeats 4000000 in
set_option maxRecDepth 100000 in
theorem impl_pieces.walk (n : Nat) (A1 : Option Addr) (c1 : Nat) (ds : List Dia) (w : World) (hn : n ≤ 1000) (hr : Kd.C k59 w A1 ds.length ds) (hc : ds.length ≤ c1) (hd : ∀ d ∈ ds, d.f0 < d.f1) (hl : ds.length ≤ 1000) :
    Calls Try.prog 43 #[.int .i64 n, .slice A1 ds.length c1] w fun e w' => ∃ v, e = .returned v ∧ Kd.S kRow 34 w' w.heap.size (fun _ => True) v (Lex.sort (cutAll n ds)) ∧ Below w.heap.size w w' := by
  have HR := Aside0.mk hr
  have HD := Aside0.mk hd
  clear hr hd
  have hu24 := Try.underlying24
  have hu34 := Try.underlying34
  have hu3 := Try.underlying3
  have hu59 := Try.underlying59
  go_enter Try.func43, Try.ntmps43
  go_wp2_with ((with_reducible refine gate_dst (N := 14) rfl ?_); refine Kd.R_lit (Kd.int .i64) (w0 := w) w.heap.size 3 ?hg (N := 14) ?hd (xs := ([] : List Int)) (inner := []) (ok := fun _ => True) (okp := fun _ => True) ?hr ?hp (fun _ hk => hk) trivial (Below.refl _ _) (Nat.le_refl _) (by simp) ?_; (case hd => rfl); (case hg => rfl); (case hr => first | (go_simp; done) | (go_simp; rfl)); (case hp => exact (Reps.none _ _)); intro v14 w14 ho hb hg_ hn_; have H14 := Aside0.mk ho; have B14 := Aside0.mk hb; clear ho hb hg_ hn_)
  go_loopg [5, 16] n (fun gg v5 v16 wr => ∃ i : Nat, i ≤ n ∧ n - i ≤ gg ∧ v16 = .int .i64 i ∧ Aside0 ((Kd.int .i64).R 3 wr w.heap.size (fun _ => True) v5 (Cut.seg 0 ((i : Int) - 1))) ∧ Aside0 (Below w.heap.size w wr))
  case atStart => exact ⟨0, Nat.zero_le _, by omega, rfl, H14, B14⟩
  case round =>
    obtain ⟨i, hi, hg, rfl, HO, HB⟩ := hrel
    by_cases hlt : i < n
    · have hltz : (i : Int) < (n : Int) := by omega
      have HL := Aside0.mk (show (Cut.seg 0 ((i : Int) - 1)).length = i by unfold Cut.seg; rw [List.length_map, List.length_range]; omega)
      go_wp2_with ((with_reducible refine gate_builtin (b := .append) (xs := #[.tmp 19, .tmp 21]) rfl ?_); at_builtin; refine Kd.R_append (Kd.int .i64) (w0 := w) w.heap.size rfl (.tmp 19) (.tmp 21) 34 3 (.int .i64 0) 8 rfl hu34 intInfo rfl (by decide) (by omega) _ (Cut.seg 0 ((i : Int) - 1)) (i : Int) [.int .i64 i] (fun _ => True) (fun _ => False) rfl rfl rfl (fun _ hk => hk.elim) (fun _ _ => trivial) HO.out HB.out (below_size HB.out) (by rw [HL.out]; omega) ?_; intro v22 w22 ho hb hg_ hat; have H22 := Aside0.mk ho; have B22 := Aside0.mk hb; clear ho hb hg_ hat)
      go_roundg (n - (i + 1))
      case measure => omega
      case rel => exact ⟨i + 1, by omega, by omega, by go_num, ⟨by have h := H22.out; rw [← seg_succ] at h; exact h⟩, B22⟩
    · have hltz : ¬ (i : Int) < (n : Int) := by omega
      have e : i = n := by omega
      subst e
      obtain ⟨A5, c5, e5⟩ := Kd.R_slice HO.out
      subst e5
      go_wp2_with ((with_reducible refine gate_dst (N := 25) rfl ?_); refine Kd.S_lits kRow (w0 := w) w.heap.size 34 ?hg (N := 25) ?hd (xs := [Cut.seg 0 ((i : Int) - 1)]) (inner := [.slice A5 (Cut.seg 0 ((i : Int) - 1)).length c5]) (ok := fun _ => True) (fun j k => j = 0) ?hr ?hl ?hp ?ha (fun _ _ _ => trivial) trivial HB.out (below_size HB.out) (by simp) ?_; (case hd => rfl); (case hg => rfl); (case hr => first | (go_simp; done) | (go_simp; rfl)); (case hl => rfl); (case ha => intro a b k h1 h2; omega); (case hp => intro j x hj; match j, hj with | 0, hj => (have e := Option.some.inj hj; subst e; exact ⟨_, rfl, Kd.R_mono HO.out (fun _ _ => rfl)⟩) | j + 1, hj => cases hj); intro v25 w25 ho hb hg_ hn_; have H25 := Aside0.mk ho; have B25 := Aside0.mk hb; clear ho hb hg_ hn_)
      go_loopg [7, 28] ds.length (fun gg v7 v28 wl => ∃ j : Nat, j ≤ ds.length ∧ ds.length - j ≤ gg ∧ v28 = .int .i64 j ∧ Aside0 (Kd.S kRow 34 wl w.heap.size (fun _ => True) v7 (cutAll i (ds.take j))) ∧ Aside0 (Below w.heap.size w wl))
      case atStart => exact ⟨0, Nat.zero_le _, by omega, rfl, ⟨H25.out⟩, B25⟩
      case round =>
        obtain ⟨j, hj, hg2, rfl, HS, HBl⟩ := hrel
        by_cases hlt2 : j < ds.length
        · have hltz2 : (j : Int) < (ds.length : Int) := by omega
          obtain ⟨bd, od, hA1, hbd, hcd⟩ := dias_cells HR.out (by intro e; rw [e] at hlt2; cases hlt2)
          have hc0 := (HBl.out.cell (p := ⟨bd, od + j * 2 + 0, none⟩) hbd).trans (hcd j hlt2 0 _ rfl)
          have hc1 := (HBl.out.cell (p := ⟨bd, od + j * 2 + 1, none⟩) hbd).trans (hcd j hlt2 1 _ rfl)
          rw [show ds[j]! = ds[j] from by simp [hlt2]] at hc0 hc1
          have HLH := Aside0.mk (HD.out ds[j] (List.getElem_mem hlt2))
          have HTK := Aside0.mk (cutAll_take (n := (i : Int)) hlt2)
          have HSO := Aside0.mk (cutAll_sorted (i : Int) (ds.take j))
          have HSL := Aside0.mk (cutAll_len i (ds.take j))
          have HRL := Aside0.mk (show (cutAll (i : Int) (ds.take j)).length ≤ 1001 by have := cutAll_length (i : Int) (ds.take j); rw [List.length_take] at this; omega)
          subst hA1
          generalize ds[j] = d at hc0 hc1 HLH HTK
          generalize cutAll (i : Int) (ds.take j) = rows at HS HTK HSO HRL HSL
          obtain ⟨low, high⟩ := d
          have hd0 : wr.cell? ⟨bd, od + j * 2, none⟩ = some (.int .i64 low) := hc0
          have hd1 : wr.cell? ⟨bd, od + j * 2 + 1, none⟩ = some (.int .i64 high) := hc1
          clear hc0 hc1 hcd
          obtain ⟨A7, c7, e7, hl7, HC7⟩ := Kd.S_reads HS.out
          subst e7
          have HC7' := Aside0.mk HC7
          clear HC7
          go_upto_block 3 with (fail)
          go_cut [7] (fun v7 wc => Aside0 (Kd.S kRow 34 wc w.heap.size (fun _ => True) v7 (Cut.cutOne rows (low, high))) ∧ Aside0 (Below w.heap.size w wc))
          case first =>
            go_wp2_with ((with_reducible refine gate_dst (N := 9) rfl ?_); refine box_ 9 #[.int .i64 0, .int .i64 0] 59 ?_; intro gb hg_ wb hbox hbb; have BK := Aside0.mk hbox; have HBb := Aside0.mk hbb; have HGB := Aside0.mk hg_; clear hbox hbb hg_; obtain ⟨z0, z1, y0, y1⟩ := c2_ BK)
            have hS0 := Kd.S_set (Kd.S_set (Kd.S_below HS.out HBb.out) BK.out (by decide) 0 (.int .i64 low)) (blk_put BK.out 0 _ rfl) (by decide) 1 (.int .i64 high)
            have hB0 : Below w.heap.size w ((wb.setCell ⟨gb, 0, none⟩ (.int .i64 low)).setCell ⟨gb, 1, none⟩ (.int .i64 high)) := ((HBl.out.trans (HBb.out.mono HBl.out.size)).setCell (by rw [HGB.out]; exact HBl.out.size) _).setCell (by rw [HGB.out]; exact HBl.out.size) _
            have hbk : (((wb.setCell ⟨gb, 0, none⟩ (.int .i64 low)).setCell ⟨gb, 1, none⟩ (.int .i64 high)).heap[gb]? = some (.cells #[.int .i64 low, .int .i64 high] 59 (0, 0))) := blk_put (blk_put BK.out 0 (.int .i64 low) rfl) 1 (.int .i64 high) rfl
            have HW0 := Aside0.mk hS0
            have HWB := Aside0.mk hB0
            have HBK := Aside0.mk hbk
            clear hS0 hB0 hbk z0 z1 y0 y1 BK HBb HS HC7'
            generalize (wb.setCell ⟨gb, 0, none⟩ (.int .i64 low)).setCell ⟨gb, 1, none⟩ (.int .i64 high) = W0 at HW0 HWB HBK ⊢
            go_loopg [7, 34] rows.length (fun g3 v7 v34 w3 => v7 = .slice A7 rows.length c7 ∧ ∃ m : Nat, m ≤ rows.length ∧ rows.length - m ≤ g3 ∧ v34 = .int .i64 m ∧ Aside0 (∀ q (h : q < rows.length), q < m → ¬ (low ∈ rows[q] ∧ high ∈ rows[q])) ∧ Aside0 (Below W0.heap.size W0 w3))
            case atStart => exact ⟨rfl, 0, Nat.zero_le _, by omega, rfl, ⟨fun _ _ h => absurd h (Nat.not_lt_zero _)⟩, ⟨Below.refl _ _⟩⟩
            case round =>
              obtain ⟨rfl, m, hm, hg3, rfl, HNo, HB3⟩ := hrel
              by_cases hlt3 : m < rows.length
              · have hltz3 : (m : Int) < (rows.length : Int) := by omega
                have hrl := HRL.out
                have HS3 := Aside0.mk (Kd.S_below HW0.out HB3.out)
                obtain ⟨g7, cap7, e7, hbg7, hlg7, cells7, hcb7⟩ := Kd.S_form HS3.out (by omega)
                injection e7 with e7a e7b e7c
                subst e7a e7c
                obtain ⟨Am, cm, hcm, hfrm, hcm2, hCm, hRM⟩ := S_cellAt HS3.out hlt3 rfl
                have HRM := Aside0.mk hRM
                clear hRM
                have hsm := HSO.out _ (List.getElem_mem hlt3)
                have hln := HSL.out _ (List.getElem_mem hlt3)
                obtain ⟨z0, z1, y0, y1⟩ := c2_ ⟨blk_below HBK.out HB3.out⟩
                clear hcb7
                have HCM := Aside0.mk hCm
                have HSM := Aside0.mk hsm
                obtain ⟨kA, hkA⟩ := index_eq rows[m] low (by omega)
                obtain ⟨kB, hkB⟩ := index_eq rows[m] high (by omega)
                have HCL := Aside0.mk hcm2
                have HPL := Aside0.mk hln
                have HNXT := Aside0.mk (fun (h : ¬ (low ∈ rows[m] ∧ high ∈ rows[m])) => (fun q (hq : q < rows.length) (hqm : q < m + 1) => (by
                  by_cases e : q = m
                  · subst e; exact h
                  · exact HNo.out q hq (by omega) : ¬ (low ∈ rows[q] ∧ high ∈ rows[q]))))
                have HAT := Aside0.mk (Cut.cutStep_at (low, high) rows m hlt3 (fun q hq hqm => HNo.out q hq hqm))
                clear hCm hsm hcm2 hln
                generalize rows[m] = p at hcm HCM HSM hkA hkB HCL HPL HNXT HAT HRM
                by_cases hlo : low ∈ p
                · obtain ⟨a, ha, eA, pA⟩ := idxI_in hlo
                  have HKA := Aside0.mk (show slices_Index_int_int.f kA p low = some ((a : Nat) : Int) by rw [hkA, eA])
                  have ha0 : (0 : Int) ≤ (a : Int) := by omega
                  have HLO := Aside0.mk hlo
                  have HPA := Aside0.mk (show ∃ h : a < p.length, p[a] = low from ⟨ha, pA⟩)
                  clear hkA eA pA hlo ha
                  by_cases hhi : high ∈ p
                  · obtain ⟨b, hb, eB, pB⟩ := idxI_in hhi
                    have HKB := Aside0.mk (show slices_Index_int_int.f kB p high = some ((b : Nat) : Int) by rw [hkB, eB])
                    have hb0 : (0 : Int) ≤ (b : Int) := by omega
                    have HHI := Aside0.mk hhi
                    have HPB := Aside0.mk (show ∃ h : b < p.length, p[b] = high from ⟨hb, pB⟩)
                    clear hkB eB pB hhi hb
                    go_upto_region 14 with (fail)
                    have HIA := Aside0.mk (index_quiet HCM.out HCL.out HKA.out)
                    have HIB := Aside0.mk (index_quiet HCM.out HCL.out HKB.out)
                    go_quiet ((go_at_call 77; first | (with_reducible exact HIA.out _) | (with_reducible exact HIB.out _)))
                    go_upto_region 16 with (fail)
                    obtain ⟨ha, pA⟩ := HPA.out
                    obtain ⟨hb, pB⟩ := HPB.out
                    have hcp := Cut.cut_places HSM.out ha hb (by rw [pA, pB]; exact HLH.out)
                    rw [pA, pB] at hcp
                    have HCP := Aside0.mk hcp
                    have hab := hcp.1
                    have hlc := HCL.out
                    have hpl := HPL.out
                    clear hcp pA pB
                    obtain ⟨A2, A3, hto, hfrom, hmid, hl1, hl2, hl3, hCC⟩ := cuts_at (A := Am) hlc ha hb hab
                    have HCF := Aside0.mk hCC
                    have HCC := Aside0.mk (hCC _ HCM.out)
                    have hts : (p.take (a + 1)).length + (p.drop b).length ≤ 2000 := by rw [List.length_take, List.length_drop]; omega
                    have hms : ((p.take (b + 1)).drop a).length ≤ 2000 := by rw [List.length_drop, List.length_take]; omega
                    have HBn := Aside0.mk (pw_below_drewN (Below.refl wr.heap.size wr) nq)
                    clear hCC
                    generalize p.take (a + 1) = T at *
                    generalize p.drop b = D at *
                    generalize (p.take (b + 1)).drop a = M at *
                    generalize wr.drewN nq = W1 at HBn ⊢
                    have hw1 := w64_ (m := a) (by omega)
                    refine start_ (n := 13) (S := fun _ => True) (ds := []) (bT 0 13) (by kernel_rfl) rfl rfl trivial (fun hHeld => ?_); refine with_tab tab16 (fun HT_ => ?_)
                    have HBm := Aside0.mk (HBn.out.trans (below_drew1 (Below.refl _ W1)))
                    generalize W1.drew = W2 at HBm ⊢
                    refine pu_ HT_ 0 (some 53) (bT 1 13) ?_
                    refine pu_ HT_ 1 (some 54) (bT 2 13) ?_
                    refine pu_ HT_ 2 (some 55) (bT 3 13) ?_
                    refine pu_ HT_ 3 (some 56) (bT 4 13) ?_
                    refine pure_ (i := 4) (N := some 57) (v := ?_) (a' := ?_) (bT 5 13) rfl rfl (any_of HT_.out (by kernel_rfl)) (fun _ _ _ h => h) (Or.inl ⟨by rfl, ?_⟩) ?_ ?_; rotate_left; (· intro w'; go_simp; with_reducible rfl); rotate_left; (· simp only [Act.put, List.setIfInBounds_toArray, List.set_cons_zero, List.set_cons_succ, i64_w, i32_w, hw1]; rfl)
                    refine pure_ (i := 5) (N := some 58) (v := ?_) (a' := ?_) (bT 6 13) rfl rfl (any_of HT_.out (by kernel_rfl)) (fun _ _ _ h => h) (Or.inl ⟨by rfl, ?_⟩) ?_ ?_; rotate_left; (· intro w'; go_simp; with_reducible rfl); rotate_left; (· simp only [Act.put, List.setIfInBounds_toArray, List.set_cons_zero, List.set_cons_succ, i64_w, i32_w, hw1]; rfl)
                    refine pu_ HT_ 6 (some 59) (bT 7 13) ?_
                    refine pu_ HT_ 7 (some 60) (bT 8 13) ?_
                    refine pure_ (i := 8) (N := some 61) (v := ?_) (a' := ?_) (bT 9 13) rfl rfl (any_of HT_.out (by kernel_rfl)) (fun _ _ _ h => h) (Or.inl ⟨by rfl, ?_⟩) ?_ ?_; rotate_left; (· intro w'; go_simp; with_reducible rfl); rotate_left; (· simp only [Act.put, List.setIfInBounds_toArray, List.set_cons_zero, List.set_cons_succ, i64_w, i32_w, hw1]; rfl)
                    refine one_ (i := 9) (N := some 62) (bT 10 13) rfl rfl (one_of HT_.out (by kernel_rfl)) (by decide) (fun K hK => ?_)
                    refine Kd.R_lit_step kSV _ 34 ?hg (N := 62) ?hd (xs := ([(Am, T.length, cm), (A2, D.length, cm - b)] : List SV)) (inner := [.slice Am T.length cm, .slice A2 D.length (cm - b)]) (ok := fun _ => True) (okp := fun _ => True) ?hr ?hp (fun _ hk => hk) trivial (Below.refl _ _) (Nat.le_refl _) (by simp) ?_; (case hd => rfl); (case hg => rfl); (case hr => first | (go_simp; done) | (go_simp; rfl)); (case hp => exact (Reps.one (show Kd.M kSV _ _ _ (Am, T.length, cm) [.slice Am T.length cm] from rfl) (Reps.one (show Kd.M kSV _ _ _ (A2, D.length, cm - b) [.slice A2 D.length (cm - b)] from rfl) (Reps.none _ _))))
                    intro v62 w62 ho hb hg_ hnew_
                    clear hg_ hnew_
                    obtain ⟨A62, c62, e62, hl62, hC62⟩ := Kd.R_reads ho
                    subst e62
                    have HC62 := Aside0.mk hC62
                    have HB62 := Aside0.mk (HBm.out.trans (hb.mono HBm.out.size))
                    have HL62 := Aside0.mk hl62
                    clear hC62 hl62 ho hb
                    refine hK.out _ _ trivial (fun hHeld => ?_)
                    clear hK K
                    refine norm_ (a' := ?_) ?_ ?_
                    rotate_left
                    · show Act.put _ (some 62) _ = _
                      simp only [Act.put, List.setIfInBounds_toArray, List.set_cons_zero, List.set_cons_succ, i64_w, i32_w]
                      rfl
                    refine one_ (i := 10) (N := some 63) (bT 11 13) rfl rfl (one_of HT_.out (by kernel_rfl)) (by decide) (fun K hK => ?_)
                    refine goes_ Try.func78 (by kernel_rfl) rfl #[.slice A62 ([(Am, T.length, cm), (A2, D.length, cm - b)] : List SV).length c62] (by rfl) rfl rfl (by (try simp only [List.map_toArray, List.map_cons, List.map_nil]); rfl) ?_
                    have hC2 := HCC.out
                    refine (concat_ints A62 c62 [((Am, T.length, cm), T, 0), ((A2, D.length, cm - b), D, 0)] w62 HC62.out HL62.out (fun q hq => ?hrd) (by show (T ++ (D ++ [])).length ≤ _; rw [List.append_nil, List.length_append]; omega)).mono ?_
                    case hrd =>
                      rcases List.mem_cons.1 hq with rfl | hq
                      · exact ⟨rfl, hl1, Kd.C_below hC2.1 HB62.out, by show T.length ≤ _; omega⟩
                      · rw [List.mem_singleton] at hq; subst hq
                        exact ⟨rfl, hl2, Kd.C_below hC2.2.1 HB62.out, by show D.length ≤ _; omega⟩
                    rintro e w63 ⟨v63, rfl, ho, hb⟩
                    obtain ⟨A63, c63, e63⟩ := Kd.R_slice ho
                    subst e63
                    obtain ⟨U, hU⟩ : ∃ U, U = T ++ D := ⟨_, rfl⟩
                    rw [show flat [((Am, T.length, cm), T, 0), ((A2, D.length, cm - b), D, 0)] = U from by rw [hU]; simp [flat]] at ho ⊢
                    have HU := Aside0.mk hU
                    clear hU
                    have HR63 := Aside0.mk (Kd.R_mono (ok' := fun k => w62.heap.size ≤ k) (Kd.R_lower (Kd.R_tight rfl ho) (show w.heap.size ≤ w62.heap.size from Nat.le_trans HWB.out.size (Nat.le_trans HB3.out.size HB62.out.size))) (fun k hk => Kd.R_base ho k hk.symm))
                    have HB63 := Aside0.mk (HB62.out.trans (hb.mono HB62.out.size))
                    have HZ62 := Aside0.mk HB62.out.size
                    clear ho hb hC2
                    refine ⟨_, rfl, ?_⟩
                    refine hK.out _ _ trivial (fun hHeld => ?_)
                    clear hK K
                    refine norm_ (a' := ?_) ?_ ?_
                    rotate_left
                    · show Act.put _ (some 63) _ = _
                      simp only [Act.put, List.setIfInBounds_toArray, List.set_cons_zero, List.set_cons_succ, i64_w, i32_w]
                      rfl
                    have hS63 : Kd.S kRow 34 w63 w.heap.size (fun k => True ∧ ¬ w62.heap.size ≤ k) (.slice (some ⟨g7, 0, none⟩) rows.length c7) rows :=
                      Kd.S_mono (Kd.S_below (Kd.S_bound HS3.out) HB63.out) (fun k hk => ⟨trivial, by have h1 := hk.2.2.1; have h2 := HZ62.out; omega⟩)
                    obtain ⟨A0_, c0_, hc0_, hf0_, -, -, -⟩ := S_cellAt hS63 hlt3 rfl
                    have HS63 := Aside0.mk hS63
                    clear hS63
                    refine pu_ HT_ 11 (some 64) (bT 12 13) ?_
                    refine one_ (i := 12) (N := none) (bT 13 13) rfl rfl (one_of HT_.out (by kernel_rfl)) (by decide) (fun K hK => ?_)
                    refine of_if_pos (by rfl) ?_
                    go_simp
                    refine hK.out _ _ trivial (fun hHeld => ?_)
                    clear hK K
                    refine done_ (done_of HT_.out (by kernel_rfl)) ?_
                    have HS64 := Aside0.mk (S_store1 HS63.out hlt3 (Nat.lt_of_lt_of_le hlg7 HZ62.out) HR63.out)
                    have HB64 := Aside0.mk (((HWB.out.trans (HB3.out.mono HWB.out.size)).trans (HB63.out.mono (Nat.le_trans HWB.out.size HB3.out.size))).setCell (p := ⟨g7, m, none⟩) hbg7 (.slice A63 U.length c63))
                    have hC64 : Kd.C (Kd.int .i64) (w63.setCell ⟨g7, m, none⟩ (.slice A63 U.length c63)) Am p.length p := by
                      obtain ⟨oki, hR, hne⟩ := HRM.out
                      exact (Kd.R_reads' (Kd.R_far (p := ⟨g7, m, none⟩) (Kd.R_below hR HB63.out) hne (.slice A63 U.length c63))).2.2
                    have HC64 := Aside0.mk (HCF.out _ hC64).2.2
                    have HL64 := Aside0.mk (show rows.length + 1 ≤ 2000 by have := HRL.out; omega)
                    have hg64 := Kd.S_lt HS64.out g7 (by simp [Value.ownBlock])
                    clear hC64 hc0_ hf0_
                    generalize w63.setCell ⟨g7, m, none⟩ (.slice A63 U.length c63) = w64 at HS64 HB64 HC64 hg64 ⊢
                    have HG64 := Aside0.mk hg64
                    have HMM := Aside0.mk hms
                    clear hg64
                    go_wp2_with (first
                      | (go_at_call 79; refine (clone_ints A3 (cm - a) M w64 HC64.out hl3 (by omega)).mono ?_; rintro e w71 ⟨v71, rfl, ho, hb⟩; obtain ⟨A71, c71, e71⟩ := Kd.R_slice ho; subst e71; have HR71 := Aside0.mk (Kd.R_mono (ok' := fun k => w64.heap.size ≤ k) (Kd.R_lower (Kd.R_tight rfl ho) HB64.out.size) (fun k hk => Kd.R_base ho k hk.symm)); have HB71 := Aside0.mk (HB64.out.trans (hb.mono HB64.out.size)); have HS71 := Aside0.mk (Kd.S_mono (ok' := fun k => True ∧ ¬ w64.heap.size ≤ k) (Kd.S_below (Kd.S_bound HS64.out) hb) (fun k hk => ⟨trivial, by have h1 := hk.2.2.1; omega⟩)); clear ho hb)
                      | ((with_reducible refine gate_builtin (b := .append) (xs := #[.tmp 65, .tmp 72]) rfl ?_); at_builtin; refine Kd.S_append kRow (w0 := w) w.heap.size rfl (.tmp 65) (.tmp 72) 24 34 (.slice none 0 0) 24 rfl hu24 rowInfo rfl (by decide) (by omega) (.slice (some ⟨g7, 0, none⟩) rows.length c7) (rows.set m U) M [.slice A71 M.length c71] (fun _ => True) (fun k => w64.heap.size ≤ k) rfl rfl ⟨_, rfl, HR71.out⟩ (fun k hk => ⟨trivial, by have h1 := HG64.out; intro e; simp [Value.ownBlock] at e; omega⟩) (fun _ _ => trivial) HS71.out HB71.out (below_size HB71.out) (by rw [List.length_set]; have := HL64.out; omega) ?_; intro v73 w73 ho hb hg_ hat; have H73 := Aside0.mk ho; have B73 := Aside0.mk hb; clear ho hb hg_ hat))
                    go_meet
                    case rel =>
                      have hc1 := HAT.out HLO.out HHI.out
                      obtain ⟨-, hT, hM⟩ := HCP.out
                      refine ⟨⟨?_⟩, B73⟩
                      unfold Cut.cutOne
                      rw [hc1, ← hT, ← hM, ← HU.out]
                      exact H73.out
                  · have eB := idxI_out hhi
                    have HKB := Aside0.mk (show slices_Index_int_int.f kB p high = some (-1) by rw [hkB, eB])
                    have HX := Aside0.mk (HNXT.out fun h => hhi h.2)
                    clear hkB eB hhi
                    go_upto_region 14 with (fail)
                    have HIA := Aside0.mk (index_quiet HCM.out HCL.out HKA.out)
                    have HIB := Aside0.mk (index_quiet HCM.out HCL.out HKB.out)
                    go_quiet ((go_at_call 77; first | (with_reducible exact HIA.out _) | (with_reducible exact HIB.out _)))
                    go_wp2
                    go_roundg (rows.length - (m + 1))
                    case measure => omega
                    case rel => exact ⟨rfl, m + 1, by omega, by omega, by go_num, HX, ⟨pw_below_drewN HB3.out _⟩⟩
                · have eA := idxI_out hlo
                  have HKA := Aside0.mk (show slices_Index_int_int.f kA p low = some (-1) by rw [hkA, eA])
                  have HX := Aside0.mk (HNXT.out fun h => hlo h.1)
                  clear hkA eA hlo
                  have HKB := Aside0.mk hkB
                  generalize idxI p high = ib at HKB
                  clear hkB
                  go_upto_region 14 with (fail)
                  have HIA := Aside0.mk (index_quiet HCM.out HCL.out HKA.out)
                  have HIB := Aside0.mk (index_quiet HCM.out HCL.out HKB.out)
                  go_quiet ((go_at_call 77; first | (with_reducible exact HIA.out _) | (with_reducible exact HIB.out _)))
                  go_wp2
                  go_roundg (rows.length - (m + 1))
                  case measure => omega
                  case rel => exact ⟨rfl, m + 1, by omega, by omega, by go_num, HX, ⟨pw_below_drewN HB3.out _⟩⟩
              · have hltz3 : ¬ (m : Int) < (rows.length : Int) := by omega
                have e : m = rows.length := by omega
                subst e
                go_wp2
                go_meet
                case rel =>
                  have hnone := Cut.cutStep_none (low, high) rows (fun q h => HNo.out q h h)
                  refine ⟨⟨?_⟩, ⟨HWB.out.trans (HB3.out.mono HWB.out.size)⟩⟩
                  unfold Cut.cutOne
                  rw [hnone]
                  rw [List.append_nil]
                  exact Kd.S_below HW0.out HB3.out
          case rest =>
            obtain ⟨HS2, HB2⟩ := hcut
            go_wp2
            go_roundg (ds.length - (j + 1))
            case measure => omega
            case rel => exact ⟨j + 1, by omega, by omega, by go_num, ⟨by rw [HTK.out]; exact HS2.out⟩, HB2⟩
        · have hltz2 : ¬ (j : Int) < (ds.length : Int) := by omega
          have e : j = ds.length := by omega
          subst e
          rw [List.take_length] at HS
          have HLn := Aside0.mk (show (cutAll i ds).length < 4611686018427387904 by have := cutAll_length i ds; omega)
          go_wp2_with (go_at_call 80; refine (sort_rows _ _ _ _ _ HS.out HLn.out).mono ?_; rintro e w77 ⟨rfl, ho, hgr⟩; have H77 := Aside0.mk ho; have B77 := Aside0.mk (HBl.out.grown hgr (below_size HBl.out) (Kd.S_base HS.out)); clear ho hgr)
          go_ret
          exact ⟨_, rfl, H77.out, B77.out⟩
end Go.Proofs.Ytggocekjhohhcaa.P

-- By a program of this session.
namespace Go.Proofs.Ytggocekjhohhcaa.P
open Go.RowKit Go.Proofs.YtggocekjhohhcaaW.PrintWords Go.Proofs.YtggocekjhohhcaaW.PrintLast Go.Proofs.YtggocekjhohhcaaW.PrintMore
attribute [local go_sem] max2_int min2_int max_two min_two max_three min_three max_four min_four
set_option linter.unusedVariables false
set_option linter.unusedSimpArgs false

/-! ### spec_poJoined: function 71 -/
mutual
def spec_poJoined.j0 : Nat → List (S59) → Int → Int → Bool → Option (Bool)
 | 0, _, _, _, _ => none
 | k + 1, x1, x2, x3, x22 => if x22 = true then (some true) else (spec_poJoined.l0 k x2 x3 x1 (x1.length : Int) 0)
def spec_poJoined.l0 : Nat → Int → Int → List (S59) → Int → Int → Option (Bool)
 | 0, _, _, _, _, _ => none
 | k + 1, x2, x3, x23, x24, x25 => if x25 < x24 then (if 0 ≤ x25 then (if x25 < (x23.length : Int) then (if ((rd_T59 x23 x25).f0) = x2 then (if ((rd_T59 x23 x25).f1) = x3 then (some true) else (spec_poJoined.l0 k x2 x3 x23 x24 (wrap64 (x25 + 1)))) else (spec_poJoined.l0 k x2 x3 x23 x24 (wrap64 (x25 + 1)))) else (none)) else (none)) else (some false)
end
def spec_poJoined.f (k : Nat) (a0 : Int) (l1 : List (S59)) (a2 : Int) (a3 : Int) : Option (Bool) := if (wrap64 (a3 - a2)) = 1 then (spec_poJoined.j0 k l1 a2 a3 true) else (spec_poJoined.j0 k l1 a2 a3 ((wrap64 (a3 - a2)) == (wrap64 (a0 - 1))))
theorem spec_poJoined.mono_l : ∀ k, (∀ y0 y1 y2 y3, LeO (spec_poJoined.j0 k y0 y1 y2 y3) (spec_poJoined.j0 (k + 1) y0 y1 y2 y3)) ∧ (∀ y0 y1 y2 y3 y4, LeO (spec_poJoined.l0 k y0 y1 y2 y3 y4) (spec_poJoined.l0 (k + 1) y0 y1 y2 y3 y4))
 | 0 => ⟨fun _ _ _ _ r h => by simp [spec_poJoined.j0] at h, fun _ _ _ _ _ r h => by simp [spec_poJoined.l0] at h⟩
 | k + 1 => by
  obtain ⟨ih0, ih1⟩ := spec_poJoined.mono_l k
  refine ⟨?_, ?_⟩
  ·intro y0 y1 y2 y3
   unfold spec_poJoined.j0
   repeat' first
   | (with_reducible exact ih0 _ _ _ _)
   | (with_reducible exact ih1 _ _ _ _ _)
   | (with_reducible exact LeO.refl _)
   | (with_reducible exact LeO.none _)
   | (with_reducible refine LeO.ite ?_ ?_)
   | (with_reducible refine LeO.bind ?_ (fun _ => ?_))
   | apply ih0
   | apply ih1
   | apply LeO.none
   | refine LeO.ite ?_ ?_
   | refine LeO.bind ?_ (fun _ => ?_)
  ·intro y0 y1 y2 y3 y4
   unfold spec_poJoined.l0
   repeat' first
   | (with_reducible exact ih0 _ _ _ _)
   | (with_reducible exact ih1 _ _ _ _ _)
   | (with_reducible exact LeO.refl _)
   | (with_reducible exact LeO.none _)
   | (with_reducible refine LeO.ite ?_ ?_)
   | (with_reducible refine LeO.bind ?_ (fun _ => ?_))
   | apply ih0
   | apply ih1
   | apply LeO.none
   | refine LeO.ite ?_ ?_
   | refine LeO.bind ?_ (fun _ => ?_)
theorem spec_poJoined.mono : ∀ a0 a1 a2 a3 k, LeO (spec_poJoined.f k a0 a1 a2 a3) (spec_poJoined.f (k + 1) a0 a1 a2 a3) := by
 intro a0 a1 a2 a3 k
 obtain ⟨ih0, ih1⟩ := spec_poJoined.mono_l k
 unfold spec_poJoined.f
 repeat' first
   | (with_reducible exact ih0 _ _ _ _)
   | (with_reducible exact ih1 _ _ _ _ _)
   | (with_reducible exact LeO.refl _)
   | (with_reducible exact LeO.none _)
   | (with_reducible refine LeO.ite ?_ ?_)
   | (with_reducible refine LeO.bind ?_ (fun _ => ?_))
   | apply ih0
   | apply ih1
   | apply LeO.none
   | refine LeO.ite ?_ ?_
   | refine LeO.bind ?_ (fun _ => ?_)
set_option maxHeartbeats 8000000 in
set_option maxRecDepth 100000 in
theorem spec_poJoined.calls (k : Nat) (a0 : Int) (A1 : Option Addr) (c1 : Nat) (l1 : List (S59)) (a2 : Int) (a3 : Int) (r : Bool) (w : World) (hr1 : Kd.C k59 w A1 l1.length l1) (hc1 : l1.length ≤ c1) (h : spec_poJoined.f k a0 l1 a2 a3 = some r) :
  Calls Try.prog 71 #[.int .i64 a0, .slice A1 l1.length c1, .int .i64 a2, .int .i64 a3] w fun e w' => e = .returned (.bool r) ∧ Below w.heap.size w w' := by
 have hu59 := Try.underlying59
 have HR1 := Aside0.mk hr1
 have HC1 := Aside0.mk hc1
 clear hr1 hc1
 have HB := Aside0.mk (Below.refl w.heap.size w)
 have H : (if (wrap64 (a3 - a2)) = 1 then (spec_poJoined.j0 k l1 a2 a3 true) else (spec_poJoined.j0 k l1 a2 a3 ((wrap64 (a3 - a2)) == (wrap64 (a0 - 1))))) = some r := h
 clear h
 have HC5 := Aside0.mk H
 clear H
 go_enter Try.func71, Try.ntmps71
 go_upto_region 1 with (fail)
 go_cut [22] (fun v22 wc => ∃ (kq : Nat) (x22_4 : Bool), v22 = .bool x22_4 ∧ Aside0 (spec_poJoined.j0 kq l1 a2 a3 x22_4 = some r) ∧ Aside0 (kq ≤ k) ∧ Aside0 (Below w.heap.size w wc))
 case first =>
  have H := HC5.out
  clear HC5
  by_cases c6 : (wrap64 (a3 - a2)) = 1
  ·rw [if_pos c6] at H
   have c6b0 : ((wrap64 (a3 - a2)) == 1) = true := beq_iff_eq.mpr c6
   have c6b1 : ((wrap64 (a3 - a2)) != 1) = false := bne_eq_false_iff_eq.mpr c6
   clear c6
   (first | rw [c6b0] | (simp only [i64_w, i32_w]; rw [c6b0]) | skip)
   have H' := Aside0.mk H
   clear H
   go_wp2
   go_meet
   case rel => exact ⟨_, (true), (by first | rfl | (simp; done) | (simp [*]; done)), H', ⟨by first | omega | exact Nat.le_refl _⟩, ⟨by repeat (first | (with_reducible first | exact HB.out | apply below_alloc | apply pw_below_drewN | apply below_drew1) | exact HB.out)⟩⟩
  ·rw [if_neg c6] at H
   have c6b0 : ((wrap64 (a3 - a2)) == 1) = false := beq_eq_false_iff_ne.mpr c6
   have c6b1 : ((wrap64 (a3 - a2)) != 1) = true := bne_iff_ne.mpr c6
   (first | rw [c6b0] | (simp only [i64_w, i32_w]; rw [c6b0]) | skip)
   have H' := Aside0.mk H
   clear H
   go_wp2
   go_meet
   case rel => exact ⟨_, (((wrap64 (a3 - a2)) == (wrap64 (a0 - 1)))), (by first | rfl | (simp; done) | (simp [*]; done)), H', ⟨by first | omega | exact Nat.le_refl _⟩, ⟨by repeat (first | (with_reducible first | exact HB.out | apply below_alloc | apply pw_below_drewN | apply below_drew1) | exact HB.out)⟩⟩
 case rest =>
  clear HC5
  (try clear c6);(try clear c6b0);(try clear c6b1)
  obtain ⟨kq, x22_4, rfl, HA, HJ4, HB⟩ := hcut
  cases kq with
  | zero => exact absurd HA.out (by simp [spec_poJoined.j0])
  | succ kj4 =>
   have H := HA.out
   clear HA
   simp only [spec_poJoined.j0] at H
   by_cases c7 : x22_4 = true
   ·subst c7
    rw [if_pos rfl] at H
    obtain rfl := Option.some.inj H
    simp only [Option.some.injEq, Prod.mk.injEq] at H
    obtain ⟨rfl⟩ := H
    go_wp2
    go_ret
    exact ⟨eqr, hk HB⟩
   ·replace c7 := Bool.eq_false_iff.mpr c7
    subst c7
    rw [if_neg (show ¬ (false = true) by decide)] at H
    have H' := Aside0.mk H
    clear H
    go_wp2
    go_loopg [25] kj4 (fun kq v25 w' => ∃ (x25_2 : Int), v25 = .int .i64 x25_2 ∧ Aside0 (spec_poJoined.l0 kq a2 a3 l1 (l1.length : Int) x25_2 = some r) ∧ Aside0 (kq ≤ kj4) ∧ Aside0 (Below w.heap.size w w'))
    case atStart => exact ⟨(0), (by first | rfl | (simp; done) | (simp [*]; done)), H', ⟨Nat.le_refl _⟩, ⟨by repeat (first | (with_reducible first | exact HB.out | apply below_alloc | apply pw_below_drewN | apply below_drew1) | exact HB.out)⟩⟩
    case round =>
     clear H'
     (try clear c6);(try clear c6b0);(try clear c6b1);(try clear c7)
     obtain ⟨x25_2, rfl, HA, HK2, HB⟩ := hrel
     cases gk with
     | zero => exact absurd HA.out (by simp [spec_poJoined.l0])
     | succ k2 =>
      have H := HA.out
      clear HA
      simp only [spec_poJoined.l0] at H
      by_cases c8 : x25_2 < (l1.length : Int)
      ·rw [if_pos c8] at H
       have c8b0 : decide (x25_2 < (l1.length : Int)) = true := decide_eq_true c8
       clear c8
       by_cases c9 : 0 ≤ x25_2
       ·rw [if_pos c9] at H
        have c9b0 : decide (0 ≤ x25_2) = true := decide_eq_true c9
        clear c9
        by_cases c10 : x25_2 < (l1.length : Int)
        ·rw [if_pos c10] at H
         have c10b0 : decide (x25_2 < (l1.length : Int)) = true := decide_eq_true c10
         clear c10
         by_cases c11 : ((rd_T59 l1 x25_2).f0) = a2
         ·rw [if_pos c11] at H
          have c11b0 : (((rd_T59 l1 x25_2).f0) == a2) = true := beq_iff_eq.mpr c11
          have c11b1 : (((rd_T59 l1 x25_2).f0) != a2) = false := bne_eq_false_iff_eq.mpr c11
          clear c11
          by_cases c12 : ((rd_T59 l1 x25_2).f1) = a3
          ·rw [if_pos c12] at H
           have c12b0 : (((rd_T59 l1 x25_2).f1) == a3) = true := beq_iff_eq.mpr c12
           have c12b1 : (((rd_T59 l1 x25_2).f1) != a3) = false := bne_eq_false_iff_eq.mpr c12
           clear c12
           obtain rfl := Option.some.inj H
           simp only [Option.some.injEq, Prod.mk.injEq] at H
           obtain ⟨rfl⟩ := H
           have p123 : 0 ≤ (x25_2 : Int) := of_decide_eq_true (by first | (with_reducible assumption) | assumption)
           have q123 : x25_2 < (l1.length : Int) := of_decide_eq_true (by first | (with_reducible assumption) | assumption)
           obtain ⟨ad123, e123, hx123_0, hx123_1⟩ := at_T59 HR1.out x25_2 p123 q123
           cases e123
           replace hx123_0 := (HB.out.cell (World.block_lt_of_cell? w _ hx123_0)).trans hx123_0
           replace hx123_1 := (HB.out.cell (World.block_lt_of_cell? w _ hx123_1)).trans hx123_1
           replace p123 := eq_true p123
           replace q123 := eq_true q123
           go_wp2_with (first | ((with_reducible refine gate_dst (N := 10) rfl ?_); refine box_ 10 #[.int .i64 0, .int .i64 0] 59 ?_; intro gb124 hg w13 hbox hb; have BK124 := Aside0.mk (hbox); have GW124 := ge_ HB hg; have GE124 := GW124; replace HB := hh HB hb; clear hb hbox hg; obtain ⟨z14a, z14b, y14a, y14b⟩ := c2_ BK124))
           go_ret
           exact ⟨eqr, hk HB⟩
          ·rw [if_neg c12] at H
           have c12b0 : (((rd_T59 l1 x25_2).f1) == a3) = false := beq_eq_false_iff_ne.mpr c12
           have c12b1 : (((rd_T59 l1 x25_2).f1) != a3) = true := bne_iff_ne.mpr c12
           have H' := Aside0.mk H
           clear H
           have p123 : 0 ≤ (x25_2 : Int) := of_decide_eq_true (by first | (with_reducible assumption) | assumption)
           have q123 : x25_2 < (l1.length : Int) := of_decide_eq_true (by first | (with_reducible assumption) | assumption)
           obtain ⟨ad123, e123, hx123_0, hx123_1⟩ := at_T59 HR1.out x25_2 p123 q123
           cases e123
           replace hx123_0 := (HB.out.cell (World.block_lt_of_cell? w _ hx123_0)).trans hx123_0
           replace hx123_1 := (HB.out.cell (World.block_lt_of_cell? w _ hx123_1)).trans hx123_1
           replace p123 := eq_true p123
           replace q123 := eq_true q123
           go_wp2_with (first | ((with_reducible refine gate_dst (N := 10) rfl ?_); refine box_ 10 #[.int .i64 0, .int .i64 0] 59 ?_; intro gb124 hg w15 hbox hb; have BK124 := Aside0.mk (hbox); have GW124 := ge_ HB hg; have GE124 := GW124; replace HB := hh HB hb; clear hb hbox hg; obtain ⟨z16a, z16b, y16a, y16b⟩ := c2_ BK124))
           go_roundg k2
           case measure => have := HJ4.out; have := HK2.out; omega
           case rel => exact ⟨(wrap64 (x25_2 + 1)), (by first | rfl | (simp; done) | (simp [*]; done)), H', ⟨by have := HJ4.out; have := HK2.out; omega⟩, ⟨by repeat (first | (with_reducible first | exact HB.out | apply below_alloc | apply pw_below_drewN | apply below_drew1 | refine below_set ?_ GE124.out) | exact HB.out)⟩⟩
         ·rw [if_neg c11] at H
          have c11b0 : (((rd_T59 l1 x25_2).f0) == a2) = false := beq_eq_false_iff_ne.mpr c11
          have c11b1 : (((rd_T59 l1 x25_2).f0) != a2) = true := bne_iff_ne.mpr c11
          have H' := Aside0.mk H
          clear H
          have p123 : 0 ≤ (x25_2 : Int) := of_decide_eq_true (by first | (with_reducible assumption) | assumption)
          have q123 : x25_2 < (l1.length : Int) := of_decide_eq_true (by first | (with_reducible assumption) | assumption)
          obtain ⟨ad123, e123, hx123_0, hx123_1⟩ := at_T59 HR1.out x25_2 p123 q123
          cases e123
          replace hx123_0 := (HB.out.cell (World.block_lt_of_cell? w _ hx123_0)).trans hx123_0
          replace hx123_1 := (HB.out.cell (World.block_lt_of_cell? w _ hx123_1)).trans hx123_1
          replace p123 := eq_true p123
          replace q123 := eq_true q123
          go_wp2_with (first | ((with_reducible refine gate_dst (N := 10) rfl ?_); refine box_ 10 #[.int .i64 0, .int .i64 0] 59 ?_; intro gb124 hg w17 hbox hb; have BK124 := Aside0.mk (hbox); have GW124 := ge_ HB hg; have GE124 := GW124; replace HB := hh HB hb; clear hb hbox hg; obtain ⟨z18a, z18b, y18a, y18b⟩ := c2_ BK124))
          go_roundg k2
          case measure => have := HJ4.out; have := HK2.out; omega
          case rel => exact ⟨(wrap64 (x25_2 + 1)), (by first | rfl | (simp; done) | (simp [*]; done)), H', ⟨by have := HJ4.out; have := HK2.out; omega⟩, ⟨by repeat (first | (with_reducible first | exact HB.out | apply below_alloc | apply pw_below_drewN | apply below_drew1 | refine below_set ?_ GE124.out) | exact HB.out)⟩⟩
        ·rw [if_neg c10] at H
         exact absurd H (by simp)
       ·rw [if_neg c9] at H
        exact absurd H (by simp)
      ·rw [if_neg c8] at H
       have c8b0 : decide (x25_2 < (l1.length : Int)) = false := decide_eq_false c8
       clear c8
       obtain rfl := Option.some.inj H
       simp only [Option.some.injEq, Prod.mk.injEq] at H
       obtain ⟨rfl⟩ := H
       go_wp2
       go_ret
       exact ⟨eqr, hk HB⟩

end Go.Proofs.Ytggocekjhohhcaa.P

-- By a program of this session.
namespace Go.Proofs.Ytggocekjhohhcaa.P
open Go.RowKit Go.Proofs.YtggocekjhohhcaaW.PrintWords Go.Proofs.YtggocekjhohhcaaW.PrintLast Go.Proofs.YtggocekjhohhcaaW.PrintMore
attribute [local go_sem] max2_int min2_int max_two min_two max_three min_three max_four min_four
set_option linter.unusedVariables false
set_option linter.unusedSimpArgs false

/-! ### spec_cuPieces: function 40 -/
mutual
def spec_cuPieces.l0 : Nat → Int → List (S59) → List (List Int) → List Bool → Int → Option ((List (List Int)))
 | 0, _, _, _, _, _ => none
 | k + 1, x0, x1, x5, x6, x7 => if x7 < x0 then (spec_cuPieces.l1 k x0 x1 x5 x6 x7 (wrap64 (x7 + 1))) else (some x5)
def spec_cuPieces.l1 : Nat → Int → List (S59) → List (List Int) → List Bool → Int → Int → Option ((List (List Int)))
 | 0, _, _, _, _, _, _ => none
 | k + 1, x0, x1, x5, x6, x7, x8 => if x8 < x0 then ((spec_poJoined.f k x0 x1 x7 x8).bind fun t146 => (if t146 = true then (if (wrap64 (x8 - x7)) = 1 then (spec_cuPieces.j2 k x0 x1 x5 x6 x7 x8 true) else (if 0 ≤ (wrap64 ((wrap64 (x7 * x0)) + x8)) then (if (wrap64 ((wrap64 (x7 * x0)) + x8)) < (x6.length : Int) then (spec_cuPieces.j2 k x0 x1 x5 x6 x7 x8 (rdOf false x6 (wrap64 ((wrap64 (x7 * x0)) + x8)))) else (none)) else (none))) else (spec_cuPieces.j2 k x0 x1 x5 x6 x7 x8 true))) else (spec_cuPieces.l0 k x0 x1 x5 x6 (wrap64 (x7 + 1)))
def spec_cuPieces.j2 : Nat → Int → List (S59) → List (List Int) → List Bool → Int → Int → Bool → Option ((List (List Int)))
 | 0, _, _, _, _, _, _, _ => none
 | k + 1, x0, x1, x5, x6, x7, x8, x50 => if x50 = true then (spec_cuPieces.l1 k x0 x1 x5 x6 x7 (wrap64 (x8 + 1))) else (if 0 ≤ (wrap64 ((wrap64 (x7 * x0)) + x8)) then (if (wrap64 ((wrap64 (x7 * x0)) + x8)) < (x6.length : Int) then (spec_cuPieces.l2 k x0 x1 x5 (x6.set ((wrap64 ((wrap64 (x7 * x0)) + x8)) : Int).toNat true) x7 x8 (([x7] : List Int)) x7) else (none)) else (none))
def spec_cuPieces.l2 : Nat → Int → List (S59) → List (List Int) → List Bool → Int → Int → List Int → Int → Option ((List (List Int)))
 | 0, _, _, _, _, _, _, _, _ => none
 | k + 1, x0, x1, x5, x6, x7, x8, x9, x10 => if x10 = x8 then (if x5.length < 5864062014805 then (spec_cuPieces.l1 k x0 x1 (x5 ++ [x9]) x6 x7 (wrap64 (x8 + 1))) else (none)) else (spec_cuPieces.l3 k x0 x1 x5 x6 x7 x8 x9 x10 (wrap64 (x10 + 1)) x8)
def spec_cuPieces.l3 : Nat → Int → List (S59) → List (List Int) → List Bool → Int → Int → List Int → Int → Int → Int → Option ((List (List Int)))
 | 0, _, _, _, _, _, _, _, _, _, _ => none
 | k + 1, x0, x1, x5, x6, x7, x8, x9, x10, x11, x12 => if x12 > x10 then ((spec_poJoined.f k x0 x1 x10 x12).bind fun t155 => (if t155 = true then (if x10 = x7 then (if x12 = x8 then (spec_cuPieces.l3 k x0 x1 x5 x6 x7 x8 x9 x10 x11 (wrap64 (x12 - 1))) else (if x9.length < 17592186044416 then (spec_cuPieces.l2 k x0 x1 x5 x6 x7 x8 (x9 ++ [x12]) x12) else (none))) else (if x9.length < 17592186044416 then (spec_cuPieces.l2 k x0 x1 x5 x6 x7 x8 (x9 ++ [x12]) x12) else (none))) else (spec_cuPieces.l3 k x0 x1 x5 x6 x7 x8 x9 x10 x11 (wrap64 (x12 - 1))))) else (if x9.length < 17592186044416 then (spec_cuPieces.l2 k x0 x1 x5 x6 x7 x8 (x9 ++ [x11]) x11) else (none))
end
def spec_cuPieces.f0 (k : Nat) (a0 : Int) (l1 : List (S59)) : Option ((List (List Int))) := if 0 ≤ (wrap64 (a0 * a0)) then (if (wrap64 (a0 * a0) : Int).toNat ≤ 281474976710656 then (spec_cuPieces.l0 k a0 l1 ([] : List (List Int)) (List.replicate (wrap64 (a0 * a0) : Int).toNat false) 0) else (none)) else (none)
theorem spec_cuPieces.mono_l : ∀ k, (∀ y0 y1 y2 y3 y4, LeO (spec_cuPieces.l0 k y0 y1 y2 y3 y4) (spec_cuPieces.l0 (k + 1) y0 y1 y2 y3 y4)) ∧ (∀ y0 y1 y2 y3 y4 y5, LeO (spec_cuPieces.l1 k y0 y1 y2 y3 y4 y5) (spec_cuPieces.l1 (k + 1) y0 y1 y2 y3 y4 y5)) ∧ (∀ y0 y1 y2 y3 y4 y5 y6, LeO (spec_cuPieces.j2 k y0 y1 y2 y3 y4 y5 y6) (spec_cuPieces.j2 (k + 1) y0 y1 y2 y3 y4 y5 y6)) ∧ (∀ y0 y1 y2 y3 y4 y5 y6 y7, LeO (spec_cuPieces.l2 k y0 y1 y2 y3 y4 y5 y6 y7) (spec_cuPieces.l2 (k + 1) y0 y1 y2 y3 y4 y5 y6 y7)) ∧ (∀ y0 y1 y2 y3 y4 y5 y6 y7 y8 y9, LeO (spec_cuPieces.l3 k y0 y1 y2 y3 y4 y5 y6 y7 y8 y9) (spec_cuPieces.l3 (k + 1) y0 y1 y2 y3 y4 y5 y6 y7 y8 y9))
 | 0 => ⟨fun _ _ _ _ _ r h => by simp [spec_cuPieces.l0] at h, fun _ _ _ _ _ _ r h => by simp [spec_cuPieces.l1] at h, fun _ _ _ _ _ _ _ r h => by simp [spec_cuPieces.j2] at h, fun _ _ _ _ _ _ _ _ r h => by simp [spec_cuPieces.l2] at h, fun _ _ _ _ _ _ _ _ _ _ r h => by simp [spec_cuPieces.l3] at h⟩
 | k + 1 => by
  obtain ⟨ih0, ih1, ih2, ih3, ih4⟩ := spec_cuPieces.mono_l k
  refine ⟨?_, ?_, ?_, ?_, ?_⟩
  ·intro y0 y1 y2 y3 y4
   unfold spec_cuPieces.l0
   repeat' first
   | (with_reducible exact ih0 _ _ _ _ _)
   | (with_reducible exact ih1 _ _ _ _ _ _)
   | (with_reducible exact ih2 _ _ _ _ _ _ _)
   | (with_reducible exact ih3 _ _ _ _ _ _ _ _)
   | (with_reducible exact ih4 _ _ _ _ _ _ _ _ _ _)
   | (with_reducible exact spec_poJoined.mono _ _ _ _ _)
   | (with_reducible exact LeO.refl _)
   | (with_reducible exact LeO.none _)
   | (with_reducible refine LeO.ite ?_ ?_)
   | (with_reducible refine LeO.bind ?_ (fun _ => ?_))
   | apply ih0
   | apply ih1
   | apply ih2
   | apply ih3
   | apply ih4
   | apply spec_poJoined.mono
   | apply LeO.none
   | refine LeO.ite ?_ ?_
   | refine LeO.bind ?_ (fun _ => ?_)
  ·intro y0 y1 y2 y3 y4 y5
   unfold spec_cuPieces.l1
   repeat' first
   | (with_reducible exact ih0 _ _ _ _ _)
   | (with_reducible exact ih1 _ _ _ _ _ _)
   | (with_reducible exact ih2 _ _ _ _ _ _ _)
   | (with_reducible exact ih3 _ _ _ _ _ _ _ _)
   | (with_reducible exact ih4 _ _ _ _ _ _ _ _ _ _)
   | (with_reducible exact spec_poJoined.mono _ _ _ _ _)
   | (with_reducible exact LeO.refl _)
   | (with_reducible exact LeO.none _)
   | (with_reducible refine LeO.ite ?_ ?_)
   | (with_reducible refine LeO.bind ?_ (fun _ => ?_))
   | apply ih0
   | apply ih1
   | apply ih2
   | apply ih3
   | apply ih4
   | apply spec_poJoined.mono
   | apply LeO.none
   | refine LeO.ite ?_ ?_
   | refine LeO.bind ?_ (fun _ => ?_)
  ·intro y0 y1 y2 y3 y4 y5 y6
   unfold spec_cuPieces.j2
   repeat' first
   | (with_reducible exact ih0 _ _ _ _ _)
   | (with_reducible exact ih1 _ _ _ _ _ _)
   | (with_reducible exact ih2 _ _ _ _ _ _ _)
   | (with_reducible exact ih3 _ _ _ _ _ _ _ _)
   | (with_reducible exact ih4 _ _ _ _ _ _ _ _ _ _)
   | (with_reducible exact spec_poJoined.mono _ _ _ _ _)
   | (with_reducible exact LeO.refl _)
   | (with_reducible exact LeO.none _)
   | (with_reducible refine LeO.ite ?_ ?_)
   | (with_reducible refine LeO.bind ?_ (fun _ => ?_))
   | apply ih0
   | apply ih1
   | apply ih2
   | apply ih3
   | apply ih4
   | apply spec_poJoined.mono
   | apply LeO.none
   | refine LeO.ite ?_ ?_
   | refine LeO.bind ?_ (fun _ => ?_)
  ·intro y0 y1 y2 y3 y4 y5 y6 y7
   unfold spec_cuPieces.l2
   repeat' first
   | (with_reducible exact ih0 _ _ _ _ _)
   | (with_reducible exact ih1 _ _ _ _ _ _)
   | (with_reducible exact ih2 _ _ _ _ _ _ _)
   | (with_reducible exact ih3 _ _ _ _ _ _ _ _)
   | (with_reducible exact ih4 _ _ _ _ _ _ _ _ _ _)
   | (with_reducible exact spec_poJoined.mono _ _ _ _ _)
   | (with_reducible exact LeO.refl _)
   | (with_reducible exact LeO.none _)
   | (with_reducible refine LeO.ite ?_ ?_)
   | (with_reducible refine LeO.bind ?_ (fun _ => ?_))
   | apply ih0
   | apply ih1
   | apply ih2
   | apply ih3
   | apply ih4
   | apply spec_poJoined.mono
   | apply LeO.none
   | refine LeO.ite ?_ ?_
   | refine LeO.bind ?_ (fun _ => ?_)
  ·intro y0 y1 y2 y3 y4 y5 y6 y7 y8 y9
   unfold spec_cuPieces.l3
   repeat' first
   | (with_reducible exact ih0 _ _ _ _ _)
   | (with_reducible exact ih1 _ _ _ _ _ _)
   | (with_reducible exact ih2 _ _ _ _ _ _ _)
   | (with_reducible exact ih3 _ _ _ _ _ _ _ _)
   | (with_reducible exact ih4 _ _ _ _ _ _ _ _ _ _)
   | (with_reducible exact spec_poJoined.mono _ _ _ _ _)
   | (with_reducible exact LeO.refl _)
   | (with_reducible exact LeO.none _)
   | (with_reducible refine LeO.ite ?_ ?_)
   | (with_reducible refine LeO.bind ?_ (fun _ => ?_))
   | apply ih0
   | apply ih1
   | apply ih2
   | apply ih3
   | apply ih4
   | apply spec_poJoined.mono
   | apply LeO.none
   | refine LeO.ite ?_ ?_
   | refine LeO.bind ?_ (fun _ => ?_)
theorem spec_cuPieces.mono0 : ∀ a0 a1 k, LeO (spec_cuPieces.f0 k a0 a1) (spec_cuPieces.f0 (k + 1) a0 a1) := by
 intro a0 a1 k
 obtain ⟨ih0, ih1, ih2, ih3, ih4⟩ := spec_cuPieces.mono_l k
 unfold spec_cuPieces.f0
 repeat' first
   | (with_reducible exact ih0 _ _ _ _ _)
   | (with_reducible exact ih1 _ _ _ _ _ _)
   | (with_reducible exact ih2 _ _ _ _ _ _ _)
   | (with_reducible exact ih3 _ _ _ _ _ _ _ _)
   | (with_reducible exact ih4 _ _ _ _ _ _ _ _ _ _)
   | (with_reducible exact spec_poJoined.mono _ _ _ _ _)
   | (with_reducible exact LeO.refl _)
   | (with_reducible exact LeO.none _)
   | (with_reducible refine LeO.ite ?_ ?_)
   | (with_reducible refine LeO.bind ?_ (fun _ => ?_))
   | apply ih0
   | apply ih1
   | apply ih2
   | apply ih3
   | apply ih4
   | apply spec_poJoined.mono
   | apply LeO.none
   | refine LeO.ite ?_ ?_
   | refine LeO.bind ?_ (fun _ => ?_)
set_option maxHeartbeats 8000000 in
set_option maxRecDepth 100000 in
theorem spec_cuPieces.calls0 (k : Nat) (a0 : Int) (A1 : Option Addr) (c1 : Nat) (l1 : List (S59)) (r : List (List Int)) (w : World) (hr1 : Kd.C k59 w A1 l1.length l1) (hc1 : l1.length ≤ c1) (hn : r.length ≤ 4294967296) (h : spec_cuPieces.f0 k a0 l1 = some r) :
  Calls Try.prog 40 #[.int .i64 a0, .slice A1 l1.length c1] w fun e w' => ∃ v0_ : Value, e = .returned (v0_) ∧ Kd.S (Kd.slice 3 (Kd.int .i64)) 34 w' w.heap.size (fun _ => True) v0_ (Lex.sort r) ∧ Below w.heap.size w w' := by
 have HR1 := Aside0.mk hr1
 have HC1 := Aside0.mk hc1
 clear hr1 hc1
 have HB := Aside0.mk (Below.refl w.heap.size w)
 have H := h
 clear h
 unfold spec_cuPieces.f0 at H
 obtain ⟨ji3, hji3⟩ : ∃ j_ : Int, (wrap64 (a0 * a0)) = j_ := ⟨_, rfl⟩
 replace H : (if 0 ≤ (ji3) then (if (ji3 : Int).toNat ≤ 281474976710656 then (spec_cuPieces.l0 k a0 l1 ([] : List (List Int)) (List.replicate (ji3 : Int).toNat false) 0) else (none)) else (none)) = some r := by first | (rw [hji3] at H; exact H) | (simp only [hji3] at H ⊢; exact H)
 have hji3w : (IntKind.i64.wrap (a0 * a0)) = ji3 := (i64_w _).trans hji3
 by_cases c4 : 0 ≤ (ji3)
 ·rw [if_pos c4] at H
  have c4b0 := eq_true c4
  have c4b1 : decide (0 ≤ (ji3)) = true := decide_eq_true c4
  clear c4
  by_cases c5 : (ji3 : Int).toNat ≤ 281474976710656
  ·rw [if_pos c5] at H
   have c5b0 := eq_true c5
   have c5b1 : decide ((ji3 : Int).toNat ≤ 281474976710656) = true := decide_eq_true c5
   clear c5
   obtain ⟨y143, hy143⟩ : ∃ y_ : List Bool, y_ = (List.replicate (ji3 : Int).toNat false) := ⟨_, rfl⟩
   replace H : (spec_cuPieces.l0 k a0 l1 ([] : List (List Int)) y143 0) = some r := by first | (rw [hy143]; with_reducible exact H) | (have H2_ := (Option.bind_some _ _).symm.trans H; rw [hy143]; with_reducible exact H2_) | (have H2_ := (Option.bind_some _ _).symm.trans H; with_reducible exact H2_) | with_reducible exact H | (rw [hy143]; exact H) | exact H
   have Ny143 := Aside0.mk hy143
   clear hy143
   have H' := Aside0.mk H
   clear H
   go_enter Try.func40, Try.ntmps40
   go_wp2_with (first | ((with_reducible refine gate_dst (N := 16) rfl ?_); refine Kd.R_make Kd.bool _ 4 rfl (N := 16) rfl 81 _ _ rfl ji3 rfl rfl Try.underlying81 (.bool false) 1 info4 rfl (by decide) (by omega) false (ok := fun _ => True) (okp := fun _ => True) rfl (fun _ hk => hk) trivial (of_decide_eq_true (by first | (with_reducible assumption) | assumption)) (Nat.le_trans (Nat.mul_le_mul_right _ (of_decide_eq_true (by first | (with_reducible assumption) | assumption) : ji3.toNat ≤ 281474976710656)) (by omega)) (Below.refl _ _) (Nat.le_refl _) ?_; intro v144 w6 ho7 hb hg_ hnew_; clear hg_ hnew_; (first | rw [← Ny143.out] at ho7 | (simp only [Int.reduceToNat] at ho7; rw [← Ny143.out] at ho7)); have HO145 := Aside0.mk (Kd.R_lower ho7 (below_size (hk HB))); replace HB := hh HB hb; clear hb ho7))
   go_loopg [5, 7] k (fun kq v5 v7 w' => ∃ (x5_1 : List (List Int)) (x6_1 : List Bool) (x7_1 : Int), v7 = .int .i64 x7_1 ∧ Aside0 (spec_cuPieces.l0 kq a0 l1 x5_1 x6_1 x7_1 = some r) ∧ Aside0 (kq ≤ k) ∧ Aside0 (Kd.S (Kd.slice 3 (Kd.int .i64)) 34 w' w.heap.size (fun _ => True) v5 x5_1) ∧ Aside0 (Kd.R Kd.bool 4 w' w.heap.size (fun _ => True) v144 x6_1) ∧ Aside0 (Below w.heap.size w w'))
   case atStart => exact ⟨(([] : List (List Int))), (y143), (0), (by first | rfl | (simp; done) | (simp [*]; done)), H', ⟨Nat.le_refl _⟩, ⟨by first | exact Kd.S_nil _ _ _ _ _ | exact Kd.N_nil _ _ _ _ _ | exact Kd.V_nil _ _ _ _ _ | exact Kd.Q_nil _ _ _ _ _ | exact Kd.R_nil _ _ _ _ _⟩, ⟨by (with_reducible repeat (first | apply Kd.R_alloc | apply Kd.R_drewN | apply Kd.R_drew)); exact HO145.out⟩, ⟨by repeat (first | (with_reducible first | exact HB.out | apply below_alloc | apply pw_below_drewN | apply below_drew1) | exact HB.out)⟩⟩
   case round =>
    clear H'
    (try clear c4);(try clear c4b0);(try clear c4b1);(try clear c5);(try clear c5b0);(try clear c5b1)
    obtain ⟨x5_1, x6_1, x7_1, rfl, HA, HK1, HO_5, HO_6, HB⟩ := hrel
    cases gk with
    | zero => exact absurd HA.out (by simp [spec_cuPieces.l0])
    | succ k1 =>
     have H := HA.out
     clear HA
     simp only [spec_cuPieces.l0] at H
     by_cases c8 : x7_1 < a0
     ·rw [if_pos c8] at H
      have c8b0 : decide (x7_1 < a0) = true := decide_eq_true c8
      clear c8
      have H' := Aside0.mk H
      clear H
      go_wp2
      go_loopg [5, 8] k1 (fun kq v5 v8 w' => ∃ (x5_2 : List (List Int)) (x6_2 : List Bool) (x8_2 : Int), v8 = .int .i64 x8_2 ∧ Aside0 (spec_cuPieces.l1 kq a0 l1 x5_2 x6_2 x7_1 x8_2 = some r) ∧ Aside0 (kq ≤ k1) ∧ Aside0 (Kd.S (Kd.slice 3 (Kd.int .i64)) 34 w' w.heap.size (fun _ => True) v5 x5_2) ∧ Aside0 (Kd.R Kd.bool 4 w' w.heap.size (fun _ => True) v144 x6_2) ∧ Aside0 (Below w.heap.size w w'))
      case atStart => exact ⟨(x5_1), (x6_1), (wrap64 (x7_1 + 1)), (by first | rfl | (simp; done) | (simp [*]; done)), H', ⟨Nat.le_refl _⟩, ⟨by (with_reducible repeat (first | apply Kd.S_alloc | apply Kd.S_drewN | apply Kd.S_drew)); exact HO_5.out⟩, ⟨by (with_reducible repeat (first | apply Kd.R_alloc | apply Kd.R_drewN | apply Kd.R_drew)); exact HO_6.out⟩, ⟨by repeat (first | (with_reducible first | exact HB.out | apply below_alloc | apply pw_below_drewN | apply below_drew1) | exact HB.out)⟩⟩
      case round =>
       clear H'
       (try clear c4);(try clear c4b0);(try clear c4b1);(try clear c5);(try clear c5b0);(try clear c5b1);(try clear c8);(try clear c8b0)
       obtain ⟨x5_2, x6_2, x8_2, rfl, HA, HK2, HO_5, HO_6, HB⟩ := hrel
       cases gk with
       | zero => exact absurd HA.out (by simp [spec_cuPieces.l1])
       | succ k2 =>
        have H := HA.out
        clear HA
        simp only [spec_cuPieces.l1] at H
        by_cases c9 : x8_2 < a0
        ·rw [if_pos c9] at H
         have c9b0 : decide (x8_2 < a0) = true := decide_eq_true c9
         clear c9
         have HC10 := Aside0.mk H
         clear H
         go_upto_region 9 with (fail)
         go_cut [50] (fun v50 wc => ∃ (kq : Nat) (x50_9 : Bool), v50 = .bool x50_9 ∧ Aside0 (spec_cuPieces.j2 kq a0 l1 x5_2 x6_2 x7_1 x8_2 x50_9 = some r) ∧ Aside0 (kq ≤ k2) ∧ Aside0 (Kd.S (Kd.slice 3 (Kd.int .i64)) 34 wc w.heap.size (fun _ => True) u5 x5_2) ∧ Aside0 (Kd.R Kd.bool 4 wc w.heap.size (fun _ => True) v144 x6_2) ∧ Aside0 (Below w.heap.size w wc))
         case first =>
          have H := HC10.out
          clear HC10
          replace H := Option.bind_eq_some_iff.mp H
          obtain ⟨t146, A110, H⟩ := H
          have A11 := Aside0.mk A110
          clear A110
          by_cases c12 : t146 = true
          ·subst c12
           rw [if_pos rfl] at H
           by_cases c13 : (wrap64 (x8_2 - x7_1)) = 1
           ·rw [if_pos c13] at H
            have c13b0 : ((wrap64 (x8_2 - x7_1)) == 1) = true := beq_iff_eq.mpr c13
            have c13b1 : ((wrap64 (x8_2 - x7_1)) != 1) = false := bne_eq_false_iff_eq.mpr c13
            clear c13
            (first | rw [c13b0] | (simp only [i64_w, i32_w]; rw [c13b0]) | skip)
            have H' := Aside0.mk H
            clear H
            go_wp2_with (first | ((with_reducible refine gate_callee (f := 71) rfl ?_); refine gof_ (some 33) Try.func71 #[.int .i64 a0, .slice A1 l1.length c1, .int .i64 x7_1, .int .i64 x8_2] ?_; (with_reducible refine (spec_poJoined.calls k2 a0 _ _ l1 x7_1 x8_2 true _ ?side1 ?side2 A11.out).mono ?_); (case side1 => repeat (first | exact (Kd.C_below HR1.out HB.out) | (with_reducible refine Kd.C_alloc ?_ _) | (with_reducible refine Kd.C_drewN ?_ _) | (with_reducible refine Kd.C_drew ?_))); (case side2 => exact HC1.out); rintro e w14 ⟨rfl, hb⟩; refine ⟨_, rfl, ?_⟩; replace HO_5 := Aside0.mk (Kd.S_below (by (with_reducible repeat (first | apply Kd.S_alloc | apply Kd.S_drewN | apply Kd.S_drew)); exact HO_5.out) hb); replace HO_6 := Aside0.mk (Kd.R_below (by (with_reducible repeat (first | apply Kd.R_alloc | apply Kd.R_drewN | apply Kd.R_drew)); exact HO_6.out) hb); replace HB := hh HB hb; clear hb))
            go_meet
            case rel => exact ⟨_, (true), (by first | rfl | (simp; done) | (simp [*]; done)), H', ⟨by have := HK1.out; have := HK2.out; first | omega | exact Nat.le_refl _⟩, ⟨by (with_reducible repeat (first | apply Kd.S_alloc | apply Kd.S_drewN | apply Kd.S_drew)); exact HO_5.out⟩, ⟨by (with_reducible repeat (first | apply Kd.R_alloc | apply Kd.R_drewN | apply Kd.R_drew)); exact HO_6.out⟩, ⟨by repeat (first | (with_reducible first | exact HB.out | apply below_alloc | apply pw_below_drewN | apply below_drew1) | exact HB.out)⟩⟩
           ·rw [if_neg c13] at H
            have c13b0 : ((wrap64 (x8_2 - x7_1)) == 1) = false := beq_eq_false_iff_ne.mpr c13
            have c13b1 : ((wrap64 (x8_2 - x7_1)) != 1) = true := bne_iff_ne.mpr c13
            (first | rw [c13b0] | (simp only [i64_w, i32_w]; rw [c13b0]) | skip)
            obtain ⟨ji15, hji15⟩ : ∃ j_ : Int, (wrap64 ((wrap64 (x7_1 * a0)) + x8_2)) = j_ := ⟨_, rfl⟩
            replace H : (if 0 ≤ (ji15) then (if (ji15) < (x6_2.length : Int) then (spec_cuPieces.j2 k2 a0 l1 x5_2 x6_2 x7_1 x8_2 (rdOf false x6_2 (ji15))) else (none)) else (none)) = some r := by first | (rw [hji15] at H; exact H) | (simp only [hji15] at H ⊢; exact H)
            (try rw [hji15] at A11)
            have hji15w : (IntKind.i64.wrap ((wrap64 (x7_1 * a0)) + x8_2)) = ji15 := (i64_w _).trans hji15
            by_cases c16 : 0 ≤ (ji15)
            ·rw [if_pos c16] at H
             have c16b0 : decide (0 ≤ (ji15)) = true := decide_eq_true c16
             clear c16
             by_cases c17 : (ji15) < (x6_2.length : Int)
             ·rw [if_pos c17] at H
              have c17b0 : decide ((ji15) < (x6_2.length : Int)) = true := decide_eq_true c17
              clear c17
              have H' := Aside0.mk H
              clear H
              go_wp2_with (first | ((with_reducible refine gate_callee (f := 71) rfl ?_); refine gof_ (some 33) Try.func71 #[.int .i64 a0, .slice A1 l1.length c1, .int .i64 x7_1, .int .i64 x8_2] ?_; (with_reducible refine (spec_poJoined.calls k2 a0 _ _ l1 x7_1 x8_2 true _ ?side1 ?side2 A11.out).mono ?_); (case side1 => repeat (first | exact (Kd.C_below HR1.out HB.out) | (with_reducible refine Kd.C_alloc ?_ _) | (with_reducible refine Kd.C_drewN ?_ _) | (with_reducible refine Kd.C_drew ?_))); (case side2 => exact HC1.out); rintro e w18 ⟨rfl, hb⟩; refine ⟨_, rfl, ?_⟩; replace HO_5 := Aside0.mk (Kd.S_below (by (with_reducible repeat (first | apply Kd.S_alloc | apply Kd.S_drewN | apply Kd.S_drew)); exact HO_5.out) hb); replace HO_6 := Aside0.mk (Kd.R_below (by (with_reducible repeat (first | apply Kd.R_alloc | apply Kd.R_drewN | apply Kd.R_drew)); exact HO_6.out) hb); replace HB := hh HB hb; clear hb; obtain ⟨Ao19, co19, eo19⟩ := Kd.R_slice HO_6.out; subst eo19; have p147 : 0 ≤ ((ji15) : Int) := of_decide_eq_true (by first | (with_reducible assumption) | assumption); have q147 : (ji15) < (x6_2.length : Int) := of_decide_eq_true (by first | (with_reducible assumption) | assumption); obtain ⟨ad147, e147, hx147_0⟩ := Kd.at_bool (Kd.R_reads' HO_6.out).2.2 (ji15) p147 q147; cases e147; replace p147 := eq_true p147; replace q147 := eq_true q147))
              go_meet
              case rel => exact ⟨_, (rdOf false x6_2 (ji15)), (by first | rfl | (simp; done) | (simp only [← hji15] <;> (first | rfl | simp)) | (simp [*]; done)), H', ⟨by have := HK1.out; have := HK2.out; first | omega | exact Nat.le_refl _⟩, ⟨by (with_reducible repeat (first | apply Kd.S_alloc | apply Kd.S_drewN | apply Kd.S_drew)); exact HO_5.out⟩, ⟨by (with_reducible repeat (first | apply Kd.R_alloc | apply Kd.R_drewN | apply Kd.R_drew)); exact HO_6.out⟩, ⟨by repeat (first | (with_reducible first | exact HB.out | apply below_alloc | apply pw_below_drewN | apply below_drew1) | exact HB.out)⟩⟩
             ·rw [if_neg c17] at H
              exact absurd H (by simp)
            ·rw [if_neg c16] at H
             exact absurd H (by simp)
          ·replace c12 := Bool.eq_false_iff.mpr c12
           subst c12
           rw [if_neg (show ¬ (false = true) by decide)] at H
           have H' := Aside0.mk H
           clear H
           go_wp2_with (first | ((with_reducible refine gate_callee (f := 71) rfl ?_); refine gof_ (some 33) Try.func71 #[.int .i64 a0, .slice A1 l1.length c1, .int .i64 x7_1, .int .i64 x8_2] ?_; (with_reducible refine (spec_poJoined.calls k2 a0 _ _ l1 x7_1 x8_2 false _ ?side1 ?side2 A11.out).mono ?_); (case side1 => repeat (first | exact (Kd.C_below HR1.out HB.out) | (with_reducible refine Kd.C_alloc ?_ _) | (with_reducible refine Kd.C_drewN ?_ _) | (with_reducible refine Kd.C_drew ?_))); (case side2 => exact HC1.out); rintro e w20 ⟨rfl, hb⟩; refine ⟨_, rfl, ?_⟩; replace HO_5 := Aside0.mk (Kd.S_below (by (with_reducible repeat (first | apply Kd.S_alloc | apply Kd.S_drewN | apply Kd.S_drew)); exact HO_5.out) hb); replace HO_6 := Aside0.mk (Kd.R_below (by (with_reducible repeat (first | apply Kd.R_alloc | apply Kd.R_drewN | apply Kd.R_drew)); exact HO_6.out) hb); replace HB := hh HB hb; clear hb))
           go_meet
           case rel => exact ⟨_, (true), (by first | rfl | (simp; done) | (simp [*]; done)), H', ⟨by have := HK1.out; have := HK2.out; first | omega | exact Nat.le_refl _⟩, ⟨by (with_reducible repeat (first | apply Kd.S_alloc | apply Kd.S_drewN | apply Kd.S_drew)); exact HO_5.out⟩, ⟨by (with_reducible repeat (first | apply Kd.R_alloc | apply Kd.R_drewN | apply Kd.R_drew)); exact HO_6.out⟩, ⟨by repeat (first | (with_reducible first | exact HB.out | apply below_alloc | apply pw_below_drewN | apply below_drew1) | exact HB.out)⟩⟩
         case rest =>
          clear HC10
          (try clear c1);(try clear c4);(try clear c4b0);(try clear c4b1);(try clear c5);(try clear c5b0);(try clear c5b1);(try clear c8);(try clear c8b0);(try clear c9);(try clear c9b0);(try clear c12);(try clear c13);(try clear c13b0);(try clear c13b1);(try clear c16);(try clear c16b0);(try clear c17);(try clear c17b0);(try clear hx147_0);(try clear p147);(try clear q147)
          obtain ⟨kq, x50_9, rfl, HA, HJ9, HO_5, HO_6, HB⟩ := hcut
          cases kq with
          | zero => exact absurd HA.out (by simp [spec_cuPieces.j2])
          | succ kj9 =>
           have H := HA.out
           clear HA
           simp only [spec_cuPieces.j2] at H
           by_cases c21 : x50_9 = true
           ·subst c21
            rw [if_pos rfl] at H
            have H' := Aside0.mk H
            clear H
            go_wp2
            go_roundg kj9
            case measure => have := HK1.out; have := HK2.out; have := HJ9.out; omega
            case rel => exact ⟨(x5_2), (x6_2), (wrap64 (x8_2 + 1)), (by first | rfl | (simp; done) | (simp [*]; done)), H', ⟨by have := HK1.out; have := HK2.out; have := HJ9.out; omega⟩, ⟨by (with_reducible repeat (first | apply Kd.S_alloc | apply Kd.S_drewN | apply Kd.S_drew)); exact HO_5.out⟩, ⟨by (with_reducible repeat (first | apply Kd.R_alloc | apply Kd.R_drewN | apply Kd.R_drew)); exact HO_6.out⟩, ⟨by repeat (first | (with_reducible first | exact HB.out | apply below_alloc | apply pw_below_drewN | apply below_drew1) | exact HB.out)⟩⟩
           ·replace c21 := Bool.eq_false_iff.mpr c21
            subst c21
            rw [if_neg (show ¬ (false = true) by decide)] at H
            obtain ⟨ji22, hji22⟩ : ∃ j_ : Int, (wrap64 ((wrap64 (x7_1 * a0)) + x8_2)) = j_ := ⟨_, rfl⟩
            replace H : (if 0 ≤ (ji22) then (if (ji22) < (x6_2.length : Int) then (spec_cuPieces.l2 kj9 a0 l1 x5_2 (x6_2.set ((ji22) : Int).toNat true) x7_1 x8_2 (([x7_1] : List Int)) x7_1) else (none)) else (none)) = some r := by first | (rw [hji22] at H; exact H) | (simp only [hji22] at H ⊢; exact H)
            have hji22w : (IntKind.i64.wrap ((wrap64 (x7_1 * a0)) + x8_2)) = ji22 := (i64_w _).trans hji22
            by_cases c23 : 0 ≤ (ji22)
            ·rw [if_pos c23] at H
             have c23b0 : decide (0 ≤ (ji22)) = true := decide_eq_true c23
             clear c23
             by_cases c24 : (ji22) < (x6_2.length : Int)
             ·rw [if_pos c24] at H
              have c24b0 : decide ((ji22) < (x6_2.length : Int)) = true := decide_eq_true c24
              clear c24
              obtain ⟨y148, hy148⟩ : ∃ y_ : List Bool, y_ = (x6_2.set ((ji22) : Int).toNat true) := ⟨_, rfl⟩
              replace H : (spec_cuPieces.l2 kj9 a0 l1 x5_2 y148 x7_1 x8_2 (([x7_1] : List Int)) x7_1) = some r := by first | (rw [hy148]; with_reducible exact H) | (have H2_ := (Option.bind_some _ _).symm.trans H; rw [hy148]; with_reducible exact H2_) | (have H2_ := (Option.bind_some _ _).symm.trans H; with_reducible exact H2_) | with_reducible exact H | (rw [hy148]; exact H) | exact H
              have Ny148 := Aside0.mk hy148
              clear hy148
              obtain ⟨y149, hy149⟩ : ∃ y_ : List Int, y_ = (([x7_1] : List Int)) := ⟨_, rfl⟩
              replace H : (spec_cuPieces.l2 kj9 a0 l1 x5_2 y148 x7_1 x8_2 y149 x7_1) = some r := by first | (rw [hy149]; with_reducible exact H) | (have H2_ := (Option.bind_some _ _).symm.trans H; rw [hy149]; with_reducible exact H2_) | (have H2_ := (Option.bind_some _ _).symm.trans H; with_reducible exact H2_) | with_reducible exact H | (rw [hy149]; exact H) | exact H
              have Ny149 := Aside0.mk hy149
              clear hy149
              have H' := Aside0.mk H
              clear H
              have p25 : 0 ≤ ((ji22) : Int) := of_decide_eq_true (by first | (with_reducible assumption) | assumption)
              have q25 : ((ji22) : Int) < ((x6_2.length : Int) : Int) := of_decide_eq_true (by first | (with_reducible assumption) | assumption)
              obtain ⟨go25, co25, eo25, gb25, gl25, cl25, HG25⟩ := Kd.R_form HO_6.out (by omega)
              (first | cases eo25 | (injection eo25 with ea_ en_ ec_; (first | subst ea_ | (injection ea_ with ea_; subst ea_)); subst ec_; clear en_))
              have GB25 := Aside0.mk gb25
              have GG25 := Aside0.mk HG25
              clear gb25 gl25 HG25
              obtain ⟨hx25_0, hf25_0⟩ := Kd.R_celln false HO_6.out ((ji22) : Int) p25 q25
              replace p25 := eq_true p25
              replace q25 := eq_true q25
              have HP26 := Kd.R_putg HO_6.out ((ji22) : Int) true
              go_wp2_with (first | ((with_reducible refine gate_store (t := 4) (p := 57) rfl ?_); refine store_event (t := 4) (p := 57) (v := ?vo_w27) (w1 := (wc.setCell ⟨go25, ((ji22) : Int).toNat, none⟩ (.bool true))) ?hg ?ho ?hn ?hr ?_; (case ho => rfl); (case hg => rfl); (case hn => rfl); (case hr => first | (go_simp; done) | (go_simp; rfl)); intro w27 hw; have hg : wc.grownBy w27 (some go25) := (by rw [hw]; exact HP26.2); have hp_ : Kd.R Kd.bool 4 w27 w.heap.size (fun _ => True) (.slice (some ⟨go25, 0, none⟩) x6_2.length co25) y148 := (by rw [hw, Ny148.out]; exact HP26.1); clear HP26; replace HO_5 := Aside0.mk (Kd.S_over' (v := (.slice (some ⟨go25, 0, none⟩) x6_2.length co25)) (by (with_reducible repeat (first | apply Kd.S_alloc | apply Kd.S_drewN | apply Kd.S_drew)); exact HO_5.out) (Kd.R_typed HO_6.out) (by decide) hg); replace HO_6 := Aside0.mk (hp_); replace HB := Aside0.mk ((by rw [hw]; exact below_set (HB.out) GB25.out : Below w.heap.size w w27)); clear hg hw hp_) | ((with_reducible refine gate_dst (N := 59) rfl ?_); refine Kd.R_lit (Kd.int .i64) _ 3 ?hg (N := 59) ?hd (xs := ([x7_1] : List Int)) (inner := [.int .i64 x7_1]) (ok := fun _ => True) (okp := fun _ => True) ?hr ?hp (fun _ hk => hk) trivial (Below.refl _ _) (Nat.le_refl _) (by simp) ?_; (case hd => rfl); (case hg => rfl); (case hr => first | (go_simp; done) | (go_simp; rfl)); (case hp => exact (Reps.one (show Kd.M (Kd.int .i64) _ _ _ x7_1 [.int .i64 x7_1] from rfl) (Reps.none _ _))); intro v150 w28 ho29 hb hg_ hnew_; clear hg_ hnew_; (first | rw [← Ny149.out] at ho29 | (simp only [Int.reduceToNat] at ho29; rw [← Ny149.out] at ho29)); have HO151 := Aside0.mk (Kd.R_lower ho29 (below_size (hk HB))); replace HO_5 := Aside0.mk (Kd.S_elder' (by (with_reducible repeat (first | apply Kd.S_alloc | apply Kd.S_drewN | apply Kd.S_drew)); exact HO_5.out) (Kd.R_base ho29) hb); replace HO_6 := Aside0.mk (Kd.R_below (by (with_reducible repeat (first | apply Kd.R_alloc | apply Kd.R_drewN | apply Kd.R_drew)); exact HO_6.out) hb); replace HB := hh HB hb; clear hb ho29))
              go_loopg [9, 10] kj9 (fun kq v9 v10 w' => ∃ (x9_4 : List Int) (x10_4 : Int), v10 = .int .i64 x10_4 ∧ Aside0 (spec_cuPieces.l2 kq a0 l1 x5_2 y148 x7_1 x8_2 x9_4 x10_4 = some r) ∧ Aside0 (kq ≤ kj9) ∧ Aside0 (Kd.S (Kd.slice 3 (Kd.int .i64)) 34 w' w.heap.size (fun k_ => some k_ ≠ (v9 : Value).ownBlock) u5 x5_2) ∧ Aside0 (Kd.R Kd.bool 4 w' w.heap.size (fun _ => True) (.slice (some ⟨go25, 0, none⟩) x6_2.length co25) y148) ∧ Aside0 (Kd.R (Kd.int .i64) 3 w' w.heap.size (fun _ => True) v9 x9_4) ∧ Aside0 (Below w.heap.size w w'))
              case atStart => exact ⟨(y149), (x7_1), (by first | rfl | (simp; done) | (simp [*]; done)), H', ⟨Nat.le_refl _⟩, ⟨by (with_reducible repeat (first | apply Kd.S_alloc | apply Kd.S_drewN | apply Kd.S_drew)); exact Kd.S_mono HO_5.out (fun _ hk => hk.2)⟩, ⟨by (with_reducible repeat (first | apply Kd.R_alloc | apply Kd.R_drewN | apply Kd.R_drew)); exact HO_6.out⟩, ⟨by (with_reducible repeat (first | apply Kd.R_alloc | apply Kd.R_drewN | apply Kd.R_drew)); exact HO151.out⟩, ⟨by repeat (first | (with_reducible first | exact HB.out | apply below_alloc | apply pw_below_drewN | apply below_drew1) | exact HB.out)⟩⟩
              case round =>
               clear H'
               (try clear c1);(try clear c4);(try clear c4b0);(try clear c4b1);(try clear c5);(try clear c5b0);(try clear c5b1);(try clear c8);(try clear c8b0);(try clear c9);(try clear c9b0);(try clear c12);(try clear c13);(try clear c13b0);(try clear c13b1);(try clear c16);(try clear c16b0);(try clear c17);(try clear c17b0);(try clear c21);(try clear c23);(try clear c23b0);(try clear c24);(try clear c24b0);(try clear p25 p25);(try clear q25 q25);(try clear hx147_0);(try clear hx25_0);(try clear p147);(try clear q147)
               obtain ⟨x9_4, x10_4, rfl, HA, HK4, HO_5, HO_6, HO_9, HB⟩ := hrel
               have hl6_4 := (Kd.R_reads' HO_6.out).1
               rw [hl6_4] at HO_6
               (try simp only [hl6_4])
               (try simp only [hl6_4] at HO_5)
               (try simp only [hl6_4] at HO_9)
               cases gk with
               | zero => exact absurd HA.out (by simp [spec_cuPieces.l2])
               | succ k4 =>
                have H := HA.out
                clear HA
                simp only [spec_cuPieces.l2] at H
                by_cases c30 : x10_4 = x8_2
                ·rw [if_pos c30] at H
                 have c30b0 : (x10_4 == x8_2) = true := beq_iff_eq.mpr c30
                 have c30b1 : (x10_4 != x8_2) = false := bne_eq_false_iff_eq.mpr c30
                 clear c30
                 by_cases c31 : x5_2.length < 5864062014805
                 ·rw [if_pos c31] at H
                  have LMc31 := Aside0.mk c31
                  clear c31
                  obtain ⟨y152, hy152⟩ : ∃ y_ : List (List Int), y_ = (x5_2 ++ [x9_4]) := ⟨_, rfl⟩
                  replace H : (spec_cuPieces.l1 k4 a0 l1 y152 y148 x7_1 (wrap64 (x8_2 + 1))) = some r := by first | (rw [hy152]; with_reducible exact H) | (have H2_ := (Option.bind_some _ _).symm.trans H; rw [hy152]; with_reducible exact H2_) | (have H2_ := (Option.bind_some _ _).symm.trans H; with_reducible exact H2_) | with_reducible exact H | (rw [hy152]; exact H) | exact H
                  have Ny152 := Aside0.mk hy152
                  clear hy152
                  have H' := Aside0.mk H
                  clear H
                  obtain ⟨Ao33, co33, eo33⟩ := Kd.R_slice HO_9.out
                  subst eo33
                  go_wp2_with (first | ((with_reducible refine gate_builtin (b := .append) (xs := #[.tmp 93, .tmp 95]) rfl ?_); at_builtin; refine Kd.S_append (Kd.slice 3 (Kd.int .i64)) (w0 := w) w.heap.size rfl (.tmp 93) (.tmp 95) 24 34 (.slice none 0 0) 24 rfl Try.underlying24 info34 rfl (by decide) (by omega) u5 x5_2 x9_4 [.slice Ao33 x9_4.length co33] (fun _ => True) (fun k_ => some k_ = (.slice Ao33 x9_4.length co33 : Value).ownBlock) rfl rfl ?aP (fun k_ hk_ => ((Kd.R_mono (ok' := fun k_ => ((fun _ => True)) k_ ∧ some k_ ≠ (u5 : Value).ownBlock) (Kd.R_apart' (HO_9.out) (Kd.S_typed HO_5.out) (by decide)) (fun k_ hk => ⟨trivial, hk.2⟩))).1 k_ hk_.symm) ?aF ?aO ?aB ?aS ?aL ?_; (case aP => exact Kd.M_row (Kd.R_mono (Kd.R_tight rfl (Kd.R_mono (ok' := fun k_ => ((fun _ => True)) k_ ∧ some k_ ≠ (u5 : Value).ownBlock) (Kd.R_apart' (HO_9.out) (Kd.S_typed HO_5.out) (by decide)) (fun k_ hk => ⟨trivial, hk.2⟩))) (fun _ h_ => h_))); (case aB => exact (hk HB)); (case aF => exact (fun _ _ => trivial)); (case aO => exact (by (with_reducible repeat (first | apply Kd.S_alloc | apply Kd.S_drewN | apply Kd.S_drew)); exact Kd.S_mono HO_5.out (fun k_ hk => ⟨trivial, fun e_ => hk e_⟩))); (case aS => exact (below_size (hk HB))); (case aL => have := LMc31.out; omega); intro v153 w32 ho hb hg hat; rw [← Ny152.out] at ho; have n0_ := Aside0.mk (Kd.R_over' (by (with_reducible repeat (first | apply Kd.R_alloc | apply Kd.R_drewN | apply Kd.R_drew)); exact HO_6.out) (Kd.S_typed (by (with_reducible repeat (first | apply Kd.S_alloc | apply Kd.S_drewN | apply Kd.S_drew)); exact HO_5.out)) (by decide) hg); have n1_ := Aside0.mk (hb); have n2_ := Aside0.mk (ho); clear HO_6; clear HB; clear HO_5; clear HO_9; have HO_6 := n0_; have HB := n1_; have HO154 := n2_; clear n0_ n1_ n2_; clear ho hb hg hat))
                  (try simp only [← hl6_4])
                  go_roundg k4
                  case measure => have := HK1.out; have := HK2.out; have := HJ9.out; have := HK4.out; omega
                  case rel => exact ⟨(y152), (y148), (wrap64 (x8_2 + 1)), (by first | rfl | (simp; done) | (simp [*]; done)), H', ⟨by have := HK1.out; have := HK2.out; have := HJ9.out; have := HK4.out; omega⟩, ⟨by (try simp only [hl6_4]); (with_reducible repeat (first | apply Kd.S_alloc | apply Kd.S_drewN | apply Kd.S_drew)); exact HO154.out⟩, ⟨by (try simp only [hl6_4]); (with_reducible repeat (first | apply Kd.R_alloc | apply Kd.R_drewN | apply Kd.R_drew)); exact HO_6.out⟩, ⟨by repeat (first | (with_reducible first | exact HB.out | apply below_alloc | apply pw_below_drewN | apply below_drew1) | exact HB.out)⟩⟩
                 ·rw [if_neg c31] at H
                  exact absurd H (by simp)
                ·rw [if_neg c30] at H
                 have c30b0 : (x10_4 == x8_2) = false := beq_eq_false_iff_ne.mpr c30
                 have c30b1 : (x10_4 != x8_2) = true := bne_iff_ne.mpr c30
                 have H' := Aside0.mk H
                 clear H
                 go_wp2
                 go_loopg [11, 12] k4 (fun kq v11 v12 w' => ∃ (x11_5 : Int) (x12_5 : Int), v11 = .int .i64 x11_5 ∧ v12 = .int .i64 x12_5 ∧ Aside0 (spec_cuPieces.l3 kq a0 l1 x5_2 y148 x7_1 x8_2 x9_4 x10_4 x11_5 x12_5 = some r) ∧ Aside0 (kq ≤ k4) ∧ Aside0 (Kd.S (Kd.slice 3 (Kd.int .i64)) 34 w' w.heap.size (fun k_ => some k_ ≠ (u9 : Value).ownBlock) u5 x5_2) ∧ Aside0 (Kd.R Kd.bool 4 w' w.heap.size (fun _ => True) (.slice (some ⟨go25, 0, none⟩) y148.length co25) y148) ∧ Aside0 (Kd.R (Kd.int .i64) 3 w' w.heap.size (fun _ => True) u9 x9_4) ∧ Aside0 (Below w.heap.size w w'))
                 case atStart => exact ⟨(wrap64 (x10_4 + 1)), (x8_2), (by first | rfl | (simp; done) | (simp [*]; done)), (by first | rfl | (simp; done) | (simp [*]; done)), H', ⟨Nat.le_refl _⟩, ⟨by (try simp only [hl6_4]); (with_reducible repeat (first | apply Kd.S_alloc | apply Kd.S_drewN | apply Kd.S_drew)); exact HO_5.out⟩, ⟨by (try simp only [hl6_4]); (with_reducible repeat (first | apply Kd.R_alloc | apply Kd.R_drewN | apply Kd.R_drew)); exact HO_6.out⟩, ⟨by (try simp only [hl6_4]); (with_reducible repeat (first | apply Kd.R_alloc | apply Kd.R_drewN | apply Kd.R_drew)); exact HO_9.out⟩, ⟨by repeat (first | (with_reducible first | exact HB.out | apply below_alloc | apply pw_below_drewN | apply below_drew1) | exact HB.out)⟩⟩
                 case round =>
                  clear H'
                  (try clear c1);(try clear c4);(try clear c4b0);(try clear c4b1);(try clear c5);(try clear c5b0);(try clear c5b1);(try clear c8);(try clear c8b0);(try clear c9);(try clear c9b0);(try clear c12);(try clear c13);(try clear c13b0);(try clear c13b1);(try clear c16);(try clear c16b0);(try clear c17);(try clear c17b0);(try clear c21);(try clear c23);(try clear c23b0);(try clear c24);(try clear c24b0);(try clear p25 p25);(try clear q25 q25);(try clear c30);(try clear c30b0);(try clear c30b1);(try clear c31);(try clear hx147_0);(try clear hx25_0);(try clear p147);(try clear q147)
                  obtain ⟨x11_5, x12_5, rfl, rfl, HA, HK5, HO_5, HO_6, HO_9, HB⟩ := hrel
                  cases gk with
                  | zero => exact absurd HA.out (by simp [spec_cuPieces.l3])
                  | succ k5 =>
                   have H := HA.out
                   clear HA
                   simp only [spec_cuPieces.l3] at H
                   by_cases c34 : x12_5 > x10_4
                   ·rw [if_pos c34] at H
                    have c34b0 : decide (x10_4 < x12_5) = true := decide_eq_true c34
                    clear c34
                    replace H := Option.bind_eq_some_iff.mp H
                    obtain ⟨t155, A350, H⟩ := H
                    have A35 := Aside0.mk A350
                    clear A350
                    by_cases c36 : t155 = true
                    ·subst c36
                     rw [if_pos rfl] at H
                     by_cases c37 : x10_4 = x7_1
                     ·rw [if_pos c37] at H
                      have c37b0 : (x10_4 == x7_1) = true := beq_iff_eq.mpr c37
                      have c37b1 : (x10_4 != x7_1) = false := bne_eq_false_iff_eq.mpr c37
                      clear c37
                      by_cases c38 : x12_5 = x8_2
                      ·rw [if_pos c38] at H
                       have c38b0 : (x12_5 == x8_2) = true := beq_iff_eq.mpr c38
                       have c38b1 : (x12_5 != x8_2) = false := bne_eq_false_iff_eq.mpr c38
                       clear c38
                       have H' := Aside0.mk H
                       clear H
                       go_wp2_with (first | ((with_reducible refine gate_callee (f := 71) rfl ?_); refine gof_ (some 76) Try.func71 #[.int .i64 a0, .slice A1 l1.length c1, .int .i64 x10_4, .int .i64 x12_5] ?_; (with_reducible refine (spec_poJoined.calls k5 a0 _ _ l1 x10_4 x12_5 true _ ?side1 ?side2 A35.out).mono ?_); (case side1 => repeat (first | exact (Kd.C_below HR1.out HB.out) | (with_reducible refine Kd.C_alloc ?_ _) | (with_reducible refine Kd.C_drewN ?_ _) | (with_reducible refine Kd.C_drew ?_))); (case side2 => exact HC1.out); rintro e w39 ⟨rfl, hb⟩; refine ⟨_, rfl, ?_⟩; replace HO_5 := Aside0.mk (Kd.S_below (by (with_reducible repeat (first | apply Kd.S_alloc | apply Kd.S_drewN | apply Kd.S_drew)); exact HO_5.out) hb); replace HO_6 := Aside0.mk (Kd.R_below (by (with_reducible repeat (first | apply Kd.R_alloc | apply Kd.R_drewN | apply Kd.R_drew)); exact HO_6.out) hb); replace HO_9 := Aside0.mk (Kd.R_below (by (with_reducible repeat (first | apply Kd.R_alloc | apply Kd.R_drewN | apply Kd.R_drew)); exact HO_9.out) hb); replace HB := hh HB hb; clear hb))
                       go_roundg k5
                       case measure => have := HK1.out; have := HK2.out; have := HJ9.out; have := HK4.out; have := HK5.out; omega
                       case rel => exact ⟨(x11_5), (wrap64 (x12_5 - 1)), (by first | rfl | (simp; done) | (simp [*]; done)), (by first | rfl | (simp; done) | (simp [*]; done)), H', ⟨by have := HK1.out; have := HK2.out; have := HJ9.out; have := HK4.out; have := HK5.out; omega⟩, ⟨by (try simp only [hl6_4]); (with_reducible repeat (first | apply Kd.S_alloc | apply Kd.S_drewN | apply Kd.S_drew)); exact HO_5.out⟩, ⟨by (try simp only [hl6_4]); (with_reducible repeat (first | apply Kd.R_alloc | apply Kd.R_drewN | apply Kd.R_drew)); exact HO_6.out⟩, ⟨by (try simp only [hl6_4]); (with_reducible repeat (first | apply Kd.R_alloc | apply Kd.R_drewN | apply Kd.R_drew)); exact HO_9.out⟩, ⟨by repeat (first | (with_reducible first | exact HB.out | apply below_alloc | apply pw_below_drewN | apply below_drew1) | exact HB.out)⟩⟩
                      ·rw [if_neg c38] at H
                       have c38b0 : (x12_5 == x8_2) = false := beq_eq_false_iff_ne.mpr c38
                       have c38b1 : (x12_5 != x8_2) = true := bne_iff_ne.mpr c38
                       by_cases c40 : x9_4.length < 17592186044416
                       ·rw [if_pos c40] at H
                        have LMc40 := Aside0.mk c40
                        clear c40
                        obtain ⟨y156, hy156⟩ : ∃ y_ : List Int, y_ = (x9_4 ++ [x12_5]) := ⟨_, rfl⟩
                        replace H : (spec_cuPieces.l2 k5 a0 l1 x5_2 y148 x7_1 x8_2 y156 x12_5) = some r := by first | (rw [hy156]; with_reducible exact H) | (have H2_ := (Option.bind_some _ _).symm.trans H; rw [hy156]; with_reducible exact H2_) | (have H2_ := (Option.bind_some _ _).symm.trans H; with_reducible exact H2_) | with_reducible exact H | (rw [hy156]; exact H) | exact H
                        have Ny156 := Aside0.mk hy156
                        clear hy156
                        have H' := Aside0.mk H
                        clear H
                        go_wp2_with (first | ((with_reducible refine gate_callee (f := 71) rfl ?_); refine gof_ (some 76) Try.func71 #[.int .i64 a0, .slice A1 l1.length c1, .int .i64 x10_4, .int .i64 x12_5] ?_; (with_reducible refine (spec_poJoined.calls k5 a0 _ _ l1 x10_4 x12_5 true _ ?side1 ?side2 A35.out).mono ?_); (case side1 => repeat (first | exact (Kd.C_below HR1.out HB.out) | (with_reducible refine Kd.C_alloc ?_ _) | (with_reducible refine Kd.C_drewN ?_ _) | (with_reducible refine Kd.C_drew ?_))); (case side2 => exact HC1.out); rintro e w41 ⟨rfl, hb⟩; refine ⟨_, rfl, ?_⟩; replace HO_5 := Aside0.mk (Kd.S_below (by (with_reducible repeat (first | apply Kd.S_alloc | apply Kd.S_drewN | apply Kd.S_drew)); exact HO_5.out) hb); replace HO_6 := Aside0.mk (Kd.R_below (by (with_reducible repeat (first | apply Kd.R_alloc | apply Kd.R_drewN | apply Kd.R_drew)); exact HO_6.out) hb); replace HO_9 := Aside0.mk (Kd.R_below (by (with_reducible repeat (first | apply Kd.R_alloc | apply Kd.R_drewN | apply Kd.R_drew)); exact HO_9.out) hb); replace HB := hh HB hb; clear hb) | ((with_reducible refine gate_builtin (b := .append) (xs := #[.tmp 89, .tmp 91]) rfl ?_); at_builtin; refine Kd.R_append (Kd.int .i64) (w0 := w) w.heap.size rfl (.tmp 89) (.tmp 91) 34 3 (.int .i64 0) 8 rfl Try.underlying34 info3 rfl (by decide) (by omega) u9 x9_4 x12_5 [.int .i64 x12_5] (fun _ => True) (fun _ => False) rfl rfl ?aP (fun _ hk => hk.elim) ?aF ?aO ?aB ?aS ?aL ?_; (case aP => exact rfl); (case aB => exact (hk HB)); (case aF => exact (fun _ _ => trivial)); (case aO => exact (by (with_reducible repeat (first | apply Kd.R_alloc | apply Kd.R_drewN | apply Kd.R_drew)); exact HO_9.out)); (case aS => exact (below_size (hk HB))); (case aL => have := LMc40.out; omega); intro v157 w42 ho hb hg hat; rw [← Ny156.out] at ho; have n0_ := Aside0.mk (Kd.S_after (ok := (fun _ => True)) (by (with_reducible repeat (first | apply Kd.S_alloc | apply Kd.S_drewN | apply Kd.S_drew)); exact Kd.S_mono HO_5.out (fun _ hk => ⟨trivial, hk⟩)) hg hat); have n1_ := Aside0.mk (Kd.R_over' (by (with_reducible repeat (first | apply Kd.R_alloc | apply Kd.R_drewN | apply Kd.R_drew)); exact HO_6.out) (Kd.R_typed (by (with_reducible repeat (first | apply Kd.R_alloc | apply Kd.R_drewN | apply Kd.R_drew)); exact HO_9.out)) (by decide) hg); have n2_ := Aside0.mk (hb); have n3_ := Aside0.mk (ho); clear HO_5; clear HO_6; clear HB; clear HO_9; have HO_5 := n0_; have HO_6 := n1_; have HB := n2_; have HO158 := n3_; clear n0_ n1_ n2_ n3_; clear ho hb hg hat))
                        (try simp only [← hl6_4])
                        go_roundg k5
                        case measure => have := HK1.out; have := HK2.out; have := HJ9.out; have := HK4.out; have := HK5.out; omega
                        case rel => exact ⟨(y156), (x12_5), (by first | rfl | (simp; done) | (simp [*]; done)), H', ⟨by have := HK1.out; have := HK2.out; have := HJ9.out; have := HK4.out; have := HK5.out; omega⟩, ⟨by (try simp only [hl6_4]); (with_reducible repeat (first | apply Kd.S_alloc | apply Kd.S_drewN | apply Kd.S_drew)); exact Kd.S_mono HO_5.out (fun _ hk => hk.2)⟩, ⟨by (try simp only [hl6_4]); (with_reducible repeat (first | apply Kd.R_alloc | apply Kd.R_drewN | apply Kd.R_drew)); exact HO_6.out⟩, ⟨by (try simp only [hl6_4]); (with_reducible repeat (first | apply Kd.R_alloc | apply Kd.R_drewN | apply Kd.R_drew)); exact HO158.out⟩, ⟨by repeat (first | (with_reducible first | exact HB.out | apply below_alloc | apply pw_below_drewN | apply below_drew1) | exact HB.out)⟩⟩
                       ·rw [if_neg c40] at H
                        exact absurd H (by simp)
                     ·rw [if_neg c37] at H
                      have c37b0 : (x10_4 == x7_1) = false := beq_eq_false_iff_ne.mpr c37
                      have c37b1 : (x10_4 != x7_1) = true := bne_iff_ne.mpr c37
                      by_cases c43 : x9_4.length < 17592186044416
                      ·rw [if_pos c43] at H
                       have LMc43 := Aside0.mk c43
                       clear c43
                       obtain ⟨y159, hy159⟩ : ∃ y_ : List Int, y_ = (x9_4 ++ [x12_5]) := ⟨_, rfl⟩
                       replace H : (spec_cuPieces.l2 k5 a0 l1 x5_2 y148 x7_1 x8_2 y159 x12_5) = some r := by first | (rw [hy159]; with_reducible exact H) | (have H2_ := (Option.bind_some _ _).symm.trans H; rw [hy159]; with_reducible exact H2_) | (have H2_ := (Option.bind_some _ _).symm.trans H; with_reducible exact H2_) | with_reducible exact H | (rw [hy159]; exact H) | exact H
                       have Ny159 := Aside0.mk hy159
                       clear hy159
                       have H' := Aside0.mk H
                       clear H
                       go_wp2_with (first | ((with_reducible refine gate_callee (f := 71) rfl ?_); refine gof_ (some 76) Try.func71 #[.int .i64 a0, .slice A1 l1.length c1, .int .i64 x10_4, .int .i64 x12_5] ?_; (with_reducible refine (spec_poJoined.calls k5 a0 _ _ l1 x10_4 x12_5 true _ ?side1 ?side2 A35.out).mono ?_); (case side1 => repeat (first | exact (Kd.C_below HR1.out HB.out) | (with_reducible refine Kd.C_alloc ?_ _) | (with_reducible refine Kd.C_drewN ?_ _) | (with_reducible refine Kd.C_drew ?_))); (case side2 => exact HC1.out); rintro e w44 ⟨rfl, hb⟩; refine ⟨_, rfl, ?_⟩; replace HO_5 := Aside0.mk (Kd.S_below (by (with_reducible repeat (first | apply Kd.S_alloc | apply Kd.S_drewN | apply Kd.S_drew)); exact HO_5.out) hb); replace HO_6 := Aside0.mk (Kd.R_below (by (with_reducible repeat (first | apply Kd.R_alloc | apply Kd.R_drewN | apply Kd.R_drew)); exact HO_6.out) hb); replace HO_9 := Aside0.mk (Kd.R_below (by (with_reducible repeat (first | apply Kd.R_alloc | apply Kd.R_drewN | apply Kd.R_drew)); exact HO_9.out) hb); replace HB := hh HB hb; clear hb) | ((with_reducible refine gate_builtin (b := .append) (xs := #[.tmp 89, .tmp 91]) rfl ?_); at_builtin; refine Kd.R_append (Kd.int .i64) (w0 := w) w.heap.size rfl (.tmp 89) (.tmp 91) 34 3 (.int .i64 0) 8 rfl Try.underlying34 info3 rfl (by decide) (by omega) u9 x9_4 x12_5 [.int .i64 x12_5] (fun _ => True) (fun _ => False) rfl rfl ?aP (fun _ hk => hk.elim) ?aF ?aO ?aB ?aS ?aL ?_; (case aP => exact rfl); (case aB => exact (hk HB)); (case aF => exact (fun _ _ => trivial)); (case aO => exact (by (with_reducible repeat (first | apply Kd.R_alloc | apply Kd.R_drewN | apply Kd.R_drew)); exact HO_9.out)); (case aS => exact (below_size (hk HB))); (case aL => have := LMc43.out; omega); intro v160 w45 ho hb hg hat; rw [← Ny159.out] at ho; have n0_ := Aside0.mk (Kd.S_after (ok := (fun _ => True)) (by (with_reducible repeat (first | apply Kd.S_alloc | apply Kd.S_drewN | apply Kd.S_drew)); exact Kd.S_mono HO_5.out (fun _ hk => ⟨trivial, hk⟩)) hg hat); have n1_ := Aside0.mk (Kd.R_over' (by (with_reducible repeat (first | apply Kd.R_alloc | apply Kd.R_drewN | apply Kd.R_drew)); exact HO_6.out) (Kd.R_typed (by (with_reducible repeat (first | apply Kd.R_alloc | apply Kd.R_drewN | apply Kd.R_drew)); exact HO_9.out)) (by decide) hg); have n2_ := Aside0.mk (hb); have n3_ := Aside0.mk (ho); clear HO_5; clear HO_6; clear HB; clear HO_9; have HO_5 := n0_; have HO_6 := n1_; have HB := n2_; have HO161 := n3_; clear n0_ n1_ n2_ n3_; clear ho hb hg hat))
                       (try simp only [← hl6_4])
                       go_roundg k5
                       case measure => have := HK1.out; have := HK2.out; have := HJ9.out; have := HK4.out; have := HK5.out; omega
                       case rel => exact ⟨(y159), (x12_5), (by first | rfl | (simp; done) | (simp [*]; done)), H', ⟨by have := HK1.out; have := HK2.out; have := HJ9.out; have := HK4.out; have := HK5.out; omega⟩, ⟨by (try simp only [hl6_4]); (with_reducible repeat (first | apply Kd.S_alloc | apply Kd.S_drewN | apply Kd.S_drew)); exact Kd.S_mono HO_5.out (fun _ hk => hk.2)⟩, ⟨by (try simp only [hl6_4]); (with_reducible repeat (first | apply Kd.R_alloc | apply Kd.R_drewN | apply Kd.R_drew)); exact HO_6.out⟩, ⟨by (try simp only [hl6_4]); (with_reducible repeat (first | apply Kd.R_alloc | apply Kd.R_drewN | apply Kd.R_drew)); exact HO161.out⟩, ⟨by repeat (first | (with_reducible first | exact HB.out | apply below_alloc | apply pw_below_drewN | apply below_drew1) | exact HB.out)⟩⟩
                      ·rw [if_neg c43] at H
                       exact absurd H (by simp)
                    ·replace c36 := Bool.eq_false_iff.mpr c36
                     subst c36
                     rw [if_neg (show ¬ (false = true) by decide)] at H
                     have H' := Aside0.mk H
                     clear H
                     go_wp2_with (first | ((with_reducible refine gate_callee (f := 71) rfl ?_); refine gof_ (some 76) Try.func71 #[.int .i64 a0, .slice A1 l1.length c1, .int .i64 x10_4, .int .i64 x12_5] ?_; (with_reducible refine (spec_poJoined.calls k5 a0 _ _ l1 x10_4 x12_5 false _ ?side1 ?side2 A35.out).mono ?_); (case side1 => repeat (first | exact (Kd.C_below HR1.out HB.out) | (with_reducible refine Kd.C_alloc ?_ _) | (with_reducible refine Kd.C_drewN ?_ _) | (with_reducible refine Kd.C_drew ?_))); (case side2 => exact HC1.out); rintro e w46 ⟨rfl, hb⟩; refine ⟨_, rfl, ?_⟩; replace HO_5 := Aside0.mk (Kd.S_below (by (with_reducible repeat (first | apply Kd.S_alloc | apply Kd.S_drewN | apply Kd.S_drew)); exact HO_5.out) hb); replace HO_6 := Aside0.mk (Kd.R_below (by (with_reducible repeat (first | apply Kd.R_alloc | apply Kd.R_drewN | apply Kd.R_drew)); exact HO_6.out) hb); replace HO_9 := Aside0.mk (Kd.R_below (by (with_reducible repeat (first | apply Kd.R_alloc | apply Kd.R_drewN | apply Kd.R_drew)); exact HO_9.out) hb); replace HB := hh HB hb; clear hb))
                     go_roundg k5
                     case measure => have := HK1.out; have := HK2.out; have := HJ9.out; have := HK4.out; have := HK5.out; omega
                     case rel => exact ⟨(x11_5), (wrap64 (x12_5 - 1)), (by first | rfl | (simp; done) | (simp [*]; done)), (by first | rfl | (simp; done) | (simp [*]; done)), H', ⟨by have := HK1.out; have := HK2.out; have := HJ9.out; have := HK4.out; have := HK5.out; omega⟩, ⟨by (try simp only [hl6_4]); (with_reducible repeat (first | apply Kd.S_alloc | apply Kd.S_drewN | apply Kd.S_drew)); exact HO_5.out⟩, ⟨by (try simp only [hl6_4]); (with_reducible repeat (first | apply Kd.R_alloc | apply Kd.R_drewN | apply Kd.R_drew)); exact HO_6.out⟩, ⟨by (try simp only [hl6_4]); (with_reducible repeat (first | apply Kd.R_alloc | apply Kd.R_drewN | apply Kd.R_drew)); exact HO_9.out⟩, ⟨by repeat (first | (with_reducible first | exact HB.out | apply below_alloc | apply pw_below_drewN | apply below_drew1) | exact HB.out)⟩⟩
                   ·rw [if_neg c34] at H
                    have c34b0 : decide (x10_4 < x12_5) = false := decide_eq_false c34
                    clear c34
                    by_cases c47 : x9_4.length < 17592186044416
                    ·rw [if_pos c47] at H
                     have LMc47 := Aside0.mk c47
                     clear c47
                     obtain ⟨y162, hy162⟩ : ∃ y_ : List Int, y_ = (x9_4 ++ [x11_5]) := ⟨_, rfl⟩
                     replace H : (spec_cuPieces.l2 k5 a0 l1 x5_2 y148 x7_1 x8_2 y162 x11_5) = some r := by first | (rw [hy162]; with_reducible exact H) | (have H2_ := (Option.bind_some _ _).symm.trans H; rw [hy162]; with_reducible exact H2_) | (have H2_ := (Option.bind_some _ _).symm.trans H; with_reducible exact H2_) | with_reducible exact H | (rw [hy162]; exact H) | exact H
                     have Ny162 := Aside0.mk hy162
                     clear hy162
                     have H' := Aside0.mk H
                     clear H
                     go_wp2_with (first | ((with_reducible refine gate_builtin (b := .append) (xs := #[.tmp 89, .tmp 91]) rfl ?_); at_builtin; refine Kd.R_append (Kd.int .i64) (w0 := w) w.heap.size rfl (.tmp 89) (.tmp 91) 34 3 (.int .i64 0) 8 rfl Try.underlying34 info3 rfl (by decide) (by omega) u9 x9_4 x11_5 [.int .i64 x11_5] (fun _ => True) (fun _ => False) rfl rfl ?aP (fun _ hk => hk.elim) ?aF ?aO ?aB ?aS ?aL ?_; (case aP => exact rfl); (case aB => exact (hk HB)); (case aF => exact (fun _ _ => trivial)); (case aO => exact (by (with_reducible repeat (first | apply Kd.R_alloc | apply Kd.R_drewN | apply Kd.R_drew)); exact HO_9.out)); (case aS => exact (below_size (hk HB))); (case aL => have := LMc47.out; omega); intro v163 w48 ho hb hg hat; rw [← Ny162.out] at ho; have n0_ := Aside0.mk (Kd.S_after (ok := (fun _ => True)) (by (with_reducible repeat (first | apply Kd.S_alloc | apply Kd.S_drewN | apply Kd.S_drew)); exact Kd.S_mono HO_5.out (fun _ hk => ⟨trivial, hk⟩)) hg hat); have n1_ := Aside0.mk (Kd.R_over' (by (with_reducible repeat (first | apply Kd.R_alloc | apply Kd.R_drewN | apply Kd.R_drew)); exact HO_6.out) (Kd.R_typed (by (with_reducible repeat (first | apply Kd.R_alloc | apply Kd.R_drewN | apply Kd.R_drew)); exact HO_9.out)) (by decide) hg); have n2_ := Aside0.mk (hb); have n3_ := Aside0.mk (ho); clear HO_5; clear HO_6; clear HB; clear HO_9; have HO_5 := n0_; have HO_6 := n1_; have HB := n2_; have HO164 := n3_; clear n0_ n1_ n2_ n3_; clear ho hb hg hat))
                     (try simp only [← hl6_4])
                     go_roundg k5
                     case measure => have := HK1.out; have := HK2.out; have := HJ9.out; have := HK4.out; have := HK5.out; omega
                     case rel => exact ⟨(y162), (x11_5), (by first | rfl | (simp; done) | (simp [*]; done)), H', ⟨by have := HK1.out; have := HK2.out; have := HJ9.out; have := HK4.out; have := HK5.out; omega⟩, ⟨by (try simp only [hl6_4]); (with_reducible repeat (first | apply Kd.S_alloc | apply Kd.S_drewN | apply Kd.S_drew)); exact Kd.S_mono HO_5.out (fun _ hk => hk.2)⟩, ⟨by (try simp only [hl6_4]); (with_reducible repeat (first | apply Kd.R_alloc | apply Kd.R_drewN | apply Kd.R_drew)); exact HO_6.out⟩, ⟨by (try simp only [hl6_4]); (with_reducible repeat (first | apply Kd.R_alloc | apply Kd.R_drewN | apply Kd.R_drew)); exact HO164.out⟩, ⟨by repeat (first | (with_reducible first | exact HB.out | apply below_alloc | apply pw_below_drewN | apply below_drew1) | exact HB.out)⟩⟩
                    ·rw [if_neg c47] at H
                     exact absurd H (by simp)
             ·rw [if_neg c24] at H
              exact absurd H (by simp)
            ·rw [if_neg c23] at H
             exact absurd H (by simp)
        ·rw [if_neg c9] at H
         have c9b0 : decide (x8_2 < a0) = false := decide_eq_false c9
         clear c9
         have H' := Aside0.mk H
         clear H
         go_wp2
         go_roundg k2
         case measure => have := HK1.out; have := HK2.out; omega
         case rel => exact ⟨(x5_2), (x6_2), (wrap64 (x7_1 + 1)), (by first | rfl | (simp; done) | (simp [*]; done)), H', ⟨by have := HK1.out; have := HK2.out; omega⟩, ⟨by (with_reducible repeat (first | apply Kd.S_alloc | apply Kd.S_drewN | apply Kd.S_drew)); exact HO_5.out⟩, ⟨by (with_reducible repeat (first | apply Kd.R_alloc | apply Kd.R_drewN | apply Kd.R_drew)); exact HO_6.out⟩, ⟨by repeat (first | (with_reducible first | exact HB.out | apply below_alloc | apply pw_below_drewN | apply below_drew1) | exact HB.out)⟩⟩
     ·rw [if_neg c8] at H
      have c8b0 : decide (x7_1 < a0) = false := decide_eq_false c8
      clear c8
      obtain rfl := Option.some.inj H
      simp only [Option.some.injEq, Prod.mk.injEq] at H
      obtain ⟨rfl⟩ := H
      have HN := Aside0.mk hn
      clear hn
      go_wp2_with (go_at_call 72; refine (spec_cuSorted.S _ _ _ w.heap.size _ (below_size (hk HB)) HO_5.out HN.out).mono ?_; rintro e w99 ⟨v99, rfl, h99, hb99⟩)
      go_ret
      exact ⟨_, rfl, h99, below_step (hk HB) hb99⟩
  ·rw [if_neg c5] at H
   exact absurd H (by simp)
 ·rw [if_neg c4] at H
  exact absurd H (by simp)

def spec_cuPieces.f (k : Nat) (a0 : Int) (l1 : List (S59)) : Option (List (List Int)) := (spec_cuPieces.f0 k a0 l1).bind fun r => if r.length ≤ 4294967296 then some (Lex.sort r) else none
theorem spec_cuPieces.mono : ∀ a0 a1 k, LeO (spec_cuPieces.f k a0 a1) (spec_cuPieces.f (k + 1) a0 a1) := fun a0 a1 k => LeO.bind (spec_cuPieces.mono0 a0 a1 k) fun _ => LeO.refl _
theorem spec_cuPieces.calls (k : Nat) (a0 : Int) (A1 : Option Addr) (c1 : Nat) (l1 : List (S59)) (r : List (List Int)) (w : World) (hr1 : Kd.C k59 w A1 l1.length l1) (hc1 : l1.length ≤ c1) (h : spec_cuPieces.f k a0 l1 = some r) :
  Calls Try.prog 40 #[.int .i64 a0, .slice A1 l1.length c1] w fun e w' => ∃ v0_ : Value, e = .returned (v0_) ∧ Kd.S (Kd.slice 3 (Kd.int .i64)) 34 w' w.heap.size (fun _ => True) v0_ r ∧ Below w.heap.size w w' := by
  obtain ⟨r0, h0, h1⟩ := Option.bind_eq_some_iff.mp h
  split at h1
  · rename_i hn
    obtain rfl := Option.some.inj h1
    exact spec_cuPieces.calls0 k a0 A1 c1 l1 r0 w hr1 hc1 hn h0
  · cases h1
end Go.Proofs.Ytggocekjhohhcaa.P

/- What cuPieces hands back: the pieces of the cut's edges. -/
namespace Go.Proofs.Ytggocekjhohhcaa.P
set_option linter.unusedVariables false
set_option linter.unusedSimpArgs false
open Go.RowKit Go.Proofs.YtggocekjhohhcaaW.PrintWords
instance (n : Int) (D : List (Int × Int)) (a b : Int) : Decidable (Cut.Joined n D a b) := by unfold Cut.Joined; infer_instance
theorem joined_l0 (ds : List Dia) (hl : ds.length ≤ 2000000) (a b : Int) : ∀ m j, ds.length - j = m → j ≤ ds.length → Ev (fun k => spec_poJoined.l0 k a b ds (ds.length : Int) (j : Int)) (decide ((a, b) ∈ (ds.drop j).map dpair))
  | 0, j, hm, hj => by
    have e : j = ds.length := by omega
    subst e
    refine Ev.succ (Ev.const fun k => ?_)
    simp only [spec_poJoined.l0]
    rw [if_neg (by omega), List.drop_length]
    rfl
  | m + 1, j, hm, hj => by
    have hlt : j < ds.length := by omega
    have hd : ds.drop j = ds[j] :: ds.drop (j + 1) := List.drop_eq_getElem_cons hlt
    have hg : gd ds j = ds[j] := by simp [gd, hlt]
    have ih := joined_l0 ds hl a b m (j + 1) (by omega) (by omega)
    refine Ev.succ ?_
    rw [hd, List.map_cons]
    by_cases h : ds[j].f0 = a ∧ ds[j].f1 = b
    · refine Ev.const fun k => ?_
      simp only [spec_poJoined.l0]
      rw [if_pos (by omega), if_pos (by omega), if_pos (by omega), rd_gd, hg, if_pos h.1, if_pos h.2]
      rw [decide_eq_true (by rw [← h.1, ← h.2]; exact List.mem_cons_self)]
    · have hne : (a, b) ≠ dpair ds[j] := fun e => h ⟨(congrArg Prod.fst e).symm, (congrArg Prod.snd e).symm⟩
      refine Ev.congr (Ev.val ih (decide_eq_decide.2 ⟨fun h => List.mem_cons_of_mem _ h, fun h => by rcases List.mem_cons.1 h with h | h; exact absurd h hne; exact h⟩)) fun k => ?_
      simp only [spec_poJoined.l0]
      rw [if_pos (by omega), if_pos (by omega), if_pos (by omega), rd_gd, hg, w64s (by omega)]
      by_cases h0 : ds[j].f0 = a
      · rw [if_pos h0, if_neg fun h1 => h ⟨h0, h1⟩]
      · rw [if_neg h0]
theorem poJoined_eq {n : Int} (h3 : 3 ≤ n) (h12 : n ≤ 12) (ds : List Dia) (hl : ds.length ≤ 2000000) (a b : Int) (ha : -1000 ≤ a ∧ a ≤ 1000) (hb : -1000 ≤ b ∧ b ≤ 1000) :
    Ev (fun k => spec_poJoined.f k n ds a b) (decide (Cut.Joined n (ds.map dpair) a b)) := by
  unfold spec_poJoined.f
  rw [w64n (show _ ≤ b - a by omega) (by omega), w64n (show _ ≤ n - 1 by omega) (by omega)]
  refine Ev.succ ?_
  simp only [spec_poJoined.j0]
  by_cases h1 : b - a = 1
  · exact Ev.const fun k => by rw [if_pos h1]; simp only [if_true]; rw [decide_eq_true (show Cut.Joined n (ds.map dpair) a b from Or.inl h1)]
  · by_cases h2 : b - a = n - 1
    · exact Ev.const fun k => by rw [if_neg h1, if_pos (by simpa using h2), decide_eq_true (show Cut.Joined n (ds.map dpair) a b from Or.inr (Or.inl h2))]
    · have h := joined_l0 ds hl a b _ 0 rfl (by omega)
      rw [List.drop_zero] at h
      refine Ev.congr (Ev.val h (decide_eq_decide.2 ⟨fun h => Or.inr (Or.inr h), fun h => ?_⟩)) fun k => ?_
      · rcases h with h | h | h
        · exact absurd h h1
        · exact absurd h h2
        · exact h
      · rw [if_neg h1, if_neg (by simpa using h2)]; rfl
section
variable {n : Int} {ds : List Dia} {a b : Int} {out : List (List Int)} {seen : List Bool} {r : List (List Int)}
theorem l3_eq (h : Cut.Good n (ds.map dpair)) (h3 : 3 ≤ n) (h12 : n ≤ 12) (hl : ds.length ≤ 2000000) (he : (a, b) ∈ (0, n - 1) :: ds.map dpair) (x9 : List Int) (hx9 : x9.length ≤ 100000) {v : Int} (hv : v ∈ Cut.piece (ds.map dpair) (a, b)) (hvb : v < b)
    (hk : ∀ c, c ∈ Cut.piece (ds.map dpair) (a, b) → v < c → c ≤ b → (∀ u ∈ Cut.piece (ds.map dpair) (a, b), v < u → c ≤ u) → Ev (fun k => spec_cuPieces.l2 k n ds out seen a b (x9 ++ [c]) c) r) :
    ∀ (m : Nat) (c : Int), (c - v).toNat = m → v ≤ c → c ≤ b → (∀ c', c < c' → c' ≤ b → Cut.Joined n (ds.map dpair) v c' → (v, c') = (a, b)) → Ev (fun k => spec_cuPieces.l3 k n ds out seen a b x9 v (v + 1) c) r := by
  have hed := Cut.edge_of h he h3
  have hv0 := (Cut.mem_piece.1 hv).1
  simp only at hed hv0
  intro m
  induction m with
  | zero =>
    intro c hm hvc hcb hmax
    have e : c = v := by omega
    subst e
    have hj : Cut.Joined n (ds.map dpair) c (c + 1) := Or.inl (by omega)
    have hne : (c, c + 1) ≠ (a, b) := fun e => by injection e with e1 e2; omega
    have hn := Cut.next_in h h3 he hv (show c < c + 1 by omega) (show c + 1 ≤ b by omega) hj hne (fun c' h1 h2 => hmax c' (by omega) h2)
    refine Ev.succ (Ev.congr (hk (c + 1) hn.1 (by omega) (by omega) hn.2) fun k => ?_)
    simp only [spec_cuPieces.l3]
    rw [if_neg (by omega), if_pos (by omega)]
  | succ m ih =>
    intro c hm hvc hcb hmax
    have hlt : v < c := by omega
    refine Ev.succ ?_
    have hjd := poJoined_eq h3 h12 ds hl v c (by omega) (by omega)
    have hdown : ((v, c) = (a, b) ∨ ¬ Cut.Joined n (ds.map dpair) v c) → Ev (fun k => spec_cuPieces.l3 k n ds out seen a b x9 v (v + 1) (wrap64 (c - 1))) r := fun hc => by
      rw [w64n (show _ ≤ c - 1 by omega) (by omega)]
      refine ih (c - 1) (by omega) (by omega) (by omega) fun c' h1 h2 h4 => ?_
      by_cases e : c' = c
      · subst e
        rcases hc with hc | hc
        · exact hc
        · exact absurd h4 hc
      · exact hmax c' (by omega) h2 h4
    have hfound : Cut.Joined n (ds.map dpair) v c → (v, c) ≠ (a, b) → Ev (fun k => if x9.length < 17592186044416 then spec_cuPieces.l2 k n ds out seen a b (x9 ++ [c]) c else none) r := fun hj hne => by
      have hn := Cut.next_in h h3 he hv hlt hcb hj hne hmax
      exact Ev.congr (hk c hn.1 hlt hcb hn.2) fun k => by rw [if_pos (by omega)]
    have hbody : Ev (fun k => (fun t155 : Bool => if t155 = true then (if v = a then (if c = b then spec_cuPieces.l3 k n ds out seen a b x9 v (v + 1) (wrap64 (c - 1)) else if x9.length < 17592186044416 then spec_cuPieces.l2 k n ds out seen a b (x9 ++ [c]) c else none) else if x9.length < 17592186044416 then spec_cuPieces.l2 k n ds out seen a b (x9 ++ [c]) c else none) else spec_cuPieces.l3 k n ds out seen a b x9 v (v + 1) (wrap64 (c - 1))) (decide (Cut.Joined n (ds.map dpair) v c))) r := by
      by_cases hj : Cut.Joined n (ds.map dpair) v c
      · by_cases ea : v = a
        · by_cases eb : c = b
          · refine Ev.congr (hdown (Or.inl (by rw [ea, eb]))) fun k => ?_
            show (if decide _ = true then _ else _) = _
            rw [if_pos (decide_eq_true hj), if_pos ea, if_pos eb]
          · refine Ev.congr (hfound hj fun e => eb (congrArg Prod.snd e)) fun k => ?_
            show (if decide _ = true then _ else _) = _
            rw [if_pos (decide_eq_true hj), if_pos ea, if_neg eb]
        · refine Ev.congr (hfound hj fun e => ea (congrArg Prod.fst e)) fun k => ?_
          show (if decide _ = true then _ else _) = _
          rw [if_pos (decide_eq_true hj), if_neg ea]
      · refine Ev.congr (hdown (Or.inr hj)) fun k => ?_
        show (if decide _ = true then _ else _) = _
        rw [if_neg fun h => hj (of_decide_eq_true h)]
    refine Ev.congr (Ev.bind (g := fun k => fun t155 : Bool => if t155 = true then (if v = a then (if c = b then spec_cuPieces.l3 k n ds out seen a b x9 v (v + 1) (wrap64 (c - 1)) else if x9.length < 17592186044416 then spec_cuPieces.l2 k n ds out seen a b (x9 ++ [c]) c else none) else if x9.length < 17592186044416 then spec_cuPieces.l2 k n ds out seen a b (x9 ++ [c]) c else none) else spec_cuPieces.l3 k n ds out seen a b x9 v (v + 1) (wrap64 (c - 1))) hjd hbody) fun k => ?_
    simp only [spec_cuPieces.l3]
    rw [if_pos (by omega)]
theorem piece_short (h3 : 3 ≤ n) (h12 : n ≤ 12) (h : Cut.Good n (ds.map dpair)) (he : (a, b) ∈ (0, n - 1) :: ds.map dpair) (f : Int → Bool) : ((Cut.piece (ds.map dpair) (a, b)).filter f).length ≤ 1000 := by
  have hed := Cut.edge_of h he h3
  simp only at hed
  refine Nat.le_trans (List.length_filter_le _ _) (Nat.le_trans (List.length_filter_le _ _) ?_)
  unfold Cut.seg
  rw [List.length_map, List.length_range]
  omega
theorem l2_eq (h : Cut.Good n (ds.map dpair)) (h3 : 3 ≤ n) (h12 : n ≤ 12) (hl : ds.length ≤ 2000000) (he : (a, b) ∈ (0, n - 1) :: ds.map dpair) (ho : out.length ≤ 100000)
    (hk : Ev (fun k => spec_cuPieces.l1 k n ds (out ++ [Cut.piece (ds.map dpair) (a, b)]) seen a (b + 1)) r) :
    ∀ (m : Nat) (v : Int), (b - v).toNat ≤ m → v ∈ Cut.piece (ds.map dpair) (a, b) → Ev (fun k => spec_cuPieces.l2 k n ds out seen a b ((Cut.piece (ds.map dpair) (a, b)).filter fun u => decide (u ≤ v)) v) r := by
  have hed := Cut.edge_of h he h3
  have hst := Cut.walk_start h h3 he
  simp only at hed hst
  intro m
  induction m with
  | zero =>
    intro v hm hv
    have hv0 := (Cut.mem_piece.1 hv).1
    simp only at hv0
    have e : v = b := by omega
    subst e
    refine Ev.succ (Ev.congr hk fun k => ?_)
    simp only [spec_cuPieces.l2]
    rw [hst.2.2.2]
    simp only [if_true]
    rw [if_pos (by omega), w64n (show _ ≤ v + 1 by omega) (by omega)]
  | succ m ih =>
    intro v hm hv
    have hv0 := (Cut.mem_piece.1 hv).1
    simp only at hv0
    by_cases e : v = b
    · subst e
      refine Ev.succ (Ev.congr hk fun k => ?_)
      simp only [spec_cuPieces.l2]
      rw [hst.2.2.2]
      simp only [if_true]
      rw [if_pos (by omega), w64n (show _ ≤ v + 1 by omega) (by omega)]
    · refine Ev.succ ?_
      have hl3 := l3_eq (out := out) (seen := seen) (r := r) h h3 h12 hl he ((Cut.piece (ds.map dpair) (a, b)).filter fun u => decide (u ≤ v)) (by have := piece_short h3 h12 h he (fun u => decide (u ≤ v)); omega) hv (by omega) (fun c hc h1 h2 hno => by
        rw [← Cut.walk_step (Cut.piece_sorted _ _) hc h1 hno]
        exact ih c (by omega) hc) _ b rfl (by omega) (by omega) (fun c' h1 h2 => by omega)
      refine Ev.congr hl3 fun k => ?_
      simp only [spec_cuPieces.l2]
      rw [if_neg e, w64n (show _ ≤ v + 1 by omega) (by omega)]
end
end Go.Proofs.Ytggocekjhohhcaa.P

/- cuPieces, its outer loops. -/
namespace Go.Proofs.Ytggocekjhohhcaa.P
set_option linter.unusedVariables false
set_option linter.unusedSimpArgs false
open Go.RowKit Go.Proofs.YtggocekjhohhcaaW.PrintWords
theorem Ev.on {α : Type} {f g : Nat → Option α} {v : α} (K : Nat) (h : Ev g v) (e : ∀ k, K ≤ k → f k = g k) : Ev f v := by
  obtain ⟨K2, h⟩ := h
  exact ⟨max K K2, fun k hk => by rw [e k (by omega)]; exact h k (by omega)⟩
def rowE (n : Int) (D : List (Int × Int)) (a : Int) : Nat → Int → List (Int × Int)
  | 0, _ => []
  | m + 1, b => (if Cut.Joined n D a b ∧ b - a ≠ 1 then [(a, b)] else []) ++ rowE n D a m (b + 1)
def allE (n : Int) (D : List (Int × Int)) : Nat → Int → List (Int × Int)
  | 0, _ => []
  | m + 1, a => rowE n D a (n - (a + 1)).toNat (a + 1) ++ allE n D m (a + 1)
structure Inv (n t : Int) (out : List (List Int)) (seen : List Bool) : Prop where
  free : ∀ i : Nat, t ≤ (i : Int) → seen.getD i false = false
  len : (seen.length : Int) = n * n
  few : (out.length : Int) ≤ t
theorem Inv.mono {n t t' : Int} {out : List (List Int)} {seen : List Bool} (h : Inv n t out seen) (ht : t ≤ t') : Inv n t' out seen := ⟨fun i hi => h.free i (by omega), h.len, Int.le_trans h.few ht⟩
theorem square_le {n a : Int} (h3 : 3 ≤ n) (h12 : n ≤ 12) (h0 : 0 ≤ a) (ha : a < n) : 0 ≤ a * n ∧ a * n + n ≤ n * n ∧ n * n ≤ 144 := by
  refine ⟨Int.mul_nonneg h0 (by omega), ?_, ?_⟩
  · have := Int.mul_le_mul_of_nonneg_right (show a + 1 ≤ n by omega) (show 0 ≤ n by omega)
    rw [Int.add_mul, Int.one_mul] at this
    exact this
  · exact Int.mul_le_mul h12 h12 (by omega) (by omega)
section
variable {n : Int} {ds : List Dia} {R : List (List Int)}
theorem edge_in {a b : Int} (h0 : 0 ≤ a) (hb : b ≤ n - 1) (hj : Cut.Joined n (ds.map dpair) a b) (h1 : b - a ≠ 1) : (a, b) ∈ (0, n - 1) :: ds.map dpair := by
  rcases hj with hj | hj | hj
  · exact absurd hj h1
  · rw [show (a, b) = (0, n - 1) from Prod.ext (by show a = 0; omega) (by show b = n - 1; omega)]; exact List.mem_cons_self
  · exact List.mem_cons_of_mem _ hj
theorem m1_eq (h : Cut.Good n (ds.map dpair)) (h3 : 3 ≤ n) (h12 : n ≤ 12) (hl : ds.length ≤ 2000000) {a : Int} (h0 : 0 ≤ a) (ha : a < n)
    (hk : ∀ out seen, Inv n (a * n + n) out seen → Ev (fun k => spec_cuPieces.l0 k n ds out seen (a + 1)) (out ++ R)) :
    ∀ (m : Nat) (b : Int) (out : List (List Int)) (seen : List Bool), (n - b).toNat = m → a < b → b ≤ n → Inv n (a * n + b) out seen →
      Ev (fun k => spec_cuPieces.l1 k n ds out seen a b) (out ++ ((rowE n (ds.map dpair) a m b).map (Cut.piece (ds.map dpair)) ++ R)) := by
  obtain ⟨hq0, hq1, hq2⟩ := square_le h3 h12 h0 ha
  intro m
  induction m with
  | zero =>
    intro b out seen hm hab hb hI
    have e : b = n := by omega
    subst e
    refine Ev.succ (Ev.congr (hk out seen hI) fun k => ?_)
    simp only [spec_cuPieces.l1]
    rw [if_neg (by omega), w64n (show _ ≤ a + 1 by omega) (by omega)]
  | succ m ih =>
    intro b out seen hm hab hb hI
    have hlt : b < n := by omega
    refine Ev.succ ?_
    have hjd := poJoined_eq h3 h12 ds hl a b (by omega) (by omega)
    have eb : wrap64 (b + 1) = b + 1 := w64n (by omega) (by omega)
    have eq : wrap64 (wrap64 (a * n) + b) = a * n + b := by rw [w64n (show _ ≤ a * n by omega) (by omega), w64n (show _ ≤ a * n + b by omega) (by omega)]
    have hskip : ¬ (Cut.Joined n (ds.map dpair) a b ∧ b - a ≠ 1) → Ev (fun k => spec_cuPieces.j2 k n ds out seen a b true) (out ++ ((rowE n (ds.map dpair) a (m + 1) b).map (Cut.piece (ds.map dpair)) ++ R)) := fun hc => by
      have h1 := ih (b + 1) out seen (by omega) (by omega) (by omega) (hI.mono (by omega))
      refine Ev.succ (Ev.congr (Ev.val h1 ?_) fun k => ?_)
      · rw [rowE, if_neg hc, List.nil_append]
      · simp only [spec_cuPieces.j2, if_true, eb]
    obtain ⟨K, hK⟩ := hjd
    replace hK : ∀ k, K ≤ k → spec_poJoined.f k n ds a b = some (decide (Cut.Joined n (ds.map dpair) a b)) := hK
    by_cases hj : Cut.Joined n (ds.map dpair) a b
    · have hD : decide (Cut.Joined n (ds.map dpair) a b) = true := decide_eq_true hj
      by_cases h1 : b - a = 1
      · refine Ev.on K (hskip fun hc => hc.2 h1) fun k hk => ?_
        simp only [spec_cuPieces.l1]
        rw [if_pos (by omega), hK k hk, hD]
        simp only [Option.bind_some, if_true]
        rw [w64n (show _ ≤ b - a by omega) (by omega), if_pos h1]
      · have he := edge_in h0 (show b ≤ n - 1 by omega) hj h1
        have hed := Cut.edge_of h he h3
        have hst := Cut.walk_start h h3 he
        simp only at hed hst
        have hfree : rdOf false seen (a * n + b) = false := by
          have := hI.free (a * n + b).toNat (by omega)
          exact this
        have hI2 : Inv n (a * n + (b + 1)) (out ++ [Cut.piece (ds.map dpair) (a, b)]) (seen.set (a * n + b).toNat true) := by
          refine ⟨fun i hi => ?_, by rw [List.length_set]; exact hI.len, by rw [List.length_append, List.length_singleton]; have := hI.few; omega⟩
          rw [List.getD_eq_getElem?_getD, List.getElem?_set_ne (by omega), ← List.getD_eq_getElem?_getD]
          exact hI.free i (by omega)
        have hnext := ih (b + 1) _ _ (by omega) (by omega) (by omega) hI2
        have hl2 := l2_eq (out := out) (seen := seen.set (a * n + b).toNat true) h h3 h12 hl he (by have := hI.few; omega) hnext _ a (Nat.le_refl _) hst.1
        rw [hst.2.2.1] at hl2
        have hlen := hI.len
        have hj2 : Ev (fun k => spec_cuPieces.j2 k n ds out seen a b false) (out ++ ((rowE n (ds.map dpair) a (m + 1) b).map (Cut.piece (ds.map dpair)) ++ R)) := by
          refine Ev.succ (Ev.congr (Ev.val hl2 ?_) fun k => ?_)
          · rw [rowE, if_pos ⟨hj, h1⟩]; simp
          · simp only [spec_cuPieces.j2]
            rw [if_neg Bool.false_ne_true, eq, if_pos (by omega), if_pos (by omega)]
        refine Ev.on K hj2 fun k hk => ?_
        simp only [spec_cuPieces.l1]
        rw [if_pos (by omega), hK k hk, hD]
        simp only [Option.bind_some, if_true]
        rw [w64n (show _ ≤ b - a by omega) (by omega), if_neg h1, eq, if_pos (by omega), if_pos (by omega), hfree]
    · have hD : decide (Cut.Joined n (ds.map dpair) a b) = false := decide_eq_false hj
      refine Ev.on K (hskip fun hc => hj hc.1) fun k hk => ?_
      simp only [spec_cuPieces.l1]
      rw [if_pos (by omega), hK k hk, hD]
      simp only [Option.bind_some, Bool.false_eq_true, if_false]
theorem m0_eq (h : Cut.Good n (ds.map dpair)) (h3 : 3 ≤ n) (h12 : n ≤ 12) (hl : ds.length ≤ 2000000) : ∀ (m : Nat) (a : Int) (out : List (List Int)) (seen : List Bool), (n - a).toNat = m → 0 ≤ a → a ≤ n → Inv n (a * n) out seen →
    Ev (fun k => spec_cuPieces.l0 k n ds out seen a) (out ++ (allE n (ds.map dpair) m a).map (Cut.piece (ds.map dpair)))
  | 0, a, out, seen, hm, h0, ha, hI => by
    have e : a = n := by omega
    refine Ev.succ (Ev.const fun k => ?_)
    simp only [spec_cuPieces.l0]
    rw [if_neg (by omega), allE, List.map_nil, List.append_nil]
  | m + 1, a, out, seen, hm, h0, ha, hI => by
    have hlt : a < n := by omega
    obtain ⟨hq0, hq1, hq2⟩ := square_le h3 h12 h0 hlt
    have h1 := m1_eq (R := (allE n (ds.map dpair) m (a + 1)).map (Cut.piece (ds.map dpair))) h h3 h12 hl h0 hlt (fun out seen hI => m0_eq h h3 h12 hl m (a + 1) out seen (by omega) (by omega) (by omega) (by rw [Int.add_mul, Int.one_mul]; exact hI)) _ (a + 1) out seen rfl (by omega) (by omega) (hI.mono (by omega))
    refine Ev.succ (Ev.congr (Ev.val h1 ?_) fun k => ?_)
    · rw [allE, List.map_append]
    · simp only [spec_cuPieces.l0]
      rw [if_pos (by omega), w64n (show _ ≤ a + 1 by omega) (by omega)]
theorem mem_rowE {D : List (Int × Int)} {a : Int} {e : Int × Int} : ∀ (m : Nat) (b : Int), e ∈ rowE n D a m b ↔ e.1 = a ∧ b ≤ e.2 ∧ e.2 < b + m ∧ Cut.Joined n D a e.2 ∧ e.2 - a ≠ 1
  | 0, b => by
    rw [rowE]
    exact ⟨fun h => (by cases h), fun h => by omega⟩
  | m + 1, b => by
    rw [rowE, List.mem_append, mem_rowE m (b + 1)]
    by_cases hc : Cut.Joined n D a b ∧ b - a ≠ 1
    · rw [if_pos hc, List.mem_singleton]
      constructor
      · rintro (rfl | ⟨h1, h2, h3, h4⟩)
        · exact ⟨rfl, Int.le_refl _, by show b < _; omega, hc⟩
        · exact ⟨h1, by omega, by omega, h4⟩
      · rintro ⟨h1, h2, h3, h4⟩
        by_cases e2 : e.2 = b
        · left; exact Prod.ext h1 e2
        · right; exact ⟨h1, by omega, by omega, h4⟩
    · rw [if_neg hc]
      constructor
      · rintro (h | ⟨h1, h2, h3, h4⟩)
        · cases h
        · exact ⟨h1, by omega, by omega, h4⟩
      · rintro ⟨h1, h2, h3, h4⟩
        by_cases e2 : e.2 = b
        · rw [e2] at h4; exact absurd h4 hc
        · right; exact ⟨h1, by omega, by omega, h4⟩
theorem nodup_rowE {D : List (Int × Int)} {a : Int} : ∀ (m : Nat) (b : Int), (rowE n D a m b).Nodup
  | 0, b => by rw [rowE]; exact List.nodup_nil
  | m + 1, b => by
    rw [rowE]
    by_cases hc : Cut.Joined n D a b ∧ b - a ≠ 1
    · rw [if_pos hc, List.singleton_append, List.nodup_cons]
      refine ⟨fun h => ?_, nodup_rowE m (b + 1)⟩
      have := ((mem_rowE m (b + 1)).1 h).2.1
      simp only at this
      omega
    · rw [if_neg hc, List.nil_append]; exact nodup_rowE m (b + 1)
theorem mem_allE {D : List (Int × Int)} {e : Int × Int} : ∀ (m : Nat) (a : Int), (n - a).toNat = m → a ≤ n → (e ∈ allE n D m a ↔ a ≤ e.1 ∧ e.1 < e.2 ∧ e.2 < n ∧ Cut.Joined n D e.1 e.2 ∧ e.2 - e.1 ≠ 1)
  | 0, a, hm, ha => by
    rw [allE]
    exact ⟨fun h => (by cases h), fun h => by omega⟩
  | m + 1, a, hm, ha => by
    rw [allE, List.mem_append, mem_allE m (a + 1) (by omega) (by omega), mem_rowE]
    constructor
    · rintro (⟨h1, h2, h3, h4⟩ | ⟨h1, h2, h3, h4⟩)
      · rw [h1]; exact ⟨by omega, by omega, by omega, h4⟩
      · exact ⟨by omega, h2, h3, h4⟩
    · rintro ⟨h1, h2, h3, h4⟩
      by_cases e1 : e.1 = a
      · left; rw [e1] at h2 h4; exact ⟨e1, by omega, by omega, h4⟩
      · right; exact ⟨by omega, h2, h3, h4⟩
theorem nodup_allE {D : List (Int × Int)} : ∀ (m : Nat) (a : Int), (n - a).toNat = m → a ≤ n → (allE n D m a).Nodup
  | 0, a, _, _ => by rw [allE]; exact List.nodup_nil
  | m + 1, a, hm, ha => by
    rw [allE, List.nodup_append]
    refine ⟨nodup_rowE _ _, nodup_allE m (a + 1) (by omega) (by omega), fun x hx y hy e => ?_⟩
    have h1 := ((mem_rowE _ _).1 hx).1
    have h2 := ((mem_allE m (a + 1) (by omega) (by omega)).1 hy).1
    rw [e] at h1
    omega
theorem allE_perm {D : List (Int × Int)} (h : Cut.Good n D) (h3 : 3 ≤ n) : (allE n D n.toNat 0).Perm ((0, n - 1) :: D) := by
  refine (List.perm_ext_iff_of_nodup (nodup_allE _ _ (by omega) (by omega)) ?_).2 fun e => ?_
  · rw [List.nodup_cons]
    exact ⟨fun hx => (h.dia _ hx).2.2.2 rfl, h.nodup⟩
  · rw [mem_allE _ _ (by omega) (by omega)]
    constructor
    · rintro ⟨h1, h2, h4, hj, hne⟩
      rcases hj with hj | hj | hj
      · exact absurd hj hne
      · rw [show e = (0, n - 1) from Prod.ext (by show e.1 = 0; omega) (by show e.2 = n - 1; omega)]; exact List.mem_cons_self
      · exact List.mem_cons_of_mem _ hj
    · intro he
      rcases List.mem_cons.1 he with rfl | he
      · exact ⟨Int.le_refl _, by show (0 : Int) < n - 1; omega, by show n - 1 < n; omega, Or.inr (Or.inl (by show n - 1 - 0 = n - 1; omega)), by show n - 1 - 0 ≠ 1; omega⟩
      · have := h.dia e he
        exact ⟨by omega, by omega, by omega, Or.inr (Or.inr he), by omega⟩
theorem cuPieces_eq (h : Cut.Good n (ds.map dpair)) (h3 : 3 ≤ n) (h12 : n ≤ 12) (hl : ds.length ≤ 100000) : Ev (fun k => spec_cuPieces.f k n ds) (Lex.sort (cutAll n ds)) := by
  obtain ⟨-, -, hq⟩ := square_le h3 h12 (show (0 : Int) ≤ 0 by omega) (by omega)
  have hq0 : 0 ≤ n * n := Int.mul_nonneg (by omega) (by omega)
  have hp := (allE_perm h h3).map (Cut.piece (ds.map dpair))
  have hce := Cut.cuts_eq (n := n) h3 (ds.map dpair) [] (by rw [List.nil_append]; exact h)
  have hca : cutAll n ds = ((0, n - 1) :: ds.map dpair).map (Cut.piece (ds.map dpair)) := by
    unfold cutAll
    rw [← Cut.piece_whole]
    exact hce
  have h0 := m0_eq h h3 h12 (by omega) n.toNat 0 [] (List.replicate (n * n).toNat false) (by omega) (by omega) (by omega) ⟨fun i _ => by rw [List.getD_eq_getElem?_getD, List.getElem?_replicate]; split <;> rfl, by rw [List.length_replicate]; omega, by simp⟩
  rw [List.nil_append] at h0
  have hf0 : Ev (fun k => spec_cuPieces.f0 k n ds) ((allE n (ds.map dpair) n.toNat 0).map (Cut.piece (ds.map dpair))) := by
    refine Ev.congr h0 fun k => ?_
    unfold spec_cuPieces.f0
    rw [w64n (show _ ≤ n * n by omega) (by omega), if_pos hq0, if_pos (by omega)]
  refine Ev.congr (Ev.bind (g := fun _ r => if r.length ≤ 4294967296 then some (Lex.sort r) else none) hf0 (b := Lex.sort (cutAll n ds)) (Ev.const fun k => ?_)) fun k => rfl
  show (if _ then _ else _) = _
  rw [if_pos, hca, Lex.sort_of_perm hp]
  have := hp.length_eq
  rw [this, List.length_map, List.length_cons, List.length_map]
  omega
end
end Go.Proofs.Ytggocekjhohhcaa.P

/- What sizes hands back. -/
namespace Go.Proofs.Ytggocekjhohhcaa.P
set_option linter.unusedVariables false
set_option linter.unusedSimpArgs false
open Go.RowKit Go.Proofs.YtggocekjhohhcaaW.PrintWords Go.Proofs.YtggocekjhohhcaaW.PrintLast Go.Proofs.YtggocekjhohhcaaW.PrintMore
def lensOf (rows : List (List Int)) : List Int := rows.map fun r => (r.length : Int)
theorem lensOf_take {rows : List (List Int)} {m : Nat} (h : m < rows.length) : lensOf (rows.take (m + 1)) = lensOf (rows.take m) ++ [(rows[m].length : Int)] := by
  unfold lensOf
  rw [List.take_succ_eq_append_getElem h, List.map_append]
  rfl
def sizesAll (n : Int) (ds : List Dia) : List Int := (lensOf (Lex.sort (cutAll n ds))).mergeSort fun x y => decide (x ≤ y)
set_option maxHeartbeats 4000000 in
set_option maxRecDepth 100000 in
theorem impl_sizes.walk (n : Nat) (A1 : Option Addr) (c1 : Nat) (ds : List Dia) (w : World) (hn : n ≤ 1000) (hr : Kd.C k59 w A1 ds.length ds) (hc : ds.length ≤ c1) (hd : ∀ d ∈ ds, d.f0 < d.f1) (hl : ds.length ≤ 1000) :
    Calls Try.prog 55 #[.int .i64 n, .slice A1 ds.length c1] w fun e w' => ∃ v, e = .returned v ∧ (Kd.int .i64).R 3 w' w.heap.size (fun _ => True) v (sizesAll n ds) ∧ Below w.heap.size w w' := by
  have HR := Aside0.mk hr
  have HD := Aside0.mk hd
  have HC := Aside0.mk hc
  clear hr hd hc
  have hu24 := Try.underlying24
  have hu34 := Try.underlying34
  have hu3 := Try.underlying3
  have HLL := Aside0.mk (show (Lex.sort (cutAll n ds)).length ≤ 1001 by have h1 := (Lex.sort_perm (cutAll n ds)).length_eq; have h2 := cutAll_length n ds; omega)
  have HRL := Aside0.mk (show ∀ r ∈ Lex.sort (cutAll n ds), r.length ≤ 1000 from fun r hr => Nat.le_trans (cutAll_len n ds r ((Lex.sort_perm (cutAll n ds)).mem_iff.1 hr)) hn)
  unfold sizesAll
  obtain ⟨rows, hrows⟩ : ∃ rows, rows = Lex.sort (cutAll n ds) := ⟨_, rfl⟩
  rw [← hrows] at HLL HRL ⊢
  have HRW := Aside0.mk hrows
  clear hrows
  go_enter Try.func55, Try.ntmps55
  go_wp2_with (first
    | ((with_reducible refine gate_dst (N := 8) rfl ?_); refine Kd.R_lit (Kd.int .i64) (w0 := w) w.heap.size 3 ?hg (N := 8) ?hd (xs := ([] : List Int)) (inner := []) (ok := fun _ => True) (okp := fun _ => True) ?hr ?hp (fun _ hk => hk) trivial (Below.refl _ _) (Nat.le_refl _) (by simp) ?_; (case hd => rfl); (case hg => rfl); (case hr => first | (go_simp; done) | (go_simp; rfl)); (case hp => exact (Reps.none _ _)); intro v8 w8 ho hb hg_ hn_; have H8 := Aside0.mk ho; have B8 := Aside0.mk hb; clear ho hb hg_ hn_)
    | (go_at_call 43; refine (impl_pieces.walk n A1 c1 ds w8 hn (Kd.C_below HR.out B8.out) HC.out HD.out hl).mono ?_; rintro e w11 ⟨v11, rfl, ho, hb⟩; rw [← HRW.out] at ho; obtain ⟨A11, c11, e11⟩ := Kd.S_slice ho; subst e11; have HS11 := Aside0.mk (Kd.S_mono (ok' := fun k => w8.heap.size ≤ k ∧ k < w11.heap.size) (Kd.S_bound ho) (fun k hk => ⟨hk.2.1, hk.2.2.1⟩)); have HR11 := Aside0.mk (Kd.R_mono (ok' := fun k => k < w8.heap.size ∨ w11.heap.size ≤ k) (Kd.R_below (Kd.R_bound H8.out) hb) (fun k hk => Or.inl hk.2.2.1)); have HB11 := Aside0.mk (B8.out.trans (hb.mono B8.out.size)); clear ho hb))
  have hll := HLL.out
  go_loopg [5, 13] rows.length (fun gg v5 v13 wr => ∃ m : Nat, m ≤ rows.length ∧ rows.length - m ≤ gg ∧ v13 = .int .i64 m ∧ Aside0 ((Kd.int .i64).R 3 wr w.heap.size (fun k => k < w8.heap.size ∨ w11.heap.size ≤ k) v5 (lensOf (rows.take m))) ∧ Aside0 (Kd.S kRow 34 wr w8.heap.size (fun k => w8.heap.size ≤ k ∧ k < w11.heap.size) (.slice A11 rows.length c11) rows) ∧ Aside0 (Below w.heap.size w wr) ∧ Aside0 (w11.heap.size ≤ wr.heap.size))
  case atStart => exact ⟨0, Nat.zero_le _, by omega, rfl, HR11, HS11, HB11, ⟨Nat.le_refl _⟩⟩
  case round =>
    obtain ⟨m, hm, hg, rfl, HO, HS, HB, HZ⟩ := hrel
    by_cases hlt : m < rows.length
    · have hltz : (m : Int) < (rows.length : Int) := by omega
      obtain ⟨g7, cap7, e7, hbg7, hlg7, cells7, hcb7⟩ := Kd.S_form HS.out (by omega)
      injection e7 with e7a e7b e7c
      subst e7a e7c
      obtain ⟨Am, cm, hcm, hfrm, hcm2, hCm, hRM⟩ := S_cellAt HS.out hlt rfl
      have HTK := Aside0.mk (lensOf_take hlt)
      have hrl := HRL.out _ (List.getElem_mem hlt)
      have HLN := Aside0.mk (show (lensOf (rows.take m)).length ≤ 1001 by unfold lensOf; rw [List.length_map, List.length_take]; omega)
      clear hcb7 hfrm hcm2 hCm hRM hbg7 hlg7
      generalize rows[m] = p at hcm HTK hrl
      go_wp2_with ((with_reducible refine gate_builtin (b := .append) (xs := #[.tmp 17, .tmp 20]) rfl ?_); at_builtin; refine Kd.R_append (Kd.int .i64) (w0 := w) w.heap.size rfl (.tmp 17) (.tmp 20) 34 3 (.int .i64 0) 8 rfl hu34 intInfo rfl (by decide) (by omega) _ (lensOf (rows.take m)) (p.length : Int) [.int .i64 p.length] (fun k => k < w8.heap.size ∨ w11.heap.size ≤ k) (fun _ => False) rfl rfl rfl (fun _ hk => hk.elim) (fun k hk => Or.inr (Nat.le_trans HZ.out hk)) HO.out HB.out (below_size HB.out) (by have := HLN.out; omega) ?_; intro v21 w21 ho hb hg_ hat; have H21 := Aside0.mk ho; have B21 := Aside0.mk hb; have HS21 := Aside0.mk (Kd.S_grown HS.out hg_ (fun k hk e => by have h1 := HO.out.1 k e.symm; omega)); have HZ21 := Aside0.mk (Nat.le_trans HZ.out hg_.size); clear ho hb hg_ hat)
      go_roundg (rows.length - (m + 1))
      case measure => omega
      case rel => exact ⟨m + 1, by omega, by omega, by go_num, ⟨by rw [HTK.out]; exact H21.out⟩, HS21, B21, HZ21⟩
    · have hltz : ¬ (m : Int) < (rows.length : Int) := by omega
      have e : m = rows.length := by omega
      subst e
      rw [List.take_length] at HO
      have HLN := Aside0.mk (show (lensOf rows).length < 4611686018427387904 by unfold lensOf; rw [List.length_map]; omega)
      go_wp2_with (go_at_call 92; refine (sort_ints _ _ _ _ _ HO.out HLN.out).mono ?_; rintro e w77 ⟨rfl, ho, hgr⟩; have H77 := Aside0.mk ho; have B77 := Aside0.mk (HB.out.grown hgr (below_size HB.out) (Kd.R_base HO.out)); clear ho hgr)
      go_ret
      exact ⟨_, rfl, Kd.R_mono H77.out (fun _ _ => trivial), B77.out⟩
end Go.Proofs.Ytggocekjhohhcaa.P

/- The contracts of pieces and sizes. -/
namespace Go.Proofs.Ytggocekjhohhcaa.P
set_option linter.unusedVariables false
open Go.RowKit Go.Proofs.YtggocekjhohhcaaW.PrintWords
def cutArgs (n : Int) (ds : List Dia) : Prop := 0 ≤ n ∧ n ≤ 1000 ∧ ds.length ≤ 1000 ∧ ∀ d ∈ ds, d.f0 < d.f1
instance (n : Int) (ds : List Dia) : Decidable (cutArgs n ds) := by unfold cutArgs; infer_instance
def impl_pieces.f (a0 : Int) (l1 : List Dia) : Option (List (List Int)) := if cutArgs a0 l1 then some (Lex.sort (cutAll a0 l1)) else none
def impl_sizes.f (a0 : Int) (l1 : List Dia) : Option (List Int) := if cutArgs a0 l1 then some (sizesAll a0 l1) else none
theorem impl_pieces.calls (a0 : Int) (A1 : Option Addr) (c1 : Nat) (l1 : List Dia) (r : List (List Int)) (w : World) (hr1 : Kd.C k59 w A1 l1.length l1) (hc1 : l1.length ≤ c1) (h : impl_pieces.f a0 l1 = some r) :
    Calls Try.prog 43 #[.int .i64 a0, .slice A1 l1.length c1] w fun e w' => ∃ v0_ : Value, e = .returned (v0_) ∧ Kd.S (Kd.slice 3 (Kd.int .i64)) 34 w' w.heap.size (fun _ => True) v0_ r ∧ Below w.heap.size w w' := by
  unfold impl_pieces.f at h
  split at h
  · rename_i hA
    obtain ⟨h0, h1, h2, h3⟩ := hA
    obtain ⟨n, rfl⟩ := Int.eq_ofNat_of_zero_le h0
    cases h
    exact impl_pieces.walk n A1 c1 l1 w (by omega) hr1 hc1 h3 h2
  · cases h
theorem impl_sizes.calls (a0 : Int) (A1 : Option Addr) (c1 : Nat) (l1 : List Dia) (r : List Int) (w : World) (hr1 : Kd.C k59 w A1 l1.length l1) (hc1 : l1.length ≤ c1) (h : impl_sizes.f a0 l1 = some r) :
    Calls Try.prog 55 #[.int .i64 a0, .slice A1 l1.length c1] w fun e w' => ∃ v0_ : Value, e = .returned (v0_) ∧ Kd.R (Kd.int .i64) 3 w' w.heap.size (fun _ => True) v0_ r ∧ Below w.heap.size w w' := by
  unfold impl_sizes.f at h
  split at h
  · rename_i hA
    obtain ⟨h0, h1, h2, h3⟩ := hA
    obtain ⟨n, rfl⟩ := Int.eq_ofNat_of_zero_le h0
    cases h
    exact impl_sizes.walk n A1 c1 l1 w (by omega) hr1 hc1 h3 h2
  · cases h
end Go.Proofs.Ytggocekjhohhcaa.P

/- The law's own functions on lists of diagonals; what a good list is. -/
namespace Go.Proofs.Ytggocekjhohhcaa.P
set_option linter.unusedVariables false
set_option linter.unusedSimpArgs false
open Go.RowKit Go.Proofs.YtggocekjhohhcaaW.PrintWords
abbrev LDia := S61
def toD (s : LDia) : Dia := ⟨s.f0, s.f1⟩
theorem sz_eq (l : List LDia) (hl : l.length ≤ 9223372036854775807) : laws_szDiagonalS.f l 1048576 = some (if l.length ≤ 1048576 then 1048576 - (l.length : Int) else -1) := by
  unfold laws_szDiagonalS.f
  rw [show wrap64 (1048576 - (l.length : Int)) = 1048576 - (l.length : Int) from by unfold wrap64; omega]
  by_cases h : l.length ≤ 1048576
  · rw [if_neg (by omega), if_pos h]
  · rw [if_pos (by omega), if_neg h]
theorem to_l0 (l : List LDia) (hl : l.length ≤ 2000000) : ∀ m j, l.length - j = m → j ≤ l.length → Ev (fun k => laws_toDiagonalS.l0 k l ((l.take j).map toD ++ List.replicate m z59) (j : Int)) (l.map toD)
  | 0, j, hm, hj => by
    have e : j = l.length := by omega
    subst e
    refine Ev.succ (Ev.const fun k => ?_)
    simp only [laws_toDiagonalS.l0]
    rw [if_neg (by omega), List.take_length, List.replicate_zero, List.append_nil]
  | m + 1, j, hm, hj => by
    have hlt : j < l.length := by omega
    have ih := to_l0 l hl m (j + 1) (by omega) (by omega)
    refine Ev.succ (Ev.congr ih fun k => ?_)
    simp only [laws_toDiagonalS.l0]
    rw [if_pos (by omega), if_pos (by omega)]
    have hg : rd_T61 l (j : Int) = l[j] := by unfold rd_T61; rw [Int.toNat_natCast]; simp [hlt]
    rw [hg]
    unfold laws_toDiagonal.f
    simp only [Option.bind_some]
    rw [if_pos (by rw [List.length_append, List.length_map, List.length_take, List.length_replicate]; omega), w64s (by omega), Int.toNat_natCast]
    congr 1
    have hlen : ((l.take j).map toD).length = j := by rw [List.length_map, List.length_take]; omega
    rw [List.set_append_right _ _ (by omega), hlen, Nat.sub_self, List.replicate_succ, List.set_cons_zero, List.take_succ_eq_append_getElem hlt, List.map_append, List.append_assoc]
    rfl
theorem toS_eq (l : List LDia) (hl : l.length ≤ 2000000) : Ev (fun k => laws_toDiagonalS.f k l) (l.map toD) := by
  have h := to_l0 l hl l.length 0 (by omega) (by omega)
  refine Ev.congr h fun k => ?_
  unfold laws_toDiagonalS.f
  rw [if_pos (by omega), if_pos (by omega), Int.toNat_natCast]
  rfl
theorem eq_l0 (l : List Dia) (hl : l.length ≤ 2000000) : ∀ m j, l.length - j = m → j ≤ l.length → Ev (fun k => laws_eqDiagonalS.l0 k l l (j : Int)) true
  | 0, j, hm, hj => by
    refine Ev.succ (Ev.const fun k => ?_)
    simp only [laws_eqDiagonalS.l0]
    rw [if_neg (by omega)]
  | m + 1, j, hm, hj => by
    have ih := eq_l0 l hl m (j + 1) (by omega) (by omega)
    refine Ev.succ (Ev.congr ih fun k => ?_)
    simp only [laws_eqDiagonalS.l0]
    rw [if_pos (by omega), if_pos (by omega), if_pos (by omega)]
    unfold laws_eqDiagonal.f
    rw [if_pos rfl, if_pos rfl]
    simp only [Option.bind_some, if_true]
    rw [w64s (by omega)]
theorem eqS_eq (l : List Dia) (hl : l.length ≤ 2000000) : Ev (fun k => laws_eqDiagonalS.f k l l) true := by
  have h := eq_l0 l hl l.length 0 (by omega) (by omega)
  refine Ev.congr h fun k => ?_
  unfold laws_eqDiagonalS.f
  rw [if_pos rfl]
  rfl
theorem goodFrom_at {n : Int} {ds : List Dia} : ∀ (m i : Nat), goodFrom n ds i m = true → ∀ j, i ≤ j → j < i + m → goodAt n ds j = true
  | 0, i, _, j, h1, h2 => by omega
  | m + 1, i, h, j, h1, h2 => by
    unfold goodFrom at h
    rw [Bool.and_eq_true] at h
    by_cases e : j = i
    · subst e; exact h.1
    · exact goodFrom_at m (i + 1) h.2 j (by omega) (by omega)
structure GoodD (n : Int) (ds : List Dia) : Prop where
  lo : 3 ≤ n
  hi : n ≤ 12
  few : (ds.length : Int) ≤ n - 3
  cut : Cut.Good n (ds.map dpair)
theorem goodB_good {n : Int} {ds : List Dia} (h : goodB n ds = true) : GoodD n ds := by
  unfold goodB at h
  rw [Bool.and_eq_true, Bool.and_eq_true, decide_eq_true_eq, decide_eq_true_eq] at h
  obtain ⟨⟨⟨h3, h12⟩, hf⟩, hg⟩ := h
  have hat : ∀ j (hj : j < ds.length), goodAt n ds j = true := fun j hj => goodFrom_at _ 0 hg j (by omega) (by omega)
  have hgd : ∀ j (hj : j < ds.length), gd ds j = ds[j] := fun j hj => by simp [gd, hj]
  have hdia : ∀ j (hj : j < ds.length), diagB n ds[j] = true := fun j hj => by
    have h := hat j hj
    unfold goodAt at h
    rw [Bool.and_eq_true, Bool.and_eq_true, hgd j hj] at h
    exact h.1.1
  have hless : ∀ j (hj : j + 1 < ds.length), lessB ds[j] ds[j + 1] = true := fun j hj => by
    have h := hat (j + 1) hj
    unfold goodAt at h
    rw [Bool.and_eq_true, Bool.and_eq_true, hgd (j + 1) hj] at h
    have h2 := h.1.2
    rw [Nat.add_sub_cancel, hgd j (by omega)] at h2
    simpa using h2
  have hcr : ∀ i j (hi : i < j) (hj : j < ds.length), crossD ds[j] ds[i] = false := fun i j hi hj => by
    have h := hat j hj
    unfold goodAt at h
    rw [Bool.and_eq_true, Bool.and_eq_true, hgd j hj] at h
    have h2 := h.2
    rw [Bool.not_eq_true', List.any_eq_false] at h2
    have h5 := h2 ds[i] (by rw [List.mem_take_iff_getElem]; exact ⟨i, by omega, rfl⟩)
    simpa using h5
  have hlt : ∀ (t i : Nat) (hj : i + t + 1 < ds.length), lessB ds[i] ds[i + t + 1] = true := fun t => by
    induction t with
    | zero => exact fun i hj => hless i hj
    | succ t ih =>
      intro i hj
      have a1 := ih i (by omega)
      have a2 := hless (i + t + 1) (by omega)
      unfold lessB at a1 a2 ⊢
      rw [decide_eq_true_eq] at a1 a2 ⊢
      have e : ds[i + (t + 1) + 1] = ds[i + t + 1 + 1] := rfl
      rw [e]
      omega
  refine ⟨h3, h12, hf, ⟨?_, ?_, ?_⟩⟩
  · intro d hd
    obtain ⟨x, hx, rfl⟩ := List.mem_map.1 hd
    obtain ⟨j, hj, rfl⟩ := List.getElem_of_mem hx
    have h := hdia j hj
    unfold diagB at h
    rw [decide_eq_true_eq] at h
    refine ⟨h.1, by show ds[j].f0 + 2 ≤ ds[j].f1; omega, h.2.1, fun e => ?_⟩
    have e1 : ds[j].f0 = 0 := congrArg Prod.fst e
    have e2 : ds[j].f1 = n - 1 := congrArg Prod.snd e
    omega
  · intro d hd e he
    obtain ⟨x, hx, rfl⟩ := List.mem_map.1 hd
    obtain ⟨i, hi, rfl⟩ := List.getElem_of_mem hx
    obtain ⟨y, hy, rfl⟩ := List.mem_map.1 he
    obtain ⟨j, hj, rfl⟩ := List.getElem_of_mem hy
    show ¬ (ds[i].f0 < ds[j].f0 ∧ ds[j].f0 < ds[i].f1 ∧ ds[i].f1 < ds[j].f1)
    rintro ⟨c1, c2, c3⟩
    rcases Nat.lt_trichotomy i j with h | h | h
    · have := hcr i j h hj
      unfold crossD at this
      simp [c1, c2, c3] at this
    · subst h; omega
    · have := hcr j i h hi
      unfold crossD at this
      simp [c1, c2, c3] at this
  · rw [List.Nodup, List.pairwise_map, List.pairwise_iff_getElem]
    intro i j hi hj hij e
    have := hlt (j - i - 1) i (by omega)
    have e3 : ds[i + (j - i - 1) + 1]'(by omega) = ds[j] := by congr 1; omega
    rw [e3] at this
    unfold lessB at this
    rw [decide_eq_true_eq] at this
    have e1 : ds[i].f0 = ds[j].f0 := congrArg Prod.fst e
    have e2 : ds[i].f1 = ds[j].f1 := congrArg Prod.snd e
    omega
theorem GoodD.args {n : Int} {ds : List Dia} (h : GoodD n ds) : cutArgs n ds := by
  have h1 := h.lo
  have h2 := h.hi
  have h3 := h.few
  refine ⟨by omega, by omega, by omega, fun d hd => ?_⟩
  have := h.cut.dia (dpair d) (List.mem_map_of_mem hd)
  have h5 : d.f0 + 2 ≤ d.f1 := this.2.1
  omega
end Go.Proofs.Ytggocekjhohhcaa.P

-- By a program of this session.
namespace Go.Proofs.Ytggocekjhohhcaa.P
open Go.RowKit Go.Proofs.YtggocekjhohhcaaW.PrintWords Go.Proofs.YtggocekjhohhcaaW.PrintLast Go.Proofs.YtggocekjhohhcaaW.PrintMore
attribute [local go_sem] max2_int min2_int max_two min_two max_three min_three max_four min_four
set_option linter.unusedVariables false
set_option linter.unusedSimpArgs false

/-! ### laws_markIntS: function 26 -/
def laws_markIntS.l0 : Nat → List Int → Int → Int → Option (Int × List Int)
 | 0, _, _, _ => none
 | k + 1, x0, x1, x5 => if x5 < (x0.length : Int) then (if 0 ≤ x5 then (laws_markIntS.l0 k (x0.set (x5 : Int).toNat x1) (wrap64 (x1 + 1)) (wrap64 (x5 + 1))) else (none)) else (some (x1, x0))
def laws_markIntS.f (k : Nat) (l0 : List Int) (a1 : Int) : Option (Int × List Int) := laws_markIntS.l0 k l0 a1 0
theorem laws_markIntS.mono_l : ∀ k, (∀ y0 y1 y2, LeO (laws_markIntS.l0 k y0 y1 y2) (laws_markIntS.l0 (k + 1) y0 y1 y2))
 | 0 => fun _ _ _ r h => by simp [laws_markIntS.l0] at h
 | k + 1 => by
  have ih0 := laws_markIntS.mono_l k
  ·intro y0 y1 y2
   unfold laws_markIntS.l0
   repeat' first
   | (with_reducible exact ih0 _ _ _)
   | (with_reducible exact LeO.refl _)
   | (with_reducible exact LeO.none _)
   | (with_reducible refine LeO.ite ?_ ?_)
   | (with_reducible refine LeO.bind ?_ (fun _ => ?_))
   | apply ih0
   | apply LeO.none
   | refine LeO.ite ?_ ?_
   | refine LeO.bind ?_ (fun _ => ?_)
theorem laws_markIntS.mono : ∀ a0 a1 k, LeO (laws_markIntS.f k a0 a1) (laws_markIntS.f (k + 1) a0 a1) := by
 intro a0 a1 k
 have ih0 := laws_markIntS.mono_l k
 unfold laws_markIntS.f
 repeat' first
   | (with_reducible exact ih0 _ _ _)
   | (with_reducible exact LeO.refl _)
   | (with_reducible exact LeO.none _)
   | (with_reducible refine LeO.ite ?_ ?_)
   | (with_reducible refine LeO.bind ?_ (fun _ => ?_))
   | apply ih0
   | apply LeO.none
   | refine LeO.ite ?_ ?_
   | refine LeO.bind ?_ (fun _ => ?_)
set_option maxHeartbeats 8000000 in
set_option maxRecDepth 100000 in
theorem laws_markIntS.calls (k : Nat) (P0_ : Nat → Prop) (u9000_ : Value) (l0 : List Int) (a1 : Int) (r1 : Int) (r2 : List Int) (w0 w : World) (hB : Below w0.heap.size w0 w) (ho0 : Kd.R (Kd.int .i64) 3 w w0.heap.size P0_ u9000_ l0) (h : laws_markIntS.f k l0 a1 = some (r1, r2)) :
  Calls Try.prog 26 #[u9000_, .int .i64 a1] w fun e w' => e = .returned (.int .i64 r1) ∧ Kd.R (Kd.int .i64) 3 w' w0.heap.size (fun k_ => (P0_ k_ ∨ w.heap.size ≤ k_)) u9000_ r2 ∧ Below w0.heap.size w0 w' ∧ Kept w w' (fun k_ => P0_ k_) := by
 have HO0 := Aside0.mk (show Kd.R (Kd.int .i64) 3 w w0.heap.size (fun k_ => (P0_ k_ ∨ w.heap.size ≤ k_)) u9000_ l0 from Kd.R_mono ho0 (fun k_ hk => (.inl hk)))
 have HK := Aside0.mk (Kept.refl w (fun k_ => P0_ k_))
 have HW0 := Aside0.mk hB.size
 have HB := Aside0.mk hB
 clear hB
 have H : (laws_markIntS.l0 k l0 a1 0) = some (r1, r2) := h
 clear h
 have H' := Aside0.mk H
 clear H
 go_enter Try.func26, Try.ntmps26
 go_wp2
 go_loopg [1, 5] k (fun kq v1 v5 w' => ∃ (x0_1 : List Int) (x1_1 : Int) (x5_1 : Int), v1 = .int .i64 x1_1 ∧ v5 = .int .i64 x5_1 ∧ Aside0 (laws_markIntS.l0 kq x0_1 x1_1 x5_1 = some (r1, r2)) ∧ Aside0 (kq ≤ k) ∧ Aside0 (Kd.R (Kd.int .i64) 3 w' w0.heap.size (fun k_ => (P0_ k_ ∨ w.heap.size ≤ k_)) u9000_ x0_1) ∧ Aside0 (Kept w w' (fun k_ => P0_ k_)) ∧ Aside0 (Below w0.heap.size w0 w'))
 case atStart => exact ⟨(l0), (a1), (0), (by first | rfl | (simp; done) | (simp [*]; done)), (by first | rfl | (simp; done) | (simp [*]; done)), H', ⟨Nat.le_refl _⟩, ⟨by (with_reducible repeat (first | apply Kd.R_alloc | apply Kd.R_drewN | apply Kd.R_drew)); exact HO0.out⟩, ⟨by repeat (first | (with_reducible first | exact HK.out | apply Kept.alloc | apply Kept.drewN | apply Kept.drew) | exact HK.out)⟩, ⟨by repeat (first | (with_reducible first | exact HB.out | apply below_alloc | apply pw_below_drewN | apply below_drew1) | exact HB.out)⟩⟩
 case round =>
  clear H'
  obtain ⟨x0_1, x1_1, x5_1, rfl, rfl, HA, HK1, HO_0, HK, HB⟩ := hrel
  cases gk with
  | zero => exact absurd HA.out (by simp [laws_markIntS.l0])
  | succ k1 =>
   have H := HA.out
   clear HA
   simp only [laws_markIntS.l0] at H
   by_cases c3 : x5_1 < (x0_1.length : Int)
   ·rw [if_pos c3] at H
    have c3b0 : decide (x5_1 < (x0_1.length : Int)) = true := decide_eq_true c3
    clear c3
    by_cases c4 : 0 ≤ x5_1
    ·rw [if_pos c4] at H
     have c4b0 : decide (0 ≤ x5_1) = true := decide_eq_true c4
     clear c4
     obtain ⟨y232, hy232⟩ : ∃ y_ : List Int, y_ = (x0_1.set (x5_1 : Int).toNat x1_1) := ⟨_, rfl⟩
     replace H : (laws_markIntS.l0 k1 y232 (wrap64 (x1_1 + 1)) (wrap64 (x5_1 + 1))) = some (r1, r2) := by first | (rw [hy232]; with_reducible exact H) | (have H2_ := (Option.bind_some _ _).symm.trans H; rw [hy232]; with_reducible exact H2_) | (have H2_ := (Option.bind_some _ _).symm.trans H; with_reducible exact H2_) | with_reducible exact H | (rw [hy232]; exact H) | exact H
     have Ny232 := Aside0.mk hy232
     clear hy232
     have H' := Aside0.mk H
     clear H
     obtain ⟨Ao6, co6, eo6⟩ := Kd.R_slice HO_0.out
     subst eo6
     have p5 : 0 ≤ (x5_1 : Int) := of_decide_eq_true (by first | (with_reducible assumption) | assumption)
     have q5 : (x5_1 : Int) < ((x0_1.length : Int) : Int) := of_decide_eq_true (by first | (with_reducible assumption) | assumption)
     obtain ⟨go5, co5, eo5, gb5, gl5, cl5, HG5⟩ := Kd.R_form HO_0.out (by omega)
     (first | cases eo5 | (injection eo5 with ea_ en_ ec_; (first | subst ea_ | (injection ea_ with ea_; subst ea_)); subst ec_; clear en_))
     have GB5 := Aside0.mk gb5
     have GG5 := Aside0.mk HG5
     clear gb5 gl5 HG5
     have HMgo5 := Aside0.mk (show (P0_ go5 ∨ w.heap.size ≤ go5) from (HO_0.out.1 _ rfl))
     obtain ⟨hx5_0, hf5_0⟩ := Kd.R_celln 0 HO_0.out (x5_1 : Int) p5 q5
     replace p5 := eq_true p5
     replace q5 := eq_true q5
     have HP7 := Kd.R_putg HO_0.out (x5_1 : Int) x1_1
     go_wp2_with (first | ((with_reducible refine gate_store (t := 3) (p := 15) rfl ?_); refine store_event (t := 3) (p := 15) (v := ?vo_w8) (w1 := (wr.setCell ⟨go5, (x5_1 : Int).toNat, none⟩ (.int .i64 x1_1))) ?hg ?ho ?hn ?hr ?_; (case ho => rfl); (case hg => rfl); (case hn => rfl); (case hr => first | (go_simp; done) | (go_simp; rfl)); intro w8 hw; have hg : wr.grownBy w8 (some go5) := (by rw [hw]; exact HP7.2); have hp_ : Kd.R (Kd.int .i64) 3 w8 w0.heap.size (fun k_ => (P0_ k_ ∨ w.heap.size ≤ k_)) (.slice (some ⟨go5, 0, none⟩) x0_1.length co6) y232 := (by rw [hw, Ny232.out]; exact HP7.1); clear HP7; have n0_ := Aside0.mk (hp_); have n1_ := Aside0.mk ((by rw [hw]; exact below_set (HB.out) GB5.out : Below w0.heap.size w0 w8)); have n2_ := Aside0.mk (Kept.of_grown (S := (fun k_ => P0_ k_)) hg (by repeat (first | (with_reducible first | exact HK.out | apply Kept.alloc | apply Kept.drewN | apply Kept.drew) | exact HK.out)) (fun k_ e_ => (HO_0.out.1 k_ e_))); clear HO_0; clear HB; clear HK; have HO_0 := n0_; have HB := n1_; have HK := n2_; clear n0_ n1_ n2_; clear hg hw hp_))
     go_roundg k1
     case measure => have := HK1.out; omega
     case rel => exact ⟨(y232), (wrap64 (x1_1 + 1)), (wrap64 (x5_1 + 1)), (by first | rfl | (simp; done) | (simp [*]; done)), (by first | rfl | (simp; done) | (simp [*]; done)), H', ⟨by have := HK1.out; omega⟩, ⟨by (with_reducible repeat (first | apply Kd.R_alloc | apply Kd.R_drewN | apply Kd.R_drew)); exact HO_0.out⟩, ⟨by repeat (first | (with_reducible first | exact HK.out | apply Kept.alloc | apply Kept.drewN | apply Kept.drew) | exact HK.out)⟩, ⟨by repeat (first | (with_reducible first | exact HB.out | apply below_alloc | apply pw_below_drewN | apply below_drew1) | exact HB.out)⟩⟩
    ·rw [if_neg c4] at H
     exact absurd H (by simp)
   ·rw [if_neg c3] at H
    have c3b0 : decide (x5_1 < (x0_1.length : Int)) = false := decide_eq_false c3
    clear c3
    simp only [Option.some.injEq, Prod.mk.injEq] at H
    obtain ⟨rfl, rfl⟩ := H
    obtain ⟨Ao9, co9, eo9⟩ := Kd.R_slice HO_0.out
    subst eo9
    go_wp2
    go_ret
    exact ⟨eqr, by (with_reducible repeat (first | apply Kd.R_alloc | apply Kd.R_drewN | apply Kd.R_drew)); exact HO_0.out, hk HB, by repeat (first | (with_reducible first | exact HK.out | apply Kept.alloc | apply Kept.drewN | apply Kept.drew) | exact HK.out)⟩

end Go.Proofs.Ytggocekjhohhcaa.P

-- By a program of this session.
namespace Go.Proofs.Ytggocekjhohhcaa.P
open Go.RowKit Go.Proofs.YtggocekjhohhcaaW.PrintWords Go.Proofs.YtggocekjhohhcaaW.PrintLast Go.Proofs.YtggocekjhohhcaaW.PrintMore
attribute [local go_sem] max2_int min2_int max_two min_two max_three min_three max_four min_four
set_option linter.unusedVariables false
set_option linter.unusedSimpArgs false

/-! ### laws_heldIntS: function 27 -/
def laws_heldIntS.l0 : Nat → List Int → Int → Int → Option (Int)
 | 0, _, _, _ => none
 | k + 1, x0, x1, x5 => if x5 < (x0.length : Int) then (if 0 ≤ x5 then (if (rd x0 x5) = x1 then (laws_heldIntS.l0 k x0 (wrap64 (x1 + 1)) (wrap64 (x5 + 1))) else (some (-1))) else (none)) else (some x1)
def laws_heldIntS.f (k : Nat) (l0 : List Int) (a1 : Int) : Option (Int) := laws_heldIntS.l0 k l0 a1 0
theorem laws_heldIntS.mono_l : ∀ k, (∀ y0 y1 y2, LeO (laws_heldIntS.l0 k y0 y1 y2) (laws_heldIntS.l0 (k + 1) y0 y1 y2))
 | 0 => fun _ _ _ r h => by simp [laws_heldIntS.l0] at h
 | k + 1 => by
  have ih0 := laws_heldIntS.mono_l k
  ·intro y0 y1 y2
   unfold laws_heldIntS.l0
   repeat' first
   | (with_reducible exact ih0 _ _ _)
   | (with_reducible exact LeO.refl _)
   | (with_reducible exact LeO.none _)
   | (with_reducible refine LeO.ite ?_ ?_)
   | (with_reducible refine LeO.bind ?_ (fun _ => ?_))
   | apply ih0
   | apply LeO.none
   | refine LeO.ite ?_ ?_
   | refine LeO.bind ?_ (fun _ => ?_)
theorem laws_heldIntS.mono : ∀ a0 a1 k, LeO (laws_heldIntS.f k a0 a1) (laws_heldIntS.f (k + 1) a0 a1) := by
 intro a0 a1 k
 have ih0 := laws_heldIntS.mono_l k
 unfold laws_heldIntS.f
 repeat' first
   | (with_reducible exact ih0 _ _ _)
   | (with_reducible exact LeO.refl _)
   | (with_reducible exact LeO.none _)
   | (with_reducible refine LeO.ite ?_ ?_)
   | (with_reducible refine LeO.bind ?_ (fun _ => ?_))
   | apply ih0
   | apply LeO.none
   | refine LeO.ite ?_ ?_
   | refine LeO.bind ?_ (fun _ => ?_)
set_option maxHeartbeats 8000000 in
set_option maxRecDepth 100000 in
theorem laws_heldIntS.calls (k : Nat) (A0 : Option Addr) (c0 : Nat) (l0 : List Int) (a1 : Int) (r : Int) (w : World) (hr0 : Kd.C (Kd.int .i64) w A0 l0.length l0) (hc0 : l0.length ≤ c0) (h : laws_heldIntS.f k l0 a1 = some r) :
  Calls Try.prog 27 #[.slice A0 l0.length c0, .int .i64 a1] w fun e w' => e = .returned (.int .i64 r) ∧ Drawn0 w w' := by
 have HR0 := Aside0.mk hr0
 have HC0 := Aside0.mk hc0
 clear hr0 hc0
 have H : (laws_heldIntS.l0 k l0 a1 0) = some r := h
 clear h
 have H' := Aside0.mk H
 clear H
 go_enter Try.func27, Try.ntmps27
 go_wp2
 go_loopg [1, 5] k (fun kq v1 v5 w' => ∃ (x1_1 : Int) (x5_1 : Int), v1 = .int .i64 x1_1 ∧ v5 = .int .i64 x5_1 ∧ Aside0 (laws_heldIntS.l0 kq l0 x1_1 x5_1 = some r) ∧ Aside0 (kq ≤ k) ∧ Drawn0 w w')
 case atStart => exact ⟨(a1), (0), (by first | rfl | (simp; done) | (simp [*]; done)), (by first | rfl | (simp; done) | (simp [*]; done)), H', ⟨Nat.le_refl _⟩, by repeat (first | exact Drawn0.refl _ | apply Drawn0.step)⟩
 case round =>
  clear H'
  obtain ⟨x1_1, x5_1, rfl, rfl, HA, HK1, ⟨m1, rfl⟩⟩ := hrel
  cases gk with
  | zero => exact absurd HA.out (by simp [laws_heldIntS.l0])
  | succ k1 =>
   have H := HA.out
   clear HA
   simp only [laws_heldIntS.l0] at H
   by_cases c3 : x5_1 < (l0.length : Int)
   ·rw [if_pos c3] at H
    have c3b0 : decide (x5_1 < (l0.length : Int)) = true := decide_eq_true c3
    clear c3
    by_cases c4 : 0 ≤ x5_1
    ·rw [if_pos c4] at H
     have c4b0 : decide (0 ≤ x5_1) = true := decide_eq_true c4
     clear c4
     by_cases c5 : (rd l0 x5_1) = x1_1
     ·rw [if_pos c5] at H
      have c5b0 : ((rd l0 x5_1) == x1_1) = true := beq_iff_eq.mpr c5
      have c5b1 : ((rd l0 x5_1) != x1_1) = false := bne_eq_false_iff_eq.mpr c5
      clear c5
      have H' := Aside0.mk H
      clear H
      have p234 : 0 ≤ (x5_1 : Int) := of_decide_eq_true (by first | (with_reducible assumption) | assumption)
      have q234 : x5_1 < (l0.length : Int) := of_decide_eq_true (by first | (with_reducible assumption) | assumption)
      obtain ⟨ad234, e234, hx234_0⟩ := Kd.at_int HR0.out x5_1 p234 q234
      cases e234
      replace p234 := eq_true p234
      replace q234 := eq_true q234
      go_wp2
      go_roundg k1
      case measure => have := HK1.out; omega
      case rel => exact ⟨(wrap64 (x1_1 + 1)), (wrap64 (x5_1 + 1)), (by first | rfl | (simp; done) | (simp [*]; done)), (by first | rfl | (simp; done) | (simp [*]; done)), H', ⟨by have := HK1.out; omega⟩, by repeat (first | exact Drawn0.refl _ | apply Drawn0.step)⟩
     ·rw [if_neg c5] at H
      have c5b0 : ((rd l0 x5_1) == x1_1) = false := beq_eq_false_iff_ne.mpr c5
      have c5b1 : ((rd l0 x5_1) != x1_1) = true := bne_iff_ne.mpr c5
      obtain rfl := Option.some.inj H
      simp only [Option.some.injEq, Prod.mk.injEq] at H
      obtain ⟨rfl⟩ := H
      have p234 : 0 ≤ (x5_1 : Int) := of_decide_eq_true (by first | (with_reducible assumption) | assumption)
      have q234 : x5_1 < (l0.length : Int) := of_decide_eq_true (by first | (with_reducible assumption) | assumption)
      obtain ⟨ad234, e234, hx234_0⟩ := Kd.at_int HR0.out x5_1 p234 q234
      cases e234
      replace p234 := eq_true p234
      replace q234 := eq_true q234
      go_wp2
      go_ret
      exact ⟨by first | rfl | (simp; done) | (simp [*]; done), by repeat (first | exact Drawn0.refl _ | apply Drawn0.step)⟩
    ·rw [if_neg c4] at H
     exact absurd H (by simp)
   ·rw [if_neg c3] at H
    have c3b0 : decide (x5_1 < (l0.length : Int)) = false := decide_eq_false c3
    clear c3
    obtain rfl := Option.some.inj H
    simp only [Option.some.injEq, Prod.mk.injEq] at H
    obtain ⟨rfl⟩ := H
    go_wp2
    go_ret
    exact ⟨by first | rfl | (simp; done) | (simp [*]; done), by repeat (first | exact Drawn0.refl _ | apply Drawn0.step)⟩

end Go.Proofs.Ytggocekjhohhcaa.P

-- By a program of this session.
namespace Go.Proofs.Ytggocekjhohhcaa.P
open Go.RowKit Go.Proofs.YtggocekjhohhcaaW.PrintWords Go.Proofs.YtggocekjhohhcaaW.PrintLast Go.Proofs.YtggocekjhohhcaaW.PrintMore
attribute [local go_sem] max2_int min2_int max_two min_two max_three min_three max_four min_four
set_option linter.unusedVariables false
set_option linter.unusedSimpArgs false

/-! ### laws_heldIntSS: function 18 -/
def laws_heldIntSS.l0 : Nat → List (List Int) → Int → Int → Option (Int)
 | 0, _, _, _ => none
 | k + 1, x0, x1, x5 => if x5 < (x0.length : Int) then (if 0 ≤ x5 then ((laws_heldIntS.f k (rd_L3 x0 x5) x1).bind fun t236 => (if t236 < 0 then (some (-1)) else (laws_heldIntSS.l0 k x0 t236 (wrap64 (x5 + 1))))) else (none)) else (some x1)
def laws_heldIntSS.f (k : Nat) (l0 : List (List Int)) (a1 : Int) : Option (Int) := laws_heldIntSS.l0 k l0 a1 0
theorem laws_heldIntSS.mono_l : ∀ k, (∀ y0 y1 y2, LeO (laws_heldIntSS.l0 k y0 y1 y2) (laws_heldIntSS.l0 (k + 1) y0 y1 y2))
 | 0 => fun _ _ _ r h => by simp [laws_heldIntSS.l0] at h
 | k + 1 => by
  have ih0 := laws_heldIntSS.mono_l k
  ·intro y0 y1 y2
   unfold laws_heldIntSS.l0
   repeat' first
   | (with_reducible exact ih0 _ _ _)
   | (with_reducible exact laws_heldIntS.mono _ _ _)
   | (with_reducible exact LeO.refl _)
   | (with_reducible exact LeO.none _)
   | (with_reducible refine LeO.ite ?_ ?_)
   | (with_reducible refine LeO.bind ?_ (fun _ => ?_))
   | apply ih0
   | apply laws_heldIntS.mono
   | apply LeO.none
   | refine LeO.ite ?_ ?_
   | refine LeO.bind ?_ (fun _ => ?_)
theorem laws_heldIntSS.mono : ∀ a0 a1 k, LeO (laws_heldIntSS.f k a0 a1) (laws_heldIntSS.f (k + 1) a0 a1) := by
 intro a0 a1 k
 have ih0 := laws_heldIntSS.mono_l k
 unfold laws_heldIntSS.f
 repeat' first
   | (with_reducible exact ih0 _ _ _)
   | (with_reducible exact laws_heldIntS.mono _ _ _)
   | (with_reducible exact LeO.refl _)
   | (with_reducible exact LeO.none _)
   | (with_reducible refine LeO.ite ?_ ?_)
   | (with_reducible refine LeO.bind ?_ (fun _ => ?_))
   | apply ih0
   | apply laws_heldIntS.mono
   | apply LeO.none
   | refine LeO.ite ?_ ?_
   | refine LeO.bind ?_ (fun _ => ?_)
set_option maxHeartbeats 8000000 in
set_option maxRecDepth 100000 in
theorem laws_heldIntSS.calls (k : Nat) (A0 : Option Addr) (c0 : Nat) (l0 : List (List Int)) (a1 : Int) (r : Int) (w : World) (hr0 : Kd.C (Kd.slice 3 (Kd.int .i64)) w A0 l0.length l0) (hc0 : l0.length ≤ c0) (h : laws_heldIntSS.f k l0 a1 = some r) :
  Calls Try.prog 18 #[.slice A0 l0.length c0, .int .i64 a1] w fun e w' => e = .returned (.int .i64 r) ∧ Drawn0 w w' := by
 have HR0 := Aside0.mk hr0
 have HC0 := Aside0.mk hc0
 clear hr0 hc0
 have H : (laws_heldIntSS.l0 k l0 a1 0) = some r := h
 clear h
 have H' := Aside0.mk H
 clear H
 go_enter Try.func18, Try.ntmps18
 go_wp2
 go_loopg [1, 5] k (fun kq v1 v5 w' => ∃ (x1_1 : Int) (x5_1 : Int), v1 = .int .i64 x1_1 ∧ v5 = .int .i64 x5_1 ∧ Aside0 (laws_heldIntSS.l0 kq l0 x1_1 x5_1 = some r) ∧ Aside0 (kq ≤ k) ∧ Drawn0 w w')
 case atStart => exact ⟨(a1), (0), (by first | rfl | (simp; done) | (simp [*]; done)), (by first | rfl | (simp; done) | (simp [*]; done)), H', ⟨Nat.le_refl _⟩, by repeat (first | exact Drawn0.refl _ | apply Drawn0.step)⟩
 case round =>
  clear H'
  obtain ⟨x1_1, x5_1, rfl, rfl, HA, HK1, ⟨m1, rfl⟩⟩ := hrel
  cases gk with
  | zero => exact absurd HA.out (by simp [laws_heldIntSS.l0])
  | succ k1 =>
   have H := HA.out
   clear HA
   simp only [laws_heldIntSS.l0] at H
   by_cases c3 : x5_1 < (l0.length : Int)
   ·rw [if_pos c3] at H
    have c3b0 : decide (x5_1 < (l0.length : Int)) = true := decide_eq_true c3
    clear c3
    by_cases c4 : 0 ≤ x5_1
    ·rw [if_pos c4] at H
     have c4b0 : decide (0 ≤ x5_1) = true := decide_eq_true c4
     clear c4
     replace H := Option.bind_eq_some_iff.mp H
     obtain ⟨t236, A50, H⟩ := H
     have A5 := Aside0.mk A50
     clear A50
     by_cases c6 : t236 < 0
     ·rw [if_pos c6] at H
      have c6b0 : decide (t236 < 0) = true := decide_eq_true c6
      clear c6
      obtain rfl := Option.some.inj H
      simp only [Option.some.injEq, Prod.mk.injEq] at H
      obtain ⟨rfl⟩ := H
      have p235 : 0 ≤ (x5_1 : Int) := of_decide_eq_true (by first | (with_reducible assumption) | assumption)
      have q235 : x5_1 < (l0.length : Int) := of_decide_eq_true (by first | (with_reducible assumption) | assumption)
      obtain ⟨ad235, A235_0, c235_0, e235, hx235_0, hl235_0, hi235_0⟩ := at_L3 HR0.out x5_1 p235 q235
      cases e235
      have HR235_0 := Aside0.mk hi235_0
      have HC235_0 := Aside0.mk hl235_0
      clear hi235_0 hl235_0
      replace p235 := eq_true p235
      replace q235 := eq_true q235
      go_wp2_with (first | ((with_reducible refine gate_callee (f := 27) rfl ?_); refine gof_ (some 17) Try.func27 #[.slice A235_0 (rd_L3 l0 x5_1).length c235_0, .int .i64 x1_1] ?_; (with_reducible refine (laws_heldIntS.calls k1 _ _ (rd_L3 l0 x5_1) x1_1 t236 _ ?side1 ?side2 A5.out).mono ?_); (case side1 => repeat (first | exact HR235_0.out | (with_reducible refine Kd.C_alloc ?_ _) | (with_reducible refine Kd.C_drewN ?_ _) | (with_reducible refine Kd.C_drew ?_))); (case side2 => exact HC235_0.out); rintro e w' ⟨rfl, ⟨nd, rfl⟩⟩; refine ⟨_, rfl, ?_⟩))
      go_ret
      exact ⟨by first | rfl | (simp; done) | (simp [*]; done), by repeat (first | exact Drawn0.refl _ | apply Drawn0.step)⟩
     ·rw [if_neg c6] at H
      have c6b0 : decide (t236 < 0) = false := decide_eq_false c6
      clear c6
      have H' := Aside0.mk H
      clear H
      have p235 : 0 ≤ (x5_1 : Int) := of_decide_eq_true (by first | (with_reducible assumption) | assumption)
      have q235 : x5_1 < (l0.length : Int) := of_decide_eq_true (by first | (with_reducible assumption) | assumption)
      obtain ⟨ad235, A235_0, c235_0, e235, hx235_0, hl235_0, hi235_0⟩ := at_L3 HR0.out x5_1 p235 q235
      cases e235
      have HR235_0 := Aside0.mk hi235_0
      have HC235_0 := Aside0.mk hl235_0
      clear hi235_0 hl235_0
      replace p235 := eq_true p235
      replace q235 := eq_true q235
      go_wp2_with (first | ((with_reducible refine gate_callee (f := 27) rfl ?_); refine gof_ (some 17) Try.func27 #[.slice A235_0 (rd_L3 l0 x5_1).length c235_0, .int .i64 x1_1] ?_; (with_reducible refine (laws_heldIntS.calls k1 _ _ (rd_L3 l0 x5_1) x1_1 t236 _ ?side1 ?side2 A5.out).mono ?_); (case side1 => repeat (first | exact HR235_0.out | (with_reducible refine Kd.C_alloc ?_ _) | (with_reducible refine Kd.C_drewN ?_ _) | (with_reducible refine Kd.C_drew ?_))); (case side2 => exact HC235_0.out); rintro e w' ⟨rfl, ⟨nd, rfl⟩⟩; refine ⟨_, rfl, ?_⟩))
      go_roundg k1
      case measure => have := HK1.out; omega
      case rel => exact ⟨(t236), (wrap64 (x5_1 + 1)), (by first | rfl | (simp; done) | (simp [*]; done)), (by first | rfl | (simp; done) | (simp [*]; done)), H', ⟨by have := HK1.out; omega⟩, by repeat (first | exact Drawn0.refl _ | apply Drawn0.step)⟩
    ·rw [if_neg c4] at H
     exact absurd H (by simp)
   ·rw [if_neg c3] at H
    have c3b0 : decide (x5_1 < (l0.length : Int)) = false := decide_eq_false c3
    clear c3
    obtain rfl := Option.some.inj H
    simp only [Option.some.injEq, Prod.mk.injEq] at H
    obtain ⟨rfl⟩ := H
    go_wp2
    go_ret
    exact ⟨by first | rfl | (simp; done) | (simp [*]; done), by repeat (first | exact Drawn0.refl _ | apply Drawn0.step)⟩

end Go.Proofs.Ytggocekjhohhcaa.P

-- By a program of this session.
namespace Go.Proofs.Ytggocekjhohhcaa.P
open Go.RowKit Go.Proofs.YtggocekjhohhcaaW.PrintWords Go.Proofs.YtggocekjhohhcaaW.PrintLast Go.Proofs.YtggocekjhohhcaaW.PrintMore
attribute [local go_sem] max2_int min2_int max_two min_two max_three min_three max_four min_four
set_option linter.unusedVariables false
set_option linter.unusedSimpArgs false

/-! ### laws_eqIntS: function 23 -/
def laws_eqIntS.l0 : Nat → List Int → List Int → Int → Option (Bool)
 | 0, _, _, _ => none
 | k + 1, x0, x1, x5 => if x5 < (x0.length : Int) then (if 0 ≤ x5 then (if x5 < (x1.length : Int) then (if (rd x0 x5) = (rd x1 x5) then (laws_eqIntS.l0 k x0 x1 (wrap64 (x5 + 1))) else (some false)) else (none)) else (none)) else (some true)
def laws_eqIntS.f (k : Nat) (l0 : List Int) (l1 : List Int) : Option (Bool) := if (l0.length : Int) = (l1.length : Int) then (laws_eqIntS.l0 k l0 l1 0) else (some false)
theorem laws_eqIntS.mono_l : ∀ k, (∀ y0 y1 y2, LeO (laws_eqIntS.l0 k y0 y1 y2) (laws_eqIntS.l0 (k + 1) y0 y1 y2))
 | 0 => fun _ _ _ r h => by simp [laws_eqIntS.l0] at h
 | k + 1 => by
  have ih0 := laws_eqIntS.mono_l k
  ·intro y0 y1 y2
   unfold laws_eqIntS.l0
   repeat' first
   | (with_reducible exact ih0 _ _ _)
   | (with_reducible exact LeO.refl _)
   | (with_reducible exact LeO.none _)
   | (with_reducible refine LeO.ite ?_ ?_)
   | (with_reducible refine LeO.bind ?_ (fun _ => ?_))
   | apply ih0
   | apply LeO.none
   | refine LeO.ite ?_ ?_
   | refine LeO.bind ?_ (fun _ => ?_)
theorem laws_eqIntS.mono : ∀ a0 a1 k, LeO (laws_eqIntS.f k a0 a1) (laws_eqIntS.f (k + 1) a0 a1) := by
 intro a0 a1 k
 have ih0 := laws_eqIntS.mono_l k
 unfold laws_eqIntS.f
 repeat' first
   | (with_reducible exact ih0 _ _ _)
   | (with_reducible exact LeO.refl _)
   | (with_reducible exact LeO.none _)
   | (with_reducible refine LeO.ite ?_ ?_)
   | (with_reducible refine LeO.bind ?_ (fun _ => ?_))
   | apply ih0
   | apply LeO.none
   | refine LeO.ite ?_ ?_
   | refine LeO.bind ?_ (fun _ => ?_)
set_option maxHeartbeats 8000000 in
set_option maxRecDepth 100000 in
theorem laws_eqIntS.calls (k : Nat) (A0 : Option Addr) (c0 : Nat) (l0 : List Int) (A1 : Option Addr) (c1 : Nat) (l1 : List Int) (r : Bool) (w : World) (hr0 : Kd.C (Kd.int .i64) w A0 l0.length l0) (hc0 : l0.length ≤ c0) (hr1 : Kd.C (Kd.int .i64) w A1 l1.length l1) (hc1 : l1.length ≤ c1) (h : laws_eqIntS.f k l0 l1 = some r) :
  Calls Try.prog 23 #[.slice A0 l0.length c0, .slice A1 l1.length c1] w fun e w' => e = .returned (.bool r) ∧ Drawn0 w w' := by
 have HR0 := Aside0.mk hr0
 have HC0 := Aside0.mk hc0
 clear hr0 hc0
 have HR1 := Aside0.mk hr1
 have HC1 := Aside0.mk hc1
 clear hr1 hc1
 have H : (if (l0.length : Int) = (l1.length : Int) then (laws_eqIntS.l0 k l0 l1 0) else (some false)) = some r := h
 clear h
 by_cases c3 : (l0.length : Int) = (l1.length : Int)
 ·rw [if_pos c3] at H
  have c3b0 : ((l0.length : Int) == (l1.length : Int)) = true := beq_iff_eq.mpr c3
  have c3b1 : ((l0.length : Int) != (l1.length : Int)) = false := bne_eq_false_iff_eq.mpr c3
  have c3b2 : (l0.length == l1.length) = true := by first | simpa using c3 | (simp at c3 ⊢; omega)
  clear c3
  have H' := Aside0.mk H
  clear H
  go_enter Try.func23, Try.ntmps23
  go_wp2
  repeat (go_quiet (fail); try go_wp2)
  go_loopg [5] k (fun kq v5 w' => ∃ (x5_1 : Int), v5 = .int .i64 x5_1 ∧ Aside0 (laws_eqIntS.l0 kq l0 l1 x5_1 = some r) ∧ Aside0 (kq ≤ k) ∧ Drawn0 w w')
  case atStart => exact ⟨(0), (by first | rfl | (simp; done) | (simp [*]; done)), H', ⟨Nat.le_refl _⟩, by repeat (first | exact Drawn0.refl _ | apply Drawn0.step)⟩
  case round =>
   clear H'
   (try clear c3);(try clear c3b0);(try clear c3b1);(try clear c3b2)
   obtain ⟨x5_1, rfl, HA, HK1, ⟨m1, rfl⟩⟩ := hrel
   cases gk with
   | zero => exact absurd HA.out (by simp [laws_eqIntS.l0])
   | succ k1 =>
    have H := HA.out
    clear HA
    simp only [laws_eqIntS.l0] at H
    by_cases c4 : x5_1 < (l0.length : Int)
    ·rw [if_pos c4] at H
     have c4b0 : decide (x5_1 < (l0.length : Int)) = true := decide_eq_true c4
     clear c4
     by_cases c5 : 0 ≤ x5_1
     ·rw [if_pos c5] at H
      have c5b0 : decide (0 ≤ x5_1) = true := decide_eq_true c5
      clear c5
      by_cases c6 : x5_1 < (l1.length : Int)
      ·rw [if_pos c6] at H
       have c6b0 : decide (x5_1 < (l1.length : Int)) = true := decide_eq_true c6
       clear c6
       by_cases c7 : (rd l0 x5_1) = (rd l1 x5_1)
       ·rw [if_pos c7] at H
        have c7b0 : ((rd l0 x5_1) == (rd l1 x5_1)) = true := beq_iff_eq.mpr c7
        have c7b1 : ((rd l0 x5_1) != (rd l1 x5_1)) = false := bne_eq_false_iff_eq.mpr c7
        clear c7
        have H' := Aside0.mk H
        clear H
        have p220 : 0 ≤ (x5_1 : Int) := of_decide_eq_true (by first | (with_reducible assumption) | assumption)
        have q220 : x5_1 < (l0.length : Int) := of_decide_eq_true (by first | (with_reducible assumption) | assumption)
        obtain ⟨ad220, e220, hx220_0⟩ := Kd.at_int HR0.out x5_1 p220 q220
        cases e220
        replace p220 := eq_true p220
        replace q220 := eq_true q220
        have p221 : 0 ≤ (x5_1 : Int) := of_decide_eq_true (by first | (with_reducible assumption) | assumption)
        have q221 : x5_1 < (l1.length : Int) := of_decide_eq_true (by first | (with_reducible assumption) | assumption)
        obtain ⟨ad221, e221, hx221_0⟩ := Kd.at_int HR1.out x5_1 p221 q221
        cases e221
        replace p221 := eq_true p221
        replace q221 := eq_true q221
        go_wp2
        repeat (go_quiet (fail); try go_wp2)
        go_roundg k1
        case measure => have := HK1.out; omega
        case rel => exact ⟨(wrap64 (x5_1 + 1)), (by first | rfl | (simp; done) | (simp [*]; done)), H', ⟨by have := HK1.out; omega⟩, by repeat (first | exact Drawn0.refl _ | apply Drawn0.step)⟩
       ·rw [if_neg c7] at H
        have c7b0 : ((rd l0 x5_1) == (rd l1 x5_1)) = false := beq_eq_false_iff_ne.mpr c7
        have c7b1 : ((rd l0 x5_1) != (rd l1 x5_1)) = true := bne_iff_ne.mpr c7
        obtain rfl := Option.some.inj H
        simp only [Option.some.injEq, Prod.mk.injEq] at H
        obtain ⟨rfl⟩ := H
        have p220 : 0 ≤ (x5_1 : Int) := of_decide_eq_true (by first | (with_reducible assumption) | assumption)
        have q220 : x5_1 < (l0.length : Int) := of_decide_eq_true (by first | (with_reducible assumption) | assumption)
        obtain ⟨ad220, e220, hx220_0⟩ := Kd.at_int HR0.out x5_1 p220 q220
        cases e220
        replace p220 := eq_true p220
        replace q220 := eq_true q220
        have p221 : 0 ≤ (x5_1 : Int) := of_decide_eq_true (by first | (with_reducible assumption) | assumption)
        have q221 : x5_1 < (l1.length : Int) := of_decide_eq_true (by first | (with_reducible assumption) | assumption)
        obtain ⟨ad221, e221, hx221_0⟩ := Kd.at_int HR1.out x5_1 p221 q221
        cases e221
        replace p221 := eq_true p221
        replace q221 := eq_true q221
        go_wp2
        repeat (go_quiet (fail); try go_wp2)
        go_ret
        exact ⟨by first | rfl | (simp; done) | (simp [*]; done), by repeat (first | exact Drawn0.refl _ | apply Drawn0.step)⟩
      ·rw [if_neg c6] at H
       exact absurd H (by simp)
     ·rw [if_neg c5] at H
      exact absurd H (by simp)
    ·rw [if_neg c4] at H
     have c4b0 : decide (x5_1 < (l0.length : Int)) = false := decide_eq_false c4
     clear c4
     obtain rfl := Option.some.inj H
     simp only [Option.some.injEq, Prod.mk.injEq] at H
     obtain ⟨rfl⟩ := H
     go_wp2
     repeat (go_quiet (fail); try go_wp2)
     go_ret
     exact ⟨by first | rfl | (simp; done) | (simp [*]; done), by repeat (first | exact Drawn0.refl _ | apply Drawn0.step)⟩
 ·rw [if_neg c3] at H
  have c3b0 : ((l0.length : Int) == (l1.length : Int)) = false := beq_eq_false_iff_ne.mpr c3
  have c3b1 : ((l0.length : Int) != (l1.length : Int)) = true := bne_iff_ne.mpr c3
  have c3b2 : (l0.length == l1.length) = false := by first | simpa using c3 | (simp at c3 ⊢; omega)
  obtain rfl := Option.some.inj H
  simp only [Option.some.injEq, Prod.mk.injEq] at H
  obtain ⟨rfl⟩ := H
  go_enter Try.func23, Try.ntmps23
  go_wp2
  repeat (go_quiet (fail); try go_wp2)
  go_ret
  exact ⟨by first | rfl | (simp; done) | (simp [*]; done), by repeat (first | exact Drawn0.refl _ | apply Drawn0.step)⟩

end Go.Proofs.Ytggocekjhohhcaa.P

