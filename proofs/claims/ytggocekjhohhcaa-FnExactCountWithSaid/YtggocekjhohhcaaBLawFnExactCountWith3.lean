/- Proof of FnExactCountWithSaid, part 4 of 4: the texts Pf65, Pf95, Pf66, Pf37, Pf38, Pf9, PureFnExactCountWith, LawFnExactCountWith, joined by a program of this session. -/
import Derived.Test.YtggocekjhohhcaaBLawFnExactCountWith1
import Derived.Test.YtggocekjhohhcaaBLawFnExactCountWith2
import Derived.Test.YtggocekjhohhcaaRows
import Derived.WalkKit
import Derived.ProofKit
import Derived.OpenShut
import Derived.ShutString
import Derived.ChangeOld
import Derived.Below
import Derived.SizedLaws
-- By a program of this session.
namespace Go.Proofs.Ytggocekjhohhcaa.P
open Go.RowKit Go.Proofs.YtggocekjhohhcaaW.PrintWords Go.Proofs.YtggocekjhohhcaaW.PrintLast Go.Proofs.YtggocekjhohhcaaW.PrintMore
attribute [local go_sem] max2_int min2_int max_two min_two max_three min_three max_four min_four
set_option linter.unusedVariables false
set_option linter.unusedSimpArgs false

/-! ### spec_SizesOfCut: function 65 -/
mutual
def spec_SizesOfCut.l0 : Nat → Int → List (S59) → List Int → Int → Option (List Int × Bool)
 | 0, _, _, _, _ => none
 | k + 1, x0, x1, x6, x7 => if x7 ≤ x0 then ((spec_cuPieces.f k x0 x1).bind fun t526 => (spec_SizesOfCut.l1 k x0 x1 x6 x7 t526 (t526.length : Int) 0)) else (some (x6, true))
def spec_SizesOfCut.l1 : Nat → Int → List (S59) → List Int → Int → List (List Int) → Int → Int → Option (List Int × Bool)
 | 0, _, _, _, _, _, _, _ => none
 | k + 1, x0, x1, x6, x7, x21, x22, x23 => if x23 < x22 then (if 0 ≤ x23 then (if x23 < (x21.length : Int) then (if ((rd_L3 x21 x23).length : Int) = x7 then (if x6.length < 17592186044416 then (spec_SizesOfCut.l1 k x0 x1 (x6 ++ [x7]) x7 x21 x22 (wrap64 (x23 + 1))) else (none)) else (spec_SizesOfCut.l1 k x0 x1 x6 x7 x21 x22 (wrap64 (x23 + 1)))) else (none)) else (none)) else (spec_SizesOfCut.l0 k x0 x1 x6 (wrap64 (x7 + 1)))
end
def spec_SizesOfCut.f (k : Nat) (a0 : Int) (l1 : List (S59)) : Option (List Int × Bool) := (spec_cuGood.f k a0 l1).bind fun t525 => (if t525 = true then (spec_SizesOfCut.l0 k a0 l1 ([] : List Int) 3) else (some (([] : List Int), false)))
theorem spec_SizesOfCut.mono_l : ∀ k, (∀ y0 y1 y2 y3, LeO (spec_SizesOfCut.l0 k y0 y1 y2 y3) (spec_SizesOfCut.l0 (k + 1) y0 y1 y2 y3)) ∧ (∀ y0 y1 y2 y3 y4 y5 y6, LeO (spec_SizesOfCut.l1 k y0 y1 y2 y3 y4 y5 y6) (spec_SizesOfCut.l1 (k + 1) y0 y1 y2 y3 y4 y5 y6))
 | 0 => ⟨fun _ _ _ _ r h => by simp [spec_SizesOfCut.l0] at h, fun _ _ _ _ _ _ _ r h => by simp [spec_SizesOfCut.l1] at h⟩
 | k + 1 => by
  obtain ⟨ih0, ih1⟩ := spec_SizesOfCut.mono_l k
  refine ⟨?_, ?_⟩
  ·intro y0 y1 y2 y3
   unfold spec_SizesOfCut.l0
   repeat' first
   | (with_reducible exact ih0 _ _ _ _)
   | (with_reducible exact ih1 _ _ _ _ _ _ _)
   | (with_reducible exact spec_cuGood.mono _ _ _)
   | (with_reducible exact spec_cuPieces.mono _ _ _)
   | (with_reducible exact LeO.refl _)
   | (with_reducible exact LeO.none _)
   | (with_reducible refine LeO.ite ?_ ?_)
   | (with_reducible refine LeO.bind ?_ (fun _ => ?_))
   | apply ih0
   | apply ih1
   | apply spec_cuGood.mono
   | apply spec_cuPieces.mono
   | apply LeO.none
   | refine LeO.ite ?_ ?_
   | refine LeO.bind ?_ (fun _ => ?_)
  ·intro y0 y1 y2 y3 y4 y5 y6
   unfold spec_SizesOfCut.l1
   repeat' first
   | (with_reducible exact ih0 _ _ _ _)
   | (with_reducible exact ih1 _ _ _ _ _ _ _)
   | (with_reducible exact spec_cuGood.mono _ _ _)
   | (with_reducible exact spec_cuPieces.mono _ _ _)
   | (with_reducible exact LeO.refl _)
   | (with_reducible exact LeO.none _)
   | (with_reducible refine LeO.ite ?_ ?_)
   | (with_reducible refine LeO.bind ?_ (fun _ => ?_))
   | apply ih0
   | apply ih1
   | apply spec_cuGood.mono
   | apply spec_cuPieces.mono
   | apply LeO.none
   | refine LeO.ite ?_ ?_
   | refine LeO.bind ?_ (fun _ => ?_)
theorem spec_SizesOfCut.mono : ∀ a0 a1 k, LeO (spec_SizesOfCut.f k a0 a1) (spec_SizesOfCut.f (k + 1) a0 a1) := by
 intro a0 a1 k
 obtain ⟨ih0, ih1⟩ := spec_SizesOfCut.mono_l k
 unfold spec_SizesOfCut.f
 repeat' first
   | (with_reducible exact ih0 _ _ _ _)
   | (with_reducible exact ih1 _ _ _ _ _ _ _)
   | (with_reducible exact spec_cuGood.mono _ _ _)
   | (with_reducible exact spec_cuPieces.mono _ _ _)
   | (with_reducible exact LeO.refl _)
   | (with_reducible exact LeO.none _)
   | (with_reducible refine LeO.ite ?_ ?_)
   | (with_reducible refine LeO.bind ?_ (fun _ => ?_))
   | apply ih0
   | apply ih1
   | apply spec_cuGood.mono
   | apply spec_cuPieces.mono
   | apply LeO.none
   | refine LeO.ite ?_ ?_
   | refine LeO.bind ?_ (fun _ => ?_)
set_option maxHeartbeats 8000000 in
set_option maxRecDepth 100000 in
theorem spec_SizesOfCut.calls (k : Nat) (a0 : Int) (A1 : Option Addr) (c1 : Nat) (l1 : List (S59)) (r1 : List Int) (r2 : Bool) (w : World) (hr1 : Kd.C k59 w A1 l1.length l1) (hc1 : l1.length ≤ c1) (h : spec_SizesOfCut.f k a0 l1 = some (r1, r2)) :
  Calls Try.prog 65 #[.int .i64 a0, .slice A1 l1.length c1] w fun e w' => ∃ v0_ : Value, e = .returned (.tuple #[v0_, .bool r2]) ∧ Kd.R (Kd.int .i64) 3 w' w.heap.size (fun _ => True) v0_ r1 ∧ Below w.heap.size w w' := by
 have HR1 := Aside0.mk hr1
 have HC1 := Aside0.mk hc1
 clear hr1 hc1
 have HB := Aside0.mk (Below.refl w.heap.size w)
 have H : ((spec_cuGood.f k a0 l1).bind fun t525 => (if t525 = true then (spec_SizesOfCut.l0 k a0 l1 ([] : List Int) 3) else (some (([] : List Int), false)))) = some (r1, r2) := h
 clear h
 replace H := Option.bind_eq_some_iff.mp H
 obtain ⟨t525, A30, H⟩ := H
 have A3 := Aside0.mk A30
 clear A30
 by_cases c4 : t525 = true
 ·subst c4
  rw [if_pos rfl] at H
  have H' := Aside0.mk H
  clear H
  go_enter Try.func65, Try.ntmps65
  go_wp2_with (first | ((with_reducible refine gate_callee (f := 39) rfl ?_); refine gof_ (some 12) Try.func39 #[.int .i64 a0, .slice A1 l1.length c1] ?_; (with_reducible refine (spec_cuGood.calls k a0 _ _ l1 true _ ?side1 ?side2 A3.out).mono ?_); (case side1 => repeat (first | exact HR1.out | (with_reducible refine Kd.C_alloc ?_ _) | (with_reducible refine Kd.C_drewN ?_ _) | (with_reducible refine Kd.C_drew ?_))); (case side2 => exact HC1.out); rintro e w5 ⟨rfl, hb⟩; refine ⟨_, rfl, ?_⟩; replace HB := hh HB hb; clear hb))
  go_loopg [6, 7] k (fun kq v6 v7 w' => ∃ (x6_1 : List Int) (x7_1 : Int), v7 = .int .i64 x7_1 ∧ Aside0 (spec_SizesOfCut.l0 kq a0 l1 x6_1 x7_1 = some (r1, r2)) ∧ Aside0 (kq ≤ k) ∧ Aside0 (Kd.R (Kd.int .i64) 3 w' w.heap.size (fun _ => True) v6 x6_1) ∧ Aside0 (Below w.heap.size w w'))
  case atStart => exact ⟨(([] : List Int)), (3), (by first | rfl | (simp; done) | (simp [*]; done)), H', ⟨Nat.le_refl _⟩, ⟨by first | exact Kd.R_nil _ _ _ _ _ | exact Kd.N_nil _ _ _ _ _ | exact Kd.V_nil _ _ _ _ _ | exact Kd.Q_nil _ _ _ _ _ | exact Kd.S_nil _ _ _ _ _⟩, ⟨by repeat (first | (with_reducible first | exact HB.out | apply below_alloc | apply pw_below_drewN | apply below_drew1) | exact HB.out)⟩⟩
  case round =>
   clear H'
   (try clear c1);(try clear c4)
   obtain ⟨x6_1, x7_1, rfl, HA, HK1, HO_6, HB⟩ := hrel
   cases gk with
   | zero => exact absurd HA.out (by simp [spec_SizesOfCut.l0])
   | succ k1 =>
    have H := HA.out
    clear HA
    simp only [spec_SizesOfCut.l0] at H
    by_cases c6 : x7_1 ≤ a0
    ·rw [if_pos c6] at H
     have c6b0 : decide (x7_1 ≤ a0) = true := decide_eq_true c6
     clear c6
     replace H := Option.bind_eq_some_iff.mp H
     obtain ⟨t526, A70, H⟩ := H
     have A7 := Aside0.mk A70
     clear A70
     have H' := Aside0.mk H
     clear H
     go_wp2_with (first | ((with_reducible refine gate_callee (f := 40) rfl ?_); refine gof_ (some 21) Try.func40 #[.int .i64 a0, .slice A1 l1.length c1] ?_; (with_reducible refine (spec_cuPieces.calls k1 a0 _ _ l1 t526 _ ?side1 ?side2 A7.out).mono ?_); (case side1 => repeat (first | exact (Kd.C_below HR1.out HB.out) | (with_reducible refine Kd.C_alloc ?_ _) | (with_reducible refine Kd.C_drewN ?_ _) | (with_reducible refine Kd.C_drew ?_))); (case side2 => exact HC1.out); rintro e w8 ⟨v527, rfl, ho0, hb⟩; refine ⟨_, rfl, ?_⟩; have HO528 := Aside0.mk (Kd.S_lower (Kd.S_new' ho0 (Kd.R_lt (by (with_reducible repeat (first | apply Kd.R_alloc | apply Kd.R_drewN | apply Kd.R_drew)); exact HO_6.out))) (below_size (hk HB))); replace HO_6 := Aside0.mk (Kd.R_below (by (with_reducible repeat (first | apply Kd.R_alloc | apply Kd.R_drewN | apply Kd.R_drew)); exact HO_6.out) hb); replace HB := hh HB hb; (try clear hb); (try clear hb2); (try clear hk); (try clear hi); (try clear ho0); obtain ⟨Ao9, co9, eo9⟩ := Kd.S_slice HO528.out; subst eo9))
     go_loopg [6, 23] k1 (fun kq v6 v23 w' => ∃ (x6_2 : List Int) (x23_2 : Int), v23 = .int .i64 x23_2 ∧ Aside0 (spec_SizesOfCut.l1 kq a0 l1 x6_2 x7_1 t526 (t526.length : Int) x23_2 = some (r1, r2)) ∧ Aside0 (kq ≤ k1) ∧ Aside0 (Kd.R (Kd.int .i64) 3 w' w.heap.size (fun _ => True) v6 x6_2) ∧ Aside0 (Kd.S (Kd.slice 3 (Kd.int .i64)) 34 w' w.heap.size (fun k_ => some k_ ≠ (v6 : Value).ownBlock) (.slice Ao9 t526.length co9) t526) ∧ Aside0 (Below w.heap.size w w'))
     case atStart => exact ⟨(x6_1), (0), (by first | rfl | (simp; done) | (simp [*]; done)), H', ⟨Nat.le_refl _⟩, ⟨by (with_reducible repeat (first | apply Kd.R_alloc | apply Kd.R_drewN | apply Kd.R_drew)); exact HO_6.out⟩, ⟨by (with_reducible repeat (first | apply Kd.S_alloc | apply Kd.S_drewN | apply Kd.S_drew)); exact Kd.S_mono HO528.out (fun _ hk => hk.2)⟩, ⟨by repeat (first | (with_reducible first | exact HB.out | apply below_alloc | apply pw_below_drewN | apply below_drew1) | exact HB.out)⟩⟩
     case round =>
      clear H'
      (try clear c1);(try clear c4);(try clear c6);(try clear c6b0)
      obtain ⟨x6_2, x23_2, rfl, HA, HK2, HO_6, HO_21, HB⟩ := hrel
      cases gk with
      | zero => exact absurd HA.out (by simp [spec_SizesOfCut.l1])
      | succ k2 =>
       have H := HA.out
       clear HA
       simp only [spec_SizesOfCut.l1] at H
       by_cases c10 : x23_2 < (t526.length : Int)
       ·rw [if_pos c10] at H
        have c10b0 : decide (x23_2 < (t526.length : Int)) = true := decide_eq_true c10
        clear c10
        by_cases c11 : 0 ≤ x23_2
        ·rw [if_pos c11] at H
         have c11b0 : decide (0 ≤ x23_2) = true := decide_eq_true c11
         clear c11
         by_cases c12 : x23_2 < (t526.length : Int)
         ·rw [if_pos c12] at H
          have c12b0 : decide (x23_2 < (t526.length : Int)) = true := decide_eq_true c12
          clear c12
          by_cases c13 : ((rd_L3 t526 x23_2).length : Int) = x7_1
          ·rw [if_pos c13] at H
           have c13b0 : (((rd_L3 t526 x23_2).length : Int) == x7_1) = true := beq_iff_eq.mpr c13
           have c13b1 : (((rd_L3 t526 x23_2).length : Int) != x7_1) = false := bne_eq_false_iff_eq.mpr c13
           clear c13
           by_cases c14 : x6_2.length < 17592186044416
           ·rw [if_pos c14] at H
            have LMc14 := Aside0.mk c14
            clear c14
            obtain ⟨y530, hy530⟩ : ∃ y_ : List Int, y_ = (x6_2 ++ [x7_1]) := ⟨_, rfl⟩
            replace H : (spec_SizesOfCut.l1 k2 a0 l1 y530 x7_1 t526 (t526.length : Int) (wrap64 (x23_2 + 1))) = some (r1, r2) := by first | (rw [hy530]; with_reducible exact H) | (have H2_ := (Option.bind_some _ _).symm.trans H; rw [hy530]; with_reducible exact H2_) | (have H2_ := (Option.bind_some _ _).symm.trans H; with_reducible exact H2_) | with_reducible exact H | (rw [hy530]; exact H) | exact H
            have Ny530 := Aside0.mk hy530
            clear hy530
            have H' := Aside0.mk H
            clear H
            have p529 : 0 ≤ (x23_2 : Int) := of_decide_eq_true (by first | (with_reducible assumption) | assumption)
            have q529 : x23_2 < (t526.length : Int) := of_decide_eq_true (by first | (with_reducible assumption) | assumption)
            obtain ⟨ad529, A529_0, c529_0, e529, hx529_0, hl529_0, hi529_0⟩ := at_L3 (Kd.S_reads' HO_21.out).2.2 x23_2 p529 q529
            cases e529
            obtain ⟨ce529, hce529, hMe529, hcc529⟩ := Kd.S_get HO_21.out [] x23_2 p529 (by first | exact q529 | exact of_decide_eq_true (by first | (with_reducible assumption) | assumption) | (have e_ := (Kd.S_reads' HO_21.out).1; omega))
            obtain ⟨ve529_0, rfl, ge529_0⟩ := hMe529
            have hv529_0 := hcc529 0 _ rfl
            rw [Nat.add_zero, show ((Kd.slice 3 (Kd.int .i64))).sz = 1 from rfl, Nat.mul_one] at hv529_0
            replace hv529_0 := Option.some.inj (hv529_0.symm.trans hx529_0)
            rw [hv529_0] at ge529_0
            have HL529_0 := Aside0.mk (show Kd.R (Kd.int .i64) 3 _ _ _ _ (rd_L3 t526 x23_2) from ge529_0)
            clear hv529_0 ge529_0
            clear hcc529 hce529
            have HR529_0 := Aside0.mk hi529_0
            have HC529_0 := Aside0.mk hl529_0
            clear hi529_0 hl529_0
            replace p529 := eq_true p529
            replace q529 := eq_true q529
            go_wp2_with (first | ((with_reducible refine gate_builtin (b := .append) (xs := #[.tmp 31, .tmp 33]) rfl ?_); at_builtin; refine Kd.R_append (Kd.int .i64) (w0 := w) w.heap.size rfl (.tmp 31) (.tmp 33) 34 3 (.int .i64 0) 8 rfl Try.underlying34 info3 rfl (by decide) (by omega) u6 x6_2 x7_1 [.int .i64 x7_1] (fun _ => True) (fun _ => False) rfl rfl ?aP (fun _ hk => hk.elim) ?aF ?aO ?aB ?aS ?aL ?_; (case aP => exact rfl); (case aB => exact (hk HB)); (case aF => exact (fun _ _ => trivial)); (case aO => exact (by (with_reducible repeat (first | apply Kd.R_alloc | apply Kd.R_drewN | apply Kd.R_drew)); exact HO_6.out)); (case aS => exact (below_size (hk HB))); (case aL => have := LMc14.out; omega); intro v531 w15 ho hb hg hat; rw [← Ny530.out] at ho; have n0_ := Aside0.mk (Kd.S_after (ok := (fun _ => True)) (by (with_reducible repeat (first | apply Kd.S_alloc | apply Kd.S_drewN | apply Kd.S_drew)); exact Kd.S_mono HO_21.out (fun _ hk => ⟨trivial, hk⟩)) hg hat); have n1_ := Aside0.mk (Kd.R_after (ok := (fun k_ => some k_ ≠ (.slice (some ad529) t526.length co9 : Value).ownBlock)) (by (with_reducible repeat (first | apply Kd.R_alloc | apply Kd.R_drewN | apply Kd.R_drew)); exact Kd.R_mono HL529_0.out (fun _ hk => ⟨hk.2, hk.1⟩)) hg hat); have n2_ := Aside0.mk (hb); have n3_ := Aside0.mk (ho); clear HO_21; clear HL529_0; clear HB; clear HO_6; have HO_21 := n0_; have HL529_0 := n1_; have HB := n2_; have HO532 := n3_; clear n0_ n1_ n2_ n3_; clear ho hb hg hat))
            go_roundg k2
            case measure => have := HK1.out; have := HK2.out; omega
            case rel => exact ⟨(y530), (wrap64 (x23_2 + 1)), (by first | rfl | (simp; done) | (simp [*]; done)), H', ⟨by have := HK1.out; have := HK2.out; omega⟩, ⟨by (with_reducible repeat (first | apply Kd.R_alloc | apply Kd.R_drewN | apply Kd.R_drew)); exact HO532.out⟩, ⟨by (with_reducible repeat (first | apply Kd.S_alloc | apply Kd.S_drewN | apply Kd.S_drew)); exact Kd.S_mono HO_21.out (fun _ hk => hk.2)⟩, ⟨by repeat (first | (with_reducible first | exact HB.out | apply below_alloc | apply pw_below_drewN | apply below_drew1) | exact HB.out)⟩⟩
           ·rw [if_neg c14] at H
            exact absurd H (by simp)
          ·rw [if_neg c13] at H
           have c13b0 : (((rd_L3 t526 x23_2).length : Int) == x7_1) = false := beq_eq_false_iff_ne.mpr c13
           have c13b1 : (((rd_L3 t526 x23_2).length : Int) != x7_1) = true := bne_iff_ne.mpr c13
           have H' := Aside0.mk H
           clear H
           have p529 : 0 ≤ (x23_2 : Int) := of_decide_eq_true (by first | (with_reducible assumption) | assumption)
           have q529 : x23_2 < (t526.length : Int) := of_decide_eq_true (by first | (with_reducible assumption) | assumption)
           obtain ⟨ad529, A529_0, c529_0, e529, hx529_0, hl529_0, hi529_0⟩ := at_L3 (Kd.S_reads' HO_21.out).2.2 x23_2 p529 q529
           cases e529
           obtain ⟨ce529, hce529, hMe529, hcc529⟩ := Kd.S_get HO_21.out [] x23_2 p529 (by first | exact q529 | exact of_decide_eq_true (by first | (with_reducible assumption) | assumption) | (have e_ := (Kd.S_reads' HO_21.out).1; omega))
           obtain ⟨ve529_0, rfl, ge529_0⟩ := hMe529
           have hv529_0 := hcc529 0 _ rfl
           rw [Nat.add_zero, show ((Kd.slice 3 (Kd.int .i64))).sz = 1 from rfl, Nat.mul_one] at hv529_0
           replace hv529_0 := Option.some.inj (hv529_0.symm.trans hx529_0)
           rw [hv529_0] at ge529_0
           have HL529_0 := Aside0.mk (show Kd.R (Kd.int .i64) 3 _ _ _ _ (rd_L3 t526 x23_2) from ge529_0)
           clear hv529_0 ge529_0
           clear hcc529 hce529
           have HR529_0 := Aside0.mk hi529_0
           have HC529_0 := Aside0.mk hl529_0
           clear hi529_0 hl529_0
           replace p529 := eq_true p529
           replace q529 := eq_true q529
           go_wp2
           go_roundg k2
           case measure => have := HK1.out; have := HK2.out; omega
           case rel => exact ⟨(x6_2), (wrap64 (x23_2 + 1)), (by first | rfl | (simp; done) | (simp [*]; done)), H', ⟨by have := HK1.out; have := HK2.out; omega⟩, ⟨by (with_reducible repeat (first | apply Kd.R_alloc | apply Kd.R_drewN | apply Kd.R_drew)); exact HO_6.out⟩, ⟨by (with_reducible repeat (first | apply Kd.S_alloc | apply Kd.S_drewN | apply Kd.S_drew)); exact HO_21.out⟩, ⟨by repeat (first | (with_reducible first | exact HB.out | apply below_alloc | apply pw_below_drewN | apply below_drew1) | exact HB.out)⟩⟩
         ·rw [if_neg c12] at H
          exact absurd H (by simp)
        ·rw [if_neg c11] at H
         exact absurd H (by simp)
       ·rw [if_neg c10] at H
        have c10b0 : decide (x23_2 < (t526.length : Int)) = false := decide_eq_false c10
        clear c10
        have H' := Aside0.mk H
        clear H
        go_wp2
        go_roundg k2
        case measure => have := HK1.out; have := HK2.out; omega
        case rel => exact ⟨(x6_2), (wrap64 (x7_1 + 1)), (by first | rfl | (simp; done) | (simp [*]; done)), H', ⟨by have := HK1.out; have := HK2.out; omega⟩, ⟨by (with_reducible repeat (first | apply Kd.R_alloc | apply Kd.R_drewN | apply Kd.R_drew)); exact HO_6.out⟩, ⟨by repeat (first | (with_reducible first | exact HB.out | apply below_alloc | apply pw_below_drewN | apply below_drew1) | exact HB.out)⟩⟩
    ·rw [if_neg c6] at H
     have c6b0 : decide (x7_1 ≤ a0) = false := decide_eq_false c6
     clear c6
     simp only [Option.some.injEq, Prod.mk.injEq] at H
     obtain ⟨rfl, rfl⟩ := H
     go_wp2
     go_ret2
     exact ⟨_, eqr, by (with_reducible repeat (first | apply Kd.R_alloc | apply Kd.R_drewN | apply Kd.R_drew)); exact HO_6.out, hk HB⟩
 ·replace c4 := Bool.eq_false_iff.mpr c4
  subst c4
  rw [if_neg (show ¬ (false = true) by decide)] at H
  simp only [Option.some.injEq, Prod.mk.injEq] at H
  obtain ⟨rfl, rfl⟩ := H
  go_enter Try.func65, Try.ntmps65
  go_wp2_with (first | ((with_reducible refine gate_callee (f := 39) rfl ?_); refine gof_ (some 12) Try.func39 #[.int .i64 a0, .slice A1 l1.length c1] ?_; (with_reducible refine (spec_cuGood.calls k a0 _ _ l1 false _ ?side1 ?side2 A3.out).mono ?_); (case side1 => repeat (first | exact HR1.out | (with_reducible refine Kd.C_alloc ?_ _) | (with_reducible refine Kd.C_drewN ?_ _) | (with_reducible refine Kd.C_drew ?_))); (case side2 => exact HC1.out); rintro e w16 ⟨rfl, hb⟩; refine ⟨_, rfl, ?_⟩; replace HB := hh HB hb; clear hb))
  go_ret2
  exact ⟨_, eqr, by first | exact Kd.R_nil _ _ _ _ _ | exact Kd.N_nil _ _ _ _ _ | exact Kd.V_nil _ _ _ _ _ | exact Kd.Q_nil _ _ _ _ _ | exact Kd.S_nil _ _ _ _ _, hk HB⟩

end Go.Proofs.Ytggocekjhohhcaa.P

-- By a program of this session.
namespace Go.Proofs.Ytggocekjhohhcaa.P
open Go.RowKit Go.Proofs.YtggocekjhohhcaaW.PrintWords Go.Proofs.YtggocekjhohhcaaW.PrintLast Go.Proofs.YtggocekjhohhcaaW.PrintMore
attribute [local go_sem] max2_int min2_int max_two min_two max_three min_three max_four min_four
set_option linter.unusedVariables false
set_option linter.unusedSimpArgs false

/-! ### spec_caChoose: function 95 -/
mutual
def spec_caChoose.j0 : Nat → Int → Int → Bool → Option (Int)
 | 0, _, _, _ => none
 | k + 1, x0, x1, x13 => if x13 = true then (some 0) else (spec_caChoose.l0 k x0 x1 1 1)
def spec_caChoose.l0 : Nat → Int → Int → Int → Int → Option (Int)
 | 0, _, _, _, _ => none
 | k + 1, x0, x1, x5, x6 => if x6 ≤ x1 then (if x6 = 0 then (none) else (spec_caChoose.l0 k x0 x1 (wrap64 (Int.tdiv (wrap64 (x5 * (wrap64 ((wrap64 (x0 - x1)) + x6)))) x6)) (wrap64 (x6 + 1)))) else (some x5)
end
def spec_caChoose.f (k : Nat) (a0 : Int) (a1 : Int) : Option (Int) := if a1 < 0 then (spec_caChoose.j0 k a0 a1 true) else (spec_caChoose.j0 k a0 a1 (decide (a1 > a0)))
theorem spec_caChoose.mono_l : ∀ k, (∀ y0 y1 y2, LeO (spec_caChoose.j0 k y0 y1 y2) (spec_caChoose.j0 (k + 1) y0 y1 y2)) ∧ (∀ y0 y1 y2 y3, LeO (spec_caChoose.l0 k y0 y1 y2 y3) (spec_caChoose.l0 (k + 1) y0 y1 y2 y3))
 | 0 => ⟨fun _ _ _ r h => by simp [spec_caChoose.j0] at h, fun _ _ _ _ r h => by simp [spec_caChoose.l0] at h⟩
 | k + 1 => by
  obtain ⟨ih0, ih1⟩ := spec_caChoose.mono_l k
  refine ⟨?_, ?_⟩
  ·intro y0 y1 y2
   unfold spec_caChoose.j0
   repeat' first
   | (with_reducible exact ih0 _ _ _)
   | (with_reducible exact ih1 _ _ _ _)
   | (with_reducible exact LeO.refl _)
   | (with_reducible exact LeO.none _)
   | (with_reducible refine LeO.ite ?_ ?_)
   | (with_reducible refine LeO.bind ?_ (fun _ => ?_))
   | apply ih0
   | apply ih1
   | apply LeO.none
   | refine LeO.ite ?_ ?_
   | refine LeO.bind ?_ (fun _ => ?_)
  ·intro y0 y1 y2 y3
   unfold spec_caChoose.l0
   repeat' first
   | (with_reducible exact ih0 _ _ _)
   | (with_reducible exact ih1 _ _ _ _)
   | (with_reducible exact LeO.refl _)
   | (with_reducible exact LeO.none _)
   | (with_reducible refine LeO.ite ?_ ?_)
   | (with_reducible refine LeO.bind ?_ (fun _ => ?_))
   | apply ih0
   | apply ih1
   | apply LeO.none
   | refine LeO.ite ?_ ?_
   | refine LeO.bind ?_ (fun _ => ?_)
theorem spec_caChoose.mono : ∀ a0 a1 k, LeO (spec_caChoose.f k a0 a1) (spec_caChoose.f (k + 1) a0 a1) := by
 intro a0 a1 k
 obtain ⟨ih0, ih1⟩ := spec_caChoose.mono_l k
 unfold spec_caChoose.f
 repeat' first
   | (with_reducible exact ih0 _ _ _)
   | (with_reducible exact ih1 _ _ _ _)
   | (with_reducible exact LeO.refl _)
   | (with_reducible exact LeO.none _)
   | (with_reducible refine LeO.ite ?_ ?_)
   | (with_reducible refine LeO.bind ?_ (fun _ => ?_))
   | apply ih0
   | apply ih1
   | apply LeO.none
   | refine LeO.ite ?_ ?_
   | refine LeO.bind ?_ (fun _ => ?_)
set_option maxHeartbeats 8000000 in
set_option maxRecDepth 100000 in
theorem spec_caChoose.calls (k : Nat) (a0 : Int) (a1 : Int) (r : Int) (w : World) (h : spec_caChoose.f k a0 a1 = some r) :
  Calls Try.prog 95 #[.int .i64 a0, .int .i64 a1] w fun e w' => e = .returned (.int .i64 r) ∧ Drawn0 w w' := by
 have H : (if a1 < 0 then (spec_caChoose.j0 k a0 a1 true) else (spec_caChoose.j0 k a0 a1 (decide (a1 > a0)))) = some r := h
 clear h
 have HC3 := Aside0.mk H
 clear H
 go_enter Try.func95, Try.ntmps95
 go_upto_region 1 with (fail)
 go_cut [13] (fun v13 wc => ∃ (kq : Nat) (x13_2 : Bool), v13 = .bool x13_2 ∧ Aside0 (spec_caChoose.j0 kq a0 a1 x13_2 = some r) ∧ Aside0 (kq ≤ k) ∧ Drawn0 w wc)
 case first =>
  have H := HC3.out
  clear HC3
  by_cases c4 : a1 < 0
  ·rw [if_pos c4] at H
   have c4b0 : decide (a1 < 0) = true := decide_eq_true c4
   clear c4
   (first | rw [c4b0] | (simp only [i64_w, i32_w]; rw [c4b0]) | skip)
   have H' := Aside0.mk H
   clear H
   go_wp2
   go_meet
   case rel => exact ⟨_, (true), (by first | rfl | (simp; done) | (simp [*]; done)), H', ⟨by first | omega | exact Nat.le_refl _⟩, by repeat (first | exact Drawn0.refl _ | apply Drawn0.step)⟩
  ·rw [if_neg c4] at H
   have c4b0 : decide (a1 < 0) = false := decide_eq_false c4
   clear c4
   (first | rw [c4b0] | (simp only [i64_w, i32_w]; rw [c4b0]) | skip)
   have H' := Aside0.mk H
   clear H
   go_wp2
   go_meet
   case rel => exact ⟨_, (decide (a1 > a0)), (by first | rfl | (simp; done) | (simp [*]; done)), H', ⟨by first | omega | exact Nat.le_refl _⟩, by repeat (first | exact Drawn0.refl _ | apply Drawn0.step)⟩
 case rest =>
  clear HC3
  (try clear c4);(try clear c4b0)
  obtain ⟨kq, x13_2, rfl, HA, HJ2, ⟨mc2, rfl⟩⟩ := hcut
  cases kq with
  | zero => exact absurd HA.out (by simp [spec_caChoose.j0])
  | succ kj2 =>
   have H := HA.out
   clear HA
   simp only [spec_caChoose.j0] at H
   by_cases c5 : x13_2 = true
   ·subst c5
    rw [if_pos rfl] at H
    obtain rfl := Option.some.inj H
    simp only [Option.some.injEq, Prod.mk.injEq] at H
    obtain ⟨rfl⟩ := H
    go_wp2
    go_ret
    exact ⟨by first | rfl | (simp; done) | (simp [*]; done), by repeat (first | exact Drawn0.refl _ | apply Drawn0.step)⟩
   ·replace c5 := Bool.eq_false_iff.mpr c5
    subst c5
    rw [if_neg (show ¬ (false = true) by decide)] at H
    have H' := Aside0.mk H
    clear H
    go_wp2
    go_loopg [5, 6] kj2 (fun kq v5 v6 w' => ∃ (x5_2 : Int) (x6_2 : Int), v5 = .int .i64 x5_2 ∧ v6 = .int .i64 x6_2 ∧ Aside0 (spec_caChoose.l0 kq a0 a1 x5_2 x6_2 = some r) ∧ Aside0 (kq ≤ kj2) ∧ Drawn0 w w')
    case atStart => exact ⟨(1), (1), (by first | rfl | (simp; done) | (simp [*]; done)), (by first | rfl | (simp; done) | (simp [*]; done)), H', ⟨Nat.le_refl _⟩, by repeat (first | exact Drawn0.refl _ | apply Drawn0.step)⟩
    case round =>
     clear H'
     (try clear c4);(try clear c4b0);(try clear c5)
     obtain ⟨x5_2, x6_2, rfl, rfl, HA, HK2, ⟨m2, rfl⟩⟩ := hrel
     cases gk with
     | zero => exact absurd HA.out (by simp [spec_caChoose.l0])
     | succ k2 =>
      have H := HA.out
      clear HA
      simp only [spec_caChoose.l0] at H
      by_cases c6 : x6_2 ≤ a1
      ·rw [if_pos c6] at H
       have c6b0 : decide (x6_2 ≤ a1) = true := decide_eq_true c6
       clear c6
       by_cases c7 : x6_2 = 0
       ·rw [if_pos c7] at H
        exact absurd H (by simp)
       ·rw [if_neg c7] at H
        have c7b0 : (x6_2 == 0) = false := beq_eq_false_iff_ne.mpr c7
        have c7b1 : (x6_2 != 0) = true := bne_iff_ne.mpr c7
        have H' := Aside0.mk H
        clear H
        go_wp2
        go_roundg k2
        case measure => have := HJ2.out; have := HK2.out; omega
        case rel => exact ⟨(wrap64 (Int.tdiv (wrap64 (x5_2 * (wrap64 ((wrap64 (a0 - a1)) + x6_2)))) x6_2)), (wrap64 (x6_2 + 1)), (by first | rfl | (simp; done) | (simp [*]; done)), (by first | rfl | (simp; done) | (simp [*]; done)), H', ⟨by have := HJ2.out; have := HK2.out; omega⟩, by repeat (first | exact Drawn0.refl _ | apply Drawn0.step)⟩
      ·rw [if_neg c6] at H
       have c6b0 : decide (x6_2 ≤ a1) = false := decide_eq_false c6
       clear c6
       obtain rfl := Option.some.inj H
       simp only [Option.some.injEq, Prod.mk.injEq] at H
       obtain ⟨rfl⟩ := H
       go_wp2
       go_ret
       exact ⟨by first | rfl | (simp; done) | (simp [*]; done), by repeat (first | exact Drawn0.refl _ | apply Drawn0.step)⟩

end Go.Proofs.Ytggocekjhohhcaa.P

-- By a program of this session.
namespace Go.Proofs.Ytggocekjhohhcaa.P
open Go.RowKit Go.Proofs.YtggocekjhohhcaaW.PrintWords Go.Proofs.YtggocekjhohhcaaW.PrintLast Go.Proofs.YtggocekjhohhcaaW.PrintMore
attribute [local go_sem] max2_int min2_int max_two min_two max_three min_three max_four min_four
set_option linter.unusedVariables false
set_option linter.unusedSimpArgs false

/-! ### spec_caCount: function 66 -/
def spec_caCount.f (k : Nat) (a0 : Int) : Option (Int) := (spec_caChoose.f k (wrap64 ((wrap64 (2 * a0)) - 4)) (wrap64 (a0 - 2))).bind fun t533 => (if (wrap64 (a0 - 1)) = 0 then (none) else (some (wrap64 (Int.tdiv t533 (wrap64 (a0 - 1))))))
theorem spec_caCount.mono : ∀ a0 k, LeO (spec_caCount.f k a0) (spec_caCount.f (k + 1) a0) := by
 intro a0 k
 unfold spec_caCount.f
 repeat' first
   | (with_reducible exact spec_caChoose.mono _ _ _)
   | (with_reducible exact LeO.refl _)
   | (with_reducible exact LeO.none _)
   | (with_reducible refine LeO.ite ?_ ?_)
   | (with_reducible refine LeO.bind ?_ (fun _ => ?_))
   | apply spec_caChoose.mono
   | apply LeO.none
   | refine LeO.ite ?_ ?_
   | refine LeO.bind ?_ (fun _ => ?_)
set_option maxHeartbeats 8000000 in
set_option maxRecDepth 100000 in
theorem spec_caCount.calls (k : Nat) (a0 : Int) (r : Int) (w : World) (h : spec_caCount.f k a0 = some r) :
  Calls Try.prog 66 #[.int .i64 a0] w fun e w' => e = .returned (.int .i64 r) ∧ Drawn0 w w' := by
 have H := h
 clear h
 unfold spec_caCount.f at H
 replace H := Option.bind_eq_some_iff.mp H
 obtain ⟨t533, A20, H⟩ := H
 have A2 := Aside0.mk A20
 clear A20
 by_cases c3 : (wrap64 (a0 - 1)) = 0
 ·rw [if_pos c3] at H
  exact absurd H (by simp)
 ·rw [if_neg c3] at H
  have c3b0 : ((wrap64 (a0 - 1)) == 0) = false := beq_eq_false_iff_ne.mpr c3
  have c3b1 : ((wrap64 (a0 - 1)) != 0) = true := bne_iff_ne.mpr c3
  obtain rfl := Option.some.inj H
  simp only [Option.some.injEq, Prod.mk.injEq] at H
  obtain ⟨rfl⟩ := H
  go_enter Try.func66, Try.ntmps66
  go_wp2_with (first | ((with_reducible refine gate_callee (f := 95) rfl ?_); refine gof_ (some 8) Try.func95 #[.int .i64 (wrap64 ((wrap64 (2 * a0)) - 4)), .int .i64 (wrap64 (a0 - 2))] ?_; (with_reducible refine (spec_caChoose.calls k (wrap64 ((wrap64 (2 * a0)) - 4)) (wrap64 (a0 - 2)) t533 _ A2.out).mono ?_); rintro e w' ⟨rfl, ⟨nd, rfl⟩⟩; refine ⟨_, rfl, ?_⟩))
  go_ret
  exact ⟨by first | rfl | (simp; done) | (simp [*]; done), by repeat (first | exact Drawn0.refl _ | apply Drawn0.step)⟩

end Go.Proofs.Ytggocekjhohhcaa.P

-- By a program of this session.
namespace Go.Proofs.Ytggocekjhohhcaa.P
open Go.RowKit Go.Proofs.YtggocekjhohhcaaW.PrintWords Go.Proofs.YtggocekjhohhcaaW.PrintLast Go.Proofs.YtggocekjhohhcaaW.PrintMore
attribute [local go_sem] max2_int min2_int max_two min_two max_three min_three max_four min_four
set_option linter.unusedVariables false
set_option linter.unusedSimpArgs false

/-! ### spec_CountWith: function 37 -/
def spec_CountWith.l0 : Nat → Int → List Int → Int → Int → Option (Int × Bool)
 | 0, _, _, _, _ => none
 | k + 1, x6, x21, x22, x23 => if x23 < x22 then (if 0 ≤ x23 then (if x23 < (x21.length : Int) then ((spec_caCount.f k (rd x21 x23)).bind fun t540 => (spec_CountWith.l0 k (wrap64 (x6 * t540)) x21 x22 (wrap64 (x23 + 1)))) else (none)) else (none)) else (some (x6, true))
def spec_CountWith.f (k : Nat) (a0 : Int) (l1 : List (S59)) : Option (Int × Bool) := (spec_IsCut.f k a0 l1).bind fun t534 => (if t534 = true then ((spec_SizesOfCut.f k a0 l1).bind fun bt535 => (spec_CountWith.l0 k 1 bt535.1 (bt535.1.length : Int) 0)) else (some (0, false)))
theorem spec_CountWith.mono_l : ∀ k, (∀ y0 y1 y2 y3, LeO (spec_CountWith.l0 k y0 y1 y2 y3) (spec_CountWith.l0 (k + 1) y0 y1 y2 y3))
 | 0 => fun _ _ _ _ r h => by simp [spec_CountWith.l0] at h
 | k + 1 => by
  have ih0 := spec_CountWith.mono_l k
  ·intro y0 y1 y2 y3
   unfold spec_CountWith.l0
   repeat' first
   | (with_reducible exact ih0 _ _ _ _)
   | (with_reducible exact spec_IsCut.mono _ _ _)
   | (with_reducible exact spec_SizesOfCut.mono _ _ _)
   | (with_reducible exact spec_caCount.mono _ _)
   | (with_reducible exact LeO.refl _)
   | (with_reducible exact LeO.none _)
   | (with_reducible refine LeO.ite ?_ ?_)
   | (with_reducible refine LeO.bind ?_ (fun _ => ?_))
   | apply ih0
   | apply spec_IsCut.mono
   | apply spec_SizesOfCut.mono
   | apply spec_caCount.mono
   | apply LeO.none
   | refine LeO.ite ?_ ?_
   | refine LeO.bind ?_ (fun _ => ?_)
theorem spec_CountWith.mono : ∀ a0 a1 k, LeO (spec_CountWith.f k a0 a1) (spec_CountWith.f (k + 1) a0 a1) := by
 intro a0 a1 k
 have ih0 := spec_CountWith.mono_l k
 unfold spec_CountWith.f
 repeat' first
   | (with_reducible exact ih0 _ _ _ _)
   | (with_reducible exact spec_IsCut.mono _ _ _)
   | (with_reducible exact spec_SizesOfCut.mono _ _ _)
   | (with_reducible exact spec_caCount.mono _ _)
   | (with_reducible exact LeO.refl _)
   | (with_reducible exact LeO.none _)
   | (with_reducible refine LeO.ite ?_ ?_)
   | (with_reducible refine LeO.bind ?_ (fun _ => ?_))
   | apply ih0
   | apply spec_IsCut.mono
   | apply spec_SizesOfCut.mono
   | apply spec_caCount.mono
   | apply LeO.none
   | refine LeO.ite ?_ ?_
   | refine LeO.bind ?_ (fun _ => ?_)
set_option maxHeartbeats 8000000 in
set_option maxRecDepth 100000 in
theorem spec_CountWith.calls (k : Nat) (a0 : Int) (A1 : Option Addr) (c1 : Nat) (l1 : List (S59)) (r1 : Int) (r2 : Bool) (w : World) (hr1 : Kd.C k59 w A1 l1.length l1) (hc1 : l1.length ≤ c1) (h : spec_CountWith.f k a0 l1 = some (r1, r2)) :
  Calls Try.prog 37 #[.int .i64 a0, .slice A1 l1.length c1] w fun e w' => e = .returned (.tuple #[.int .i64 r1, .bool r2]) ∧ Below w.heap.size w w' := by
 have HR1 := Aside0.mk hr1
 have HC1 := Aside0.mk hc1
 clear hr1 hc1
 have HB := Aside0.mk (Below.refl w.heap.size w)
 have H := h
 clear h
 unfold spec_CountWith.f at H
 replace H := Option.bind_eq_some_iff.mp H
 obtain ⟨t534, A30, H⟩ := H
 have A3 := Aside0.mk A30
 clear A30
 by_cases c4 : t534 = true
 ·subst c4
  rw [if_pos rfl] at H
  replace H := Option.bind_eq_some_iff.mp H
  obtain ⟨⟨t535, t536⟩, A50, H⟩ := H
  try dsimp only at H
  have A5 := Aside0.mk A50
  clear A50
  have H' := Aside0.mk H
  clear H
  go_enter Try.func37, Try.ntmps37
  go_wp2_with (first | ((with_reducible refine gate_callee (f := 64) rfl ?_); refine gof_ (some 13) Try.func64 #[.int .i64 a0, .slice A1 l1.length c1] ?_; (with_reducible refine (spec_IsCut.calls k a0 _ _ l1 true _ ?side1 ?side2 A3.out).mono ?_); (case side1 => repeat (first | exact HR1.out | (with_reducible refine Kd.C_alloc ?_ _) | (with_reducible refine Kd.C_drewN ?_ _) | (with_reducible refine Kd.C_drew ?_))); (case side2 => exact HC1.out); rintro e w6 ⟨rfl, hb⟩; refine ⟨_, rfl, ?_⟩; replace HB := hh HB hb; clear hb) | ((with_reducible refine gate_callee (f := 65) rfl ?_); refine gof_ (some 18) Try.func65 #[.int .i64 a0, .slice A1 l1.length c1] ?_; (with_reducible refine (spec_SizesOfCut.calls k a0 _ _ l1 t535 t536 _ ?side1 ?side2 A5.out).mono ?_); (case side1 => repeat (first | exact (Kd.C_below HR1.out HB.out) | (with_reducible refine Kd.C_alloc ?_ _) | (with_reducible refine Kd.C_drewN ?_ _) | (with_reducible refine Kd.C_drew ?_))); (case side2 => exact HC1.out); rintro e w7 ⟨v537, rfl, ho0, hb⟩; refine ⟨_, rfl, ?_⟩; have HO538 := Aside0.mk (Kd.R_lower ho0 (below_size (hk HB))); replace HB := hh HB hb; (try clear hb); (try clear hb2); (try clear hk); (try clear hi); (try clear ho0); obtain ⟨Ao8, co8, eo8⟩ := Kd.R_slice HO538.out; subst eo8))
  go_loopg [6, 23] k (fun kq v6 v23 w' => ∃ (x6_1 : Int) (x23_1 : Int), v6 = .int .i64 x6_1 ∧ v23 = .int .i64 x23_1 ∧ Aside0 (spec_CountWith.l0 kq x6_1 t535 (t535.length : Int) x23_1 = some (r1, r2)) ∧ Aside0 (kq ≤ k) ∧ Aside0 (Kd.R (Kd.int .i64) 3 w' w.heap.size (fun _ => True) (.slice Ao8 t535.length co8) t535) ∧ Aside0 (Below w.heap.size w w'))
  case atStart => exact ⟨(1), (0), (by first | rfl | (simp; done) | (simp [*]; done)), (by first | rfl | (simp; done) | (simp [*]; done)), H', ⟨Nat.le_refl _⟩, ⟨by (with_reducible repeat (first | apply Kd.R_alloc | apply Kd.R_drewN | apply Kd.R_drew)); exact HO538.out⟩, ⟨by repeat (first | (with_reducible first | exact HB.out | apply below_alloc | apply pw_below_drewN | apply below_drew1) | exact HB.out)⟩⟩
  case round =>
   clear H'
   (try clear c1);(try clear c4)
   obtain ⟨x6_1, x23_1, rfl, rfl, HA, HK1, HO_21, HB⟩ := hrel
   cases gk with
   | zero => exact absurd HA.out (by simp [spec_CountWith.l0])
   | succ k1 =>
    have H := HA.out
    clear HA
    simp only [spec_CountWith.l0] at H
    by_cases c9 : x23_1 < (t535.length : Int)
    ·rw [if_pos c9] at H
     have c9b0 : decide (x23_1 < (t535.length : Int)) = true := decide_eq_true c9
     clear c9
     by_cases c10 : 0 ≤ x23_1
     ·rw [if_pos c10] at H
      have c10b0 : decide (0 ≤ x23_1) = true := decide_eq_true c10
      clear c10
      by_cases c11 : x23_1 < (t535.length : Int)
      ·rw [if_pos c11] at H
       have c11b0 : decide (x23_1 < (t535.length : Int)) = true := decide_eq_true c11
       clear c11
       replace H := Option.bind_eq_some_iff.mp H
       obtain ⟨t540, A120, H⟩ := H
       have A12 := Aside0.mk A120
       clear A120
       have H' := Aside0.mk H
       clear H
       have p539 : 0 ≤ (x23_1 : Int) := of_decide_eq_true (by first | (with_reducible assumption) | assumption)
       have q539 : x23_1 < (t535.length : Int) := of_decide_eq_true (by first | (with_reducible assumption) | assumption)
       obtain ⟨ad539, e539, hx539_0⟩ := Kd.at_int (Kd.R_reads' HO_21.out).2.2 x23_1 p539 q539
       cases e539
       replace p539 := eq_true p539
       replace q539 := eq_true q539
       go_wp2_with (first | ((with_reducible refine gate_callee (f := 66) rfl ?_); refine gof_ (some 29) Try.func66 #[.int .i64 (rd t535 x23_1)] ?_; (with_reducible refine (spec_caCount.calls k1 (rd t535 x23_1) t540 _ A12.out).mono ?_); rintro e w' ⟨rfl, ⟨nd, rfl⟩⟩; refine ⟨_, rfl, ?_⟩))
       go_roundg k1
       case measure => have := HK1.out; omega
       case rel => exact ⟨(wrap64 (x6_1 * t540)), (wrap64 (x23_1 + 1)), (by first | rfl | (simp; done) | (simp [*]; done)), (by first | rfl | (simp; done) | (simp [*]; done)), H', ⟨by have := HK1.out; omega⟩, ⟨by (with_reducible repeat (first | apply Kd.R_alloc | apply Kd.R_drewN | apply Kd.R_drew)); exact HO_21.out⟩, ⟨by repeat (first | (with_reducible first | exact HB.out | apply below_alloc | apply pw_below_drewN | apply below_drew1) | exact HB.out)⟩⟩
      ·rw [if_neg c11] at H
       exact absurd H (by simp)
     ·rw [if_neg c10] at H
      exact absurd H (by simp)
    ·rw [if_neg c9] at H
     have c9b0 : decide (x23_1 < (t535.length : Int)) = false := decide_eq_false c9
     clear c9
     simp only [Option.some.injEq, Prod.mk.injEq] at H
     obtain ⟨rfl, rfl⟩ := H
     go_wp2
     go_ret2
     exact ⟨eqr, hk HB⟩
 ·replace c4 := Bool.eq_false_iff.mpr c4
  subst c4
  rw [if_neg (show ¬ (false = true) by decide)] at H
  simp only [Option.some.injEq, Prod.mk.injEq] at H
  obtain ⟨rfl, rfl⟩ := H
  go_enter Try.func37, Try.ntmps37
  go_wp2_with (first | ((with_reducible refine gate_callee (f := 64) rfl ?_); refine gof_ (some 13) Try.func64 #[.int .i64 a0, .slice A1 l1.length c1] ?_; (with_reducible refine (spec_IsCut.calls k a0 _ _ l1 false _ ?side1 ?side2 A3.out).mono ?_); (case side1 => repeat (first | exact HR1.out | (with_reducible refine Kd.C_alloc ?_ _) | (with_reducible refine Kd.C_drewN ?_ _) | (with_reducible refine Kd.C_drew ?_))); (case side2 => exact HC1.out); rintro e w13 ⟨rfl, hb⟩; refine ⟨_, rfl, ?_⟩; replace HB := hh HB hb; clear hb))
  go_ret2
  exact ⟨eqr, hk HB⟩

end Go.Proofs.Ytggocekjhohhcaa.P

-- By a program of this session.
namespace Go.Proofs.Ytggocekjhohhcaa.P
open Go.RowKit Go.Proofs.YtggocekjhohhcaaW.PrintWords Go.Proofs.YtggocekjhohhcaaW.PrintLast Go.Proofs.YtggocekjhohhcaaW.PrintMore
attribute [local go_sem] max2_int min2_int max_two min_two max_three min_three max_four min_four
set_option linter.unusedVariables false
set_option linter.unusedSimpArgs false

/-! ### impl_CountWith: function 38 -/
def impl_CountWith.f (k : Nat) (a0 : Int) (l1 : List (S59)) : Option (Int × Bool) := (impl_CountFiner.f k a0 l1).bind fun bt541 => (some (bt541.1, bt541.2))
theorem impl_CountWith.mono : ∀ a0 a1 k, LeO (impl_CountWith.f k a0 a1) (impl_CountWith.f (k + 1) a0 a1) := by
 intro a0 a1 k
 unfold impl_CountWith.f
 repeat' first
   | (with_reducible exact impl_CountFiner.mono _ _ _)
   | (with_reducible exact LeO.refl _)
   | (with_reducible exact LeO.none _)
   | (with_reducible refine LeO.ite ?_ ?_)
   | (with_reducible refine LeO.bind ?_ (fun _ => ?_))
   | apply impl_CountFiner.mono
   | apply LeO.none
   | refine LeO.ite ?_ ?_
   | refine LeO.bind ?_ (fun _ => ?_)
set_option maxHeartbeats 8000000 in
set_option maxRecDepth 100000 in
theorem impl_CountWith.calls (k : Nat) (a0 : Int) (A1 : Option Addr) (c1 : Nat) (l1 : List (S59)) (r1 : Int) (r2 : Bool) (w : World) (hr1 : Kd.C k59 w A1 l1.length l1) (hc1 : l1.length ≤ c1) (h : impl_CountWith.f k a0 l1 = some (r1, r2)) :
  Calls Try.prog 38 #[.int .i64 a0, .slice A1 l1.length c1] w fun e w' => e = .returned (.tuple #[.int .i64 r1, .bool r2]) ∧ Below w.heap.size w w' := by
 have HR1 := Aside0.mk hr1
 have HC1 := Aside0.mk hc1
 clear hr1 hc1
 have HB := Aside0.mk (Below.refl w.heap.size w)
 have H : ((impl_CountFiner.f k a0 l1).bind fun bt541 => (some (bt541.1, bt541.2))) = some (r1, r2) := h
 clear h
 replace H := Option.bind_eq_some_iff.mp H
 obtain ⟨⟨t541, t542⟩, A30, H⟩ := H
 try dsimp only at H
 have A3 := Aside0.mk A30
 clear A30
 simp only [Option.some.injEq, Prod.mk.injEq] at H
 obtain ⟨rfl, rfl⟩ := H
 go_enter Try.func38, Try.ntmps38
 go_wp2_with (first | ((with_reducible refine gate_callee (f := 33) rfl ?_); refine gof_ (some 8) Try.func33 #[.int .i64 a0, .slice A1 l1.length c1] ?_; (with_reducible refine (impl_CountFiner.calls k a0 _ _ l1 t541 t542 _ ?side1 ?side2 A3.out).mono ?_); (case side1 => repeat (first | exact HR1.out | (with_reducible refine Kd.C_alloc ?_ _) | (with_reducible refine Kd.C_drewN ?_ _) | (with_reducible refine Kd.C_drew ?_))); (case side2 => exact HC1.out); rintro e w4 ⟨rfl, hb⟩; refine ⟨_, rfl, ?_⟩; replace HB := hh HB hb; clear hb))
 go_ret2
 exact ⟨eqr, hk HB⟩

end Go.Proofs.Ytggocekjhohhcaa.P

-- By a program of this session.
namespace Go.Proofs.Ytggocekjhohhcaa.P
open Go.RowKit Go.Proofs.YtggocekjhohhcaaW.PrintWords Go.Proofs.YtggocekjhohhcaaW.PrintLast Go.Proofs.YtggocekjhohhcaaW.PrintMore
attribute [local go_sem] max2_int min2_int max_two min_two max_three min_three max_four min_four
set_option linter.unusedVariables false
set_option linter.unusedSimpArgs false

/-! ### laws_FnExactCountWith: function 9 -/
def laws_FnExactCountWith.j0 : Nat → List (S61) → List (S59) → Bool → Option (Bool)
 | 0, _, _, _ => none
 | k + 1, x1, x8, x38 => if x38 = true then (some false) else ((laws_toDiagonalS.f k x1).bind fun t554 => ((laws_eqDiagonalS.f k x8 t554).bind fun t557 => (if t557 = true then (some true) else (some false))))
def laws_FnExactCountWith.f (k : Nat) (a0 : Int) (l1 : List (S61)) : Option (Bool) := (laws_szDiagonalS.f l1 1048576).bind fun t543 => (if t543 < 0 then (some true) else ((laws_toDiagonalS.f k l1).bind fun t544 => ((spec_CountWith.f k a0 t544).bind fun bt547 => ((laws_toDiagonalS.f k l1).bind fun t549 => ((impl_CountWith.f k a0 t549).bind fun bt552 => (if bt552.1 = bt547.1 then (laws_FnExactCountWith.j0 k l1 t549 (bt552.2 != bt547.2)) else (laws_FnExactCountWith.j0 k l1 t549 true)))))))
theorem laws_FnExactCountWith.mono_l : ∀ k, (∀ y0 y1 y2, LeO (laws_FnExactCountWith.j0 k y0 y1 y2) (laws_FnExactCountWith.j0 (k + 1) y0 y1 y2))
 | 0 => fun _ _ _ r h => by simp [laws_FnExactCountWith.j0] at h
 | k + 1 => by
  have ih0 := laws_FnExactCountWith.mono_l k
  ·intro y0 y1 y2
   unfold laws_FnExactCountWith.j0
   repeat' first
   | (with_reducible exact ih0 _ _ _)
   | (with_reducible exact impl_CountWith.mono _ _ _)
   | (with_reducible exact laws_eqDiagonalS.mono _ _ _)
   | (with_reducible exact laws_toDiagonalS.mono _ _)
   | (with_reducible exact spec_CountWith.mono _ _ _)
   | (with_reducible exact LeO.refl _)
   | (with_reducible exact LeO.none _)
   | (with_reducible refine LeO.ite ?_ ?_)
   | (with_reducible refine LeO.bind ?_ (fun _ => ?_))
   | apply ih0
   | apply impl_CountWith.mono
   | apply laws_eqDiagonalS.mono
   | apply laws_toDiagonalS.mono
   | apply spec_CountWith.mono
   | apply LeO.none
   | refine LeO.ite ?_ ?_
   | refine LeO.bind ?_ (fun _ => ?_)
theorem laws_FnExactCountWith.mono : ∀ a0 a1 k, LeO (laws_FnExactCountWith.f k a0 a1) (laws_FnExactCountWith.f (k + 1) a0 a1) := by
 intro a0 a1 k
 have ih0 := laws_FnExactCountWith.mono_l k
 unfold laws_FnExactCountWith.f
 repeat' first
   | (with_reducible exact ih0 _ _ _)
   | (with_reducible exact impl_CountWith.mono _ _ _)
   | (with_reducible exact laws_eqDiagonalS.mono _ _ _)
   | (with_reducible exact laws_toDiagonalS.mono _ _)
   | (with_reducible exact spec_CountWith.mono _ _ _)
   | (with_reducible exact LeO.refl _)
   | (with_reducible exact LeO.none _)
   | (with_reducible refine LeO.ite ?_ ?_)
   | (with_reducible refine LeO.bind ?_ (fun _ => ?_))
   | apply ih0
   | apply impl_CountWith.mono
   | apply laws_eqDiagonalS.mono
   | apply laws_toDiagonalS.mono
   | apply spec_CountWith.mono
   | apply LeO.none
   | refine LeO.ite ?_ ?_
   | refine LeO.bind ?_ (fun _ => ?_)
theorem laws_FnExactCountWith.j0.dead : ∀ {k : Nat} {x1 : List (S61)} {x8 : List (S59)} {r : Bool}, laws_FnExactCountWith.j0 k x1 x8 true = some r → r = false := by
 intro k x1 x8 r h
 cases k with
 | zero => cases h
 | succ k => exact (Option.some.inj (show some false = some r from h)).symm
set_option maxHeartbeats 8000000 in
set_option maxRecDepth 100000 in
theorem laws_FnExactCountWith.calls (k : Nat) (a0 : Int) (A1 : Option Addr) (c1 : Nat) (l1 : List (S61)) (r : Bool) (w : World) (hr1 : Kd.C k61 w A1 l1.length l1) (hc1 : l1.length ≤ c1) (hrt : r = true) (h : laws_FnExactCountWith.f k a0 l1 = some r) :
  Calls Try.prog 9 #[.int .i64 a0, .slice A1 l1.length c1] w fun e w' => e = .returned (.bool r) ∧ Below w.heap.size w w' := by
 have HR1 := Aside0.mk hr1
 have HC1 := Aside0.mk hc1
 clear hr1 hc1
 have HB := Aside0.mk (Below.refl w.heap.size w)
 have H := h
 clear h
 unfold laws_FnExactCountWith.f at H
 replace H := Option.bind_eq_some_iff.mp H
 obtain ⟨t543, A30, H⟩ := H
 have A3 := Aside0.mk A30
 clear A30
 by_cases c4 : t543 < 0
 ·rw [if_pos c4] at H
  have c4b0 : decide (t543 < 0) = true := decide_eq_true c4
  clear c4
  as_aux_lemma =>
   obtain rfl := Option.some.inj H
   clear hrt
   go_enter Try.func9, Try.ntmps9
   go_wp2_with (first | ((with_reducible refine gate_callee (f := 10) rfl ?_); refine gof_ (some 13) Try.func10 #[.slice A1 l1.length c1, .int .i64 1048576] ?_; (with_reducible refine (laws_szDiagonalS.calls _ _ l1 1048576 t543 _ ?side1 ?side2 A3.out).mono ?_); (case side1 => repeat (first | exact HR1.out | (with_reducible refine Kd.C_alloc ?_ _) | (with_reducible refine Kd.C_drewN ?_ _) | (with_reducible refine Kd.C_drew ?_))); (case side2 => exact HC1.out); rintro e w' ⟨rfl, ⟨nd, rfl⟩⟩; refine ⟨_, rfl, ?_⟩))
   go_ret
   exact ⟨eqr, hk HB⟩
 ·rw [if_neg c4] at H
  have c4b0 : decide (t543 < 0) = false := decide_eq_false c4
  clear c4
  replace H := Option.bind_eq_some_iff.mp H
  obtain ⟨t544, A50, H⟩ := H
  have A5 := Aside0.mk A50
  clear A50
  replace H := Option.bind_eq_some_iff.mp H
  obtain ⟨⟨t547, t548⟩, A60, H⟩ := H
  try dsimp only at H
  have A6 := Aside0.mk A60
  clear A60
  replace H := Option.bind_eq_some_iff.mp H
  obtain ⟨t549, A70, H⟩ := H
  have A7 := Aside0.mk A70
  clear A70
  replace H := Option.bind_eq_some_iff.mp H
  obtain ⟨⟨t552, t553⟩, A80, H⟩ := H
  try dsimp only at H
  have A8 := Aside0.mk A80
  clear A80
  have HC9 := Aside0.mk H
  clear H
  go_enter Try.func9, Try.ntmps9
  go_upto_region 8 with (first | ((with_reducible refine gate_callee (f := 10) rfl ?_); refine gof_ (some 13) Try.func10 #[.slice A1 l1.length c1, .int .i64 1048576] ?_; (with_reducible refine (laws_szDiagonalS.calls _ _ l1 1048576 t543 _ ?side1 ?side2 A3.out).mono ?_); (case side1 => repeat (first | exact HR1.out | (with_reducible refine Kd.C_alloc ?_ _) | (with_reducible refine Kd.C_drewN ?_ _) | (with_reducible refine Kd.C_drew ?_))); (case side2 => exact HC1.out); rintro e w' ⟨rfl, ⟨nd, rfl⟩⟩; refine ⟨_, rfl, ?_⟩) | ((with_reducible refine gate_callee (f := 12) rfl ?_); refine gof_ (some 19) Try.func12 #[.slice A1 l1.length c1] ?_; (with_reducible refine (laws_toDiagonalS.calls k _ _ l1 t544 _ ?side1 ?side2 A5.out).mono ?_); (case side1 => repeat (first | exact HR1.out | (with_reducible refine Kd.C_alloc ?_ _) | (with_reducible refine Kd.C_drewN ?_ _) | (with_reducible refine Kd.C_drew ?_))); (case side2 => exact HC1.out); rintro e w10 ⟨v545, rfl, ho0, hb⟩; refine ⟨_, rfl, ?_⟩; have HO546 := Aside0.mk (Kd.R_lower ho0 (below_size (hk HB))); replace HB := hh HB hb; (try clear hb); (try clear hb2); (try clear hk); (try clear hi); (try clear ho0); obtain ⟨Ao11, co11, eo11⟩ := Kd.R_slice HO546.out; subst eo11) | ((with_reducible refine gate_callee (f := 37) rfl ?_); refine gof_ (some 20) Try.func37 #[.int .i64 a0, .slice Ao11 t544.length co11] ?_; (with_reducible refine (spec_CountWith.calls k a0 _ _ t544 t547 t548 _ ?side1 ?side2 A6.out).mono ?_); (case side1 => repeat (first | exact (Kd.R_reads' HO546.out).2.2 | (with_reducible refine Kd.C_alloc ?_ _) | (with_reducible refine Kd.C_drewN ?_ _) | (with_reducible refine Kd.C_drew ?_))); (case side2 => exact (Kd.R_reads' HO546.out).2.1); rintro e w12 ⟨rfl, hb⟩; refine ⟨_, rfl, ?_⟩; replace HO546 := Aside0.mk (Kd.R_below (by (with_reducible repeat (first | apply Kd.R_alloc | apply Kd.R_drewN | apply Kd.R_drew)); exact HO546.out) hb); replace HB := hh HB hb; clear hb) | ((with_reducible refine gate_callee (f := 12) rfl ?_); refine gof_ (some 24) Try.func12 #[.slice A1 l1.length c1] ?_; (with_reducible refine (laws_toDiagonalS.calls k _ _ l1 t549 _ ?side1 ?side2 A7.out).mono ?_); (case side1 => repeat (first | exact (Kd.C_below HR1.out HB.out) | (with_reducible refine Kd.C_alloc ?_ _) | (with_reducible refine Kd.C_drewN ?_ _) | (with_reducible refine Kd.C_drew ?_))); (case side2 => exact HC1.out); rintro e w13 ⟨v550, rfl, ho0, hb⟩; refine ⟨_, rfl, ?_⟩; have HO551 := Aside0.mk (Kd.R_lower (Kd.R_new' ho0 (Kd.R_lt (by (with_reducible repeat (first | apply Kd.R_alloc | apply Kd.R_drewN | apply Kd.R_drew)); exact HO546.out))) (below_size (hk HB))); replace HO546 := Aside0.mk (Kd.R_elder' (by (with_reducible repeat (first | apply Kd.R_alloc | apply Kd.R_drewN | apply Kd.R_drew)); exact HO546.out) (Kd.R_base ho0) hb); replace HB := hh HB hb; (try clear hb); (try clear hb2); (try clear hk); (try clear hi); (try clear ho0); obtain ⟨Ao14, co14, eo14⟩ := Kd.R_slice HO551.out; subst eo14) | ((with_reducible refine gate_callee (f := 38) rfl ?_); refine gof_ (some 28) Try.func38 #[.int .i64 a0, .slice Ao14 t549.length co14] ?_; (with_reducible refine (impl_CountWith.calls k a0 _ _ t549 t552 t553 _ ?side1 ?side2 A8.out).mono ?_); (case side1 => repeat (first | exact (Kd.R_reads' HO551.out).2.2 | (with_reducible refine Kd.C_alloc ?_ _) | (with_reducible refine Kd.C_drewN ?_ _) | (with_reducible refine Kd.C_drew ?_))); (case side2 => exact (Kd.R_reads' HO551.out).2.1); rintro e w15 ⟨rfl, hb⟩; refine ⟨_, rfl, ?_⟩; replace HO546 := Aside0.mk (Kd.R_below (by (with_reducible repeat (first | apply Kd.R_alloc | apply Kd.R_drewN | apply Kd.R_drew)); exact HO546.out) hb); replace HO551 := Aside0.mk (Kd.R_below (by (with_reducible repeat (first | apply Kd.R_alloc | apply Kd.R_drewN | apply Kd.R_drew)); exact HO551.out) hb); replace HB := hh HB hb; clear hb))
  (try simp only [Act.put, List.setIfInBounds_toArray, List.set_cons_zero, List.set_cons_succ])
  go_cut [38] (fun v38 wc => ∃ (kq : Nat) (x38_8 : Bool), v38 = .bool x38_8 ∧ Aside0 (laws_FnExactCountWith.j0 kq l1 t549 x38_8 = some r) ∧ Aside0 (kq ≤ k) ∧ Aside0 (Kd.R k59 59 wc w.heap.size (fun _ => True) (.slice Ao14 t549.length co14) t549) ∧ Aside0 (Below w.heap.size w wc))
  case first =>
   have H := HC9.out
   clear HC9
   by_cases c16 : t552 = t547
   ·rw [if_pos c16] at H
    have c16b0 : (t552 == t547) = true := beq_iff_eq.mpr c16
    have c16b1 : (t552 != t547) = false := bne_eq_false_iff_eq.mpr c16
    clear c16
    (first | rw [c16b0] | (simp only [i64_w, i32_w]; rw [c16b0]) | skip)
    as_aux_lemma =>
     have H' := Aside0.mk H
     clear H
     go_wp2
     go_meet
     case rel => exact ⟨_, ((t553 != t548)), (by first | rfl | (simp; done) | (simp [*]; done)), H', ⟨by first | omega | exact Nat.le_refl _⟩, ⟨by (with_reducible repeat (first | apply Kd.R_alloc | apply Kd.R_drewN | apply Kd.R_drew)); exact Kd.R_mono HO551.out (fun _ hk => trivial)⟩, ⟨by repeat (first | (with_reducible first | exact HB.out | apply below_alloc | apply pw_below_drewN | apply below_drew1) | exact HB.out)⟩⟩
   ·rw [if_neg c16] at H
    have c16b0 : (t552 == t547) = false := beq_eq_false_iff_ne.mpr c16
    have c16b1 : (t552 != t547) = true := bne_iff_ne.mpr c16
    (first | rw [c16b0] | (simp only [i64_w, i32_w]; rw [c16b0]) | skip)
    cases (laws_FnExactCountWith.j0.dead H).symm.trans hrt
  case rest =>
   clear HC9
   (try clear c1);(try clear c4);(try clear c4b0);(try clear c16);(try clear c16b0);(try clear c16b1)
   obtain ⟨kq, x38_8, rfl, HA, HJ8, HO_8, HB⟩ := hcut
   cases kq with
   | zero => exact absurd HA.out (by simp [laws_FnExactCountWith.j0])
   | succ kj8 =>
    have H := HA.out
    clear HA
    simp only [laws_FnExactCountWith.j0] at H
    by_cases c17 : x38_8 = true
    ·subst c17
     rw [if_pos rfl] at H
     obtain rfl := Option.some.inj H
     cases hrt
    ·replace c17 := Bool.eq_false_iff.mpr c17
     subst c17
     rw [if_neg (show ¬ (false = true) by decide)] at H
     replace H := Option.bind_eq_some_iff.mp H
     obtain ⟨t554, A180, H⟩ := H
     have A18 := Aside0.mk A180
     clear A180
     replace H := Option.bind_eq_some_iff.mp H
     obtain ⟨t557, A190, H⟩ := H
     have A19 := Aside0.mk A190
     clear A190
     by_cases c20 : t557 = true
     ·subst c20
      rw [if_pos rfl] at H
      as_aux_lemma =>
       obtain rfl := Option.some.inj H
       clear hrt
       go_wp2_with (first | ((with_reducible refine gate_callee (f := 12) rfl ?_); refine gof_ (some 41) Try.func12 #[.slice A1 l1.length c1] ?_; (with_reducible refine (laws_toDiagonalS.calls kj8 _ _ l1 t554 _ ?side1 ?side2 A18.out).mono ?_); (case side1 => repeat (first | exact (Kd.C_below HR1.out HB.out) | (with_reducible refine Kd.C_alloc ?_ _) | (with_reducible refine Kd.C_drewN ?_ _) | (with_reducible refine Kd.C_drew ?_))); (case side2 => exact HC1.out); rintro e w21 ⟨v555, rfl, ho0, hb⟩; refine ⟨_, rfl, ?_⟩; have HO556 := Aside0.mk (Kd.R_lower (Kd.R_new' ho0 (Kd.R_lt (by (with_reducible repeat (first | apply Kd.R_alloc | apply Kd.R_drewN | apply Kd.R_drew)); exact HO_8.out))) (below_size (hk HB))); replace HO_8 := Aside0.mk (Kd.R_elder' (by (with_reducible repeat (first | apply Kd.R_alloc | apply Kd.R_drewN | apply Kd.R_drew)); exact HO_8.out) (Kd.R_base ho0) hb); replace HB := hh HB hb; (try clear hb); (try clear hb2); (try clear hk); (try clear hi); (try clear ho0); obtain ⟨Ao22, co22, eo22⟩ := Kd.R_slice HO556.out; subst eo22) | ((with_reducible refine gate_callee (f := 15) rfl ?_); refine gof_ (some 42) Try.func15 #[.slice Ao14 t549.length co14, .slice Ao22 t554.length co22] ?_; (with_reducible refine (laws_eqDiagonalS.calls kj8 _ _ t549 _ _ t554 true _ ?side1 ?side2 ?side3 ?side4 A19.out).mono ?_); (case side1 => repeat (first | exact (Kd.R_reads' HO_8.out).2.2 | (with_reducible refine Kd.C_alloc ?_ _) | (with_reducible refine Kd.C_drewN ?_ _) | (with_reducible refine Kd.C_drew ?_))); (case side2 => exact (Kd.R_reads' HO_8.out).2.1); (case side3 => repeat (first | exact (Kd.R_reads' HO556.out).2.2 | (with_reducible refine Kd.C_alloc ?_ _) | (with_reducible refine Kd.C_drewN ?_ _) | (with_reducible refine Kd.C_drew ?_))); (case side4 => exact (Kd.R_reads' HO556.out).2.1); rintro e w23 ⟨rfl, hb⟩; refine ⟨_, rfl, ?_⟩; replace HO_8 := Aside0.mk (Kd.R_below (by (with_reducible repeat (first | apply Kd.R_alloc | apply Kd.R_drewN | apply Kd.R_drew)); exact HO_8.out) hb); replace HO556 := Aside0.mk (Kd.R_below (by (with_reducible repeat (first | apply Kd.R_alloc | apply Kd.R_drewN | apply Kd.R_drew)); exact HO556.out) hb); replace HB := hh HB hb; clear hb))
       go_ret
       exact ⟨eqr, hk HB⟩
     ·replace c20 := Bool.eq_false_iff.mpr c20
      subst c20
      rw [if_neg (show ¬ (false = true) by decide)] at H
      obtain rfl := Option.some.inj H
      cases hrt

end Go.Proofs.Ytggocekjhohhcaa.P

/- FnExactCountWith: what both sides answer. -/
namespace Go.Proofs.Ytggocekjhohhcaa.P
set_option linter.unusedVariables false
set_option linter.unusedSimpArgs false
open Go.RowKit Go.Proofs.YtggocekjhohhcaaW.PrintWords
set_option maxRecDepth 100000 in
theorem ca_spec : ∀ s : Fin 10, spec_caCount.f 30 ((s.val : Int) + 3) = some (catV ((s.val : Int) + 3)) := by decide +kernel
theorem caCount_eq {s : Int} (h3 : 3 ≤ s) (h12 : s ≤ 12) : Ev (fun k => spec_caCount.f k s) (catV s) := by
  have h := ca_spec ⟨(s - 3).toNat, by omega⟩
  rw [show (((⟨(s - 3).toNat, by omega⟩ : Fin 10).val : Int) + 3) = s from by show (((s - 3).toNat : Nat) : Int) + 3 = s; omega] at h
  exact ev_mono (spec_caCount.mono s) h
def pickS (l : List Int) (s : Int) : List Int := l.filter fun x => decide (x = s)
def picks (l : List Int) : Int → Nat → List Int
  | _, 0 => []
  | s, m + 1 => pickS l s ++ picks l (s + 1) m
theorem count_picks (l : List Int) (x : Int) : ∀ (m : Nat) (s : Int), (picks l s m).count x = if s ≤ x ∧ x < s + m then l.count x else 0
  | 0, s => by rw [picks, List.count_nil, if_neg (by omega)]
  | m + 1, s => by
    rw [picks, List.count_append, count_picks l x m (s + 1)]
    unfold pickS
    by_cases h : x = s
    · subst h
      rw [List.count_filter (p := fun y => decide (y = x)) (a := x) (l := l) (decide_eq_true rfl), if_neg (by omega), if_pos (by omega), Nat.add_zero]
    · rw [List.count_eq_zero_of_not_mem (a := x) (l := l.filter fun y => decide (y = s)) (fun hm => h (by have := (List.mem_filter.1 hm).2; simpa using this)), Nat.zero_add]
      by_cases h2 : s + 1 ≤ x ∧ x < s + 1 + m
      · rw [if_pos h2, if_pos (by omega)]
      · rw [if_neg h2, if_neg (by omega)]
theorem picks_perm {l : List Int} {s : Int} {m : Nat} (h : ∀ x ∈ l, s ≤ x ∧ x < s + m) : (picks l s m).Perm l := by
  rw [List.perm_iff_count]
  intro x
  rw [count_picks]
  by_cases hx : x ∈ l
  · rw [if_pos (h x hx)]
  · rw [List.count_eq_zero_of_not_mem hx]
    split <;> rfl
section
variable {n : Int} {ds : List Dia} {v : List Int × Bool}
theorem sz_l1 (rows : List (List Int)) (hl : rows.length ≤ 1000) {s : Int} (h0 : 0 ≤ s) (h1 : s ≤ 1000) : ∀ (m j : Nat) (x6 : List Int), rows.length - j = m → j ≤ rows.length → x6.length + m ≤ 1000000 →
    Ev (fun k => spec_SizesOfCut.l0 k n ds (x6 ++ pickS (lensOf (rows.drop j)) s) (s + 1)) v → Ev (fun k => spec_SizesOfCut.l1 k n ds x6 s rows (rows.length : Int) (j : Int)) v
  | 0, j, x6, hm, hj, hx, hk => by
    have e : j = rows.length := by omega
    subst e
    rw [List.drop_length] at hk
    have hk2 : Ev (fun k => spec_SizesOfCut.l0 k n ds x6 (s + 1)) v := by simpa [lensOf, pickS] using hk
    refine Ev.succ (Ev.congr hk2 fun k => ?_)
    simp only [spec_SizesOfCut.l1]
    rw [if_neg (by omega), w64n (show _ ≤ s + 1 by omega) (by omega)]
  | m + 1, j, x6, hm, hj, hx, hk => by
    have hlt : j < rows.length := by omega
    have hg : rd_L3 rows (j : Int) = rows[j] := by unfold rd_L3; rw [Int.toNat_natCast]; simp [hlt]
    rw [List.drop_eq_getElem_cons hlt] at hk
    unfold lensOf pickS at hk
    rw [List.map_cons] at hk
    by_cases he : (rows[j].length : Int) = s
    · rw [List.filter_cons_of_pos (by simpa using he), he] at hk
      have ih := sz_l1 rows hl h0 h1 m (j + 1) (x6 ++ [s]) (by omega) (by omega) (by rw [List.length_append, List.length_singleton]; omega) (by rw [List.append_assoc]; exact hk)
      refine Ev.succ (Ev.congr ih fun k => ?_)
      simp only [spec_SizesOfCut.l1]
      rw [if_pos (by omega), if_pos (by omega), if_pos (by omega), hg, if_pos he, if_pos (by omega), w64s (by omega)]
    · rw [List.filter_cons_of_neg (by simpa using he)] at hk
      have ih := sz_l1 rows hl h0 h1 m (j + 1) x6 (by omega) (by omega) (by omega) hk
      refine Ev.succ (Ev.congr ih fun k => ?_)
      simp only [spec_SizesOfCut.l1]
      rw [if_pos (by omega), if_pos (by omega), if_pos (by omega), hg, if_neg he, w64s (by omega)]
theorem sz_l0 (h : GoodD n ds) : ∀ (m : Nat) (s : Int) (x6 : List Int), (n + 1 - s).toNat = m → 3 ≤ s → s ≤ n + 1 → x6.length + 1000 * m ≤ 100000 →
    Ev (fun k => spec_SizesOfCut.l0 k n ds x6 s) (x6 ++ picks (lensOf (Lex.sort (cutAll n ds))) s m, true)
  | 0, s, x6, hm, h3, hs, hx => by
    refine Ev.succ (Ev.const fun k => ?_)
    simp only [spec_SizesOfCut.l0]
    rw [if_neg (by omega), picks, List.append_nil]
  | m + 1, s, x6, hm, h3, hs, hx => by
    have h12 := h.hi
    have hf := h.few
    have hp := (Lex.sort_perm (cutAll n ds)).length_eq
    have hll := cutAll_length n ds
    have hpk : (pickS (lensOf (Lex.sort (cutAll n ds))) s).length ≤ 1000 := by
      refine Nat.le_trans (List.length_filter_le _ _) ?_
      unfold lensOf
      rw [List.length_map]
      omega
    have ih := sz_l0 h m (s + 1) (x6 ++ pickS (lensOf (Lex.sort (cutAll n ds))) s) (by omega) (by omega) (by omega) (by rw [List.length_append]; omega)
    have h1 := sz_l1 (n := n) (ds := ds) (Lex.sort (cutAll n ds)) (by omega) (show 0 ≤ s by omega) (by omega) _ 0 x6 rfl (by omega) (by omega) ih
    refine Ev.succ (Ev.congr (Ev.val (Ev.bind (g := fun k t526 => spec_SizesOfCut.l1 k n ds x6 s t526 (t526.length : Int) 0) (cuPieces_eq h.cut h.lo h.hi (by omega)) h1) ?_) fun k => ?_)
    · rw [picks, List.append_assoc]
    · simp only [spec_SizesOfCut.l0]
      rw [if_pos (by omega)]
end
theorem cw_l0 (L : List Int) (hL : ∀ x ∈ L, 3 ≤ x ∧ x ≤ 12) (hl : L.length ≤ 1000) : ∀ m j o, L.length - j = m → j ≤ L.length → Ev (fun k => spec_CountWith.l0 k o L (L.length : Int) (j : Int)) ((L.drop j).foldl (fun o x => wrap64 (o * catV x)) o, true)
  | 0, j, o, hm, hj => by
    have e : j = L.length := by omega
    subst e
    refine Ev.succ (Ev.const fun k => ?_)
    simp only [spec_CountWith.l0]
    rw [if_neg (by omega), List.drop_length]
    rfl
  | m + 1, j, o, hm, hj => by
    have hlt : j < L.length := by omega
    have hx := hL _ (List.getElem_mem hlt)
    have ih := cw_l0 L hL hl m (j + 1) (wrap64 (o * catV L[j])) (by omega) (by omega)
    obtain ⟨K, hK⟩ := caCount_eq hx.1 hx.2
    replace hK : ∀ k, K ≤ k → spec_caCount.f k L[j] = some (catV L[j]) := hK
    refine Ev.succ ?_
    rw [List.drop_eq_getElem_cons hlt, List.foldl_cons]
    refine Ev.on K ih fun k hk => ?_
    simp only [spec_CountWith.l0]
    rw [if_pos (by omega), if_pos (by omega), if_pos (by omega), rd_get hlt, hK k hk, w64s (by omega)]
    rfl
theorem spec_CountWith_eq (n : Int) (ds : List Dia) (hl : ds.length ≤ 2000000) : Ev (fun k => spec_CountWith.f k n ds) (finer n ds) := by
  have hcg := cuGood_eq n ds hl
  unfold spec_CountWith.f spec_IsCut.f finer
  refine Ev.bind (g := fun k t534 => if t534 = true then ((spec_SizesOfCut.f k n ds).bind fun bt535 => spec_CountWith.l0 k 1 bt535.1 (bt535.1.length : Int) 0) else some (0, false)) (Ev.bind (g := fun _ t => some t) hcg (Ev.const fun _ => rfl)) ?_
  by_cases hg : goodB n ds = true
  · have h := goodB_good hg
    have h2 := h.lo
    have h3 := h.hi
    have hp := Lex.sort_perm (cutAll n ds)
    have hpl : (lensOf (Lex.sort (cutAll n ds))).Perm (lensOf (cutAll n ds)) := hp.map _
    have hr := lens_range h hpl
    have hn : ∀ r ∈ cutAll n ds, (r.length : Int) ≤ n := fun r hr => by
      obtain ⟨q, rfl⟩ := Int.eq_ofNat_of_zero_le (show 0 ≤ n by omega)
      have := cutAll_len q ds r hr
      omega
    have hpk : (picks (lensOf (Lex.sort (cutAll n ds))) 3 (n + 1 - 3).toNat).Perm (lensOf (cutAll n ds)) := (picks_perm fun x hx => by
      obtain ⟨r, hr', rfl⟩ := List.mem_map.1 (hpl.mem_iff.1 hx)
      have a1 := cut_lens h r hr'
      have a2 := hn r hr'
      omega).trans hpl
    have hr2 := lens_range h hpk
    have hs0 := sz_l0 h _ 3 [] rfl (by omega) (by omega) (by simp; omega)
    have hsz : Ev (fun k => spec_SizesOfCut.f k n ds) (picks (lensOf (Lex.sort (cutAll n ds))) 3 (n + 1 - 3).toNat, true) := by
      unfold spec_SizesOfCut.f
      refine Ev.bind (g := fun k t525 => if t525 = true then spec_SizesOfCut.l0 k n ds ([] : List Int) 3 else some (([] : List Int), false)) hcg ?_
      refine Ev.congr (Ev.val hs0 (by rw [List.nil_append])) fun k => by rw [if_pos hg]
    have h0 := cw_l0 _ hr2.1 hr2.2 _ 0 1 rfl (by omega)
    rw [List.drop_zero] at h0
    refine Ev.congr (g := fun k => (spec_SizesOfCut.f k n ds).bind fun bt535 => spec_CountWith.l0 k 1 bt535.1 (bt535.1.length : Int) 0) ?_ (fun k => by rw [if_pos hg])
    refine Ev.bind (g := fun k bt535 => spec_CountWith.l0 k 1 bt535.1 (bt535.1.length : Int) 0) hsz (Ev.val h0 ?_)
    rw [if_pos hg]
    exact congrArg (·, true) (Prod.prodW_perm (f := catV) hpk)
  · exact Ev.const fun k => by rw [if_neg hg, if_neg hg]
theorem impl_CountWith_eq (n : Int) (ds : List Dia) (hl : ds.length ≤ 2000000) : Ev (fun k => impl_CountWith.f k n ds) (finer n ds) := by
  unfold impl_CountWith.f
  exact Ev.bind (g := fun _ bt541 => some (bt541.1, bt541.2)) (impl_CountFiner_eq n ds hl) (Ev.const fun _ => rfl)
theorem FnExactCountWith_pure (n : Int) (l : List LDia) (hl : l.length ≤ 9223372036854775807) : ∃ k, laws_FnExactCountWith.f k n l = some true := by
  refine Ev.at ?_
  unfold laws_FnExactCountWith.f
  rw [sz_eq l hl]
  simp only [Option.bind_some]
  by_cases h : l.length ≤ 1048576
  · rw [if_pos h]
    have hm : (l.map toD).length ≤ 2000000 := by rw [List.length_map]; omega
    have ht := toS_eq l (by omega)
    refine Ev.congr (g := fun k => (laws_toDiagonalS.f k l).bind fun t506 => ((spec_CountWith.f k n t506).bind fun bt509 => ((laws_toDiagonalS.f k l).bind fun t511 => ((impl_CountWith.f k n t511).bind fun bt514 => (if bt514.1 = bt509.1 then (laws_FnExactCountWith.j0 k l t511 (bt514.2 != bt509.2)) else (laws_FnExactCountWith.j0 k l t511 true)))))) ?_ (fun k => by rw [if_neg (by omega)])
    refine Ev.bind (g := fun k t506 => ((spec_CountWith.f k n t506).bind fun bt509 => ((laws_toDiagonalS.f k l).bind fun t511 => ((impl_CountWith.f k n t511).bind fun bt514 => (if bt514.1 = bt509.1 then (laws_FnExactCountWith.j0 k l t511 (bt514.2 != bt509.2)) else (laws_FnExactCountWith.j0 k l t511 true)))))) ht ?_
    refine Ev.bind (g := fun k bt509 => ((laws_toDiagonalS.f k l).bind fun t511 => ((impl_CountWith.f k n t511).bind fun bt514 => (if bt514.1 = bt509.1 then (laws_FnExactCountWith.j0 k l t511 (bt514.2 != bt509.2)) else (laws_FnExactCountWith.j0 k l t511 true))))) (spec_CountWith_eq n (l.map toD) hm) ?_
    refine Ev.bind (g := fun k t511 => ((impl_CountWith.f k n t511).bind fun bt514 => (if bt514.1 = (finer n (l.map toD)).1 then (laws_FnExactCountWith.j0 k l t511 (bt514.2 != (finer n (l.map toD)).2)) else (laws_FnExactCountWith.j0 k l t511 true)))) ht ?_
    refine Ev.bind (g := fun k bt514 => (if bt514.1 = (finer n (l.map toD)).1 then (laws_FnExactCountWith.j0 k l (l.map toD) (bt514.2 != (finer n (l.map toD)).2)) else (laws_FnExactCountWith.j0 k l (l.map toD) true))) (impl_CountWith_eq n (l.map toD) hm) ?_
    refine Ev.succ ?_
    have hj : Ev (fun k => (laws_toDiagonalS.f k l).bind fun t487 => ((laws_eqDiagonalS.f k (l.map toD) t487).bind fun t490 => (if t490 = true then some true else some false))) true := by
      refine Ev.bind (g := fun k t487 => ((laws_eqDiagonalS.f k (l.map toD) t487).bind fun t490 => (if t490 = true then some true else some false))) ht ?_
      refine Ev.bind (g := fun k t490 => (if t490 = true then some true else some false)) (eqS_eq (l.map toD) hm) ?_
      exact Ev.const fun k => rfl
    refine Ev.congr hj fun k => ?_
    rw [if_pos rfl, bne_self_eq_false]
    simp only [laws_FnExactCountWith.j0]
    rw [if_neg Bool.false_ne_true]
  · rw [if_neg h]
    exact Ev.const fun k => by rw [if_pos (by omega)]
end Go.Proofs.Ytggocekjhohhcaa.P

/- The row of FnExactCountWith. -/
namespace Go.Proofs.Ytggocekjhohhcaa.fnExactCountWith
open Go.ChangeShapes Go.WideShapes Go.ChangeAt Go.RowKit
open Go.ChangeMaps (open_string shut_string)
set_option linter.unusedVariables false
theorem own : ownKnob Try.prog.godebug = none := by kernel_rfl
theorem laidOut : laidOutB Try.prog = true := by kernel_rfl
set_option maxRecDepth 100000 in
theorem lifted (os : Os) (started : os.Started) (H : Type) (enc : TypeId × Value → H) :
    ReturnsInHanded {} Try.checked os 9 .any (Rows.fnExactCountWithSpec.pre6 enc Try.prog Try.f9 Rows.fnExactCountWithRow.domain false) (Rows.fnExactCountWithSpec.post enc Try.prog Try.f9 false true false false) := by
  refine returnsInHanded_of_change_sized (C := Try.checked) own started (by kernel_rfl) Try.func9
    (ChangeSpec.witness6 (enc := enc) (C := Try.checked) false ⟨#[], #[.int .i64 0, .slice none 0 0], []⟩ 8 (by kernel_rfl) (by kernel_rfl) (by kernel_rfl) (by kernel_rfl)) ?_
  intro W base args ds gs before hval0 hW hcnd hsz0 _
  have hval : ∀ (j : Nat) t v, Try.f9.params[j]? = some t → args[j]? = some v → Value.okWide Try.prog W .any base t v := hval0
  have hW' := hW
  obtain ⟨p, q, hA0, hV, rfl, hfz, hnd⟩ := hW
  have hA : DataW.TrodAll enc Try.prog W 0 (fun _ => true) true Try.f9.params.toList args.toList ds p := hA0
  rw [Try.params9] at hA hval
  obtain ⟨v0, vs0, d0, ds0, p0, q0, hargs, rfl, rfl, h0, r0⟩ := trodAll_cons hA
  obtain ⟨v1, vs1, d1, ds1, p1, q1, rfl, rfl, rfl, h1, r1⟩ := trodAll_cons r0
  obtain ⟨rfl, rfl, rfl⟩ := trodAll_nil r1
  obtain rfl : args = #[v0, v1] := by cases args; simp_all
  obtain ⟨rfl, rfl⟩ := trodVars_none hV
  obtain ⟨a0, rfl, rfl, rfl, w0⟩ := open_int Try.underlying3 (hval 0 3 v0 rfl rfl) h0
  obtain ⟨a1, len1, cap1, rfl⟩ := okWide_slice Try.underlying22 (hval 1 22 v1 rfl rfl)
  have k1 := h1
  have lt1 : ∀ x ∈ p1, x.block < W.heap.size := by obtain ⟨m, hm⟩ := k1; exact DataW.trod_lt m _ _ _ hm
  obtain ⟨l1, hC1, hl1, hc1, hm1⟩ : ∃ l : List P.LDia, Go.Proofs.YtggocekjhohhcaaW.PrintWords.Kd.C P.k61 W a1 l.length l ∧ l.length = len1 ∧ l.length ≤ cap1 ∧ l.length ≤ 9223372036854775807 := by
    obtain ⟨fuel, hf⟩ := h1
    exact P.open_dias (by simpa [Value.cells] using hf)
  subst hl1
  clear hA0 hval0 hsz0
  obtain ⟨k, hk⟩ := P.FnExactCountWith_pure a0 l1 hm1
  refine (P.laws_FnExactCountWith.calls k a0 a1 cap1 l1 true W hC1 hc1 rfl hk).mono fun e W' ⟨he, bel⟩ => ?_
  subst he
  exact ⟨_, rfl, _, _, _, [], _, [], hW', trodAll_mk1 (shut_bool Try.underlying4 _), (trodAll_cons_mk (shut_int Try.underlying3 w0) (trodAll_cons_mk (Below.trod laidOut (by kernel_rfl) (of_decide_eq_true (by kernel_rfl)) k1 bel lt1) trodAll_mk0)), rfl, bel.frame _, fun h => by cases h⟩
theorem over : Rows.fnExactCountWithRow.holds Try.pinned (OpenSpec.ofChange Rows.fnExactCountWithSpec) :=
  OpenClaim.holds_of_wide 9 Try.f9 rfl rfl rfl rfl rfl rfl rfl ⟨rfl, rfl, rfl, rfl, rfl⟩ rfl rfl rfl rfl rfl (by kernel_rfl) Try.func9 (by kernel_rfl)
    (of_decide_eq_true (by kernel_rfl)) (by unfold Func.isWrapper; first | (rw [if_pos (by decide +kernel)]; kernel_rfl) | (rw [if_neg (by decide +kernel)]; exact ⟨rfl, rfl⟩))
    (fun os started H enc _ => lifted os started H enc)
theorem proved : Rows.FnExactCountWithSaid := over
#print axioms proved
end Go.Proofs.Ytggocekjhohhcaa.fnExactCountWith
namespace Go.Proofs.Ytggocekjhohhcaa
/-- The row, under a short name, for the claim. -/
theorem fnExactCountWith_holds : Rows.FnExactCountWithSaid := fnExactCountWith.proved
end Go.Proofs.Ytggocekjhohhcaa


