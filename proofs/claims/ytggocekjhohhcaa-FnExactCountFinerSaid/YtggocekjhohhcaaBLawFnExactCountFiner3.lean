/- Proof of FnExactCountFinerSaid, part 4 of 4: the texts Pf32, Pf7, PureFnExactCountFiner, LawFnExactCountFiner, joined by a program of this session. -/
import Derived.Test.YtggocekjhohhcaaBLawFnExactCountFiner1
import Derived.Test.YtggocekjhohhcaaBLawFnExactCountFiner2
import Derived.Test.YtggocekjhohhcaaRows
import Derived.WalkKit
import Derived.ProofKit
import Derived.OpenShut
import Derived.ShutString
import Derived.ChangeOld
import Derived.Below
import Derived.SizedLaws
-- By a program of this session.
namespace Go.Proofs.Ytggocekjhohhcaa.P
open Go.RowKit Go.Proofs.YtggocekjhohhcaaW.PrintWords Go.Proofs.YtggocekjhohhcaaW.PrintLast Go.Proofs.YtggocekjhohhcaaW.PrintMore
attribute [local go_sem] max2_int min2_int max_two min_two max_three min_three max_four min_four
set_option linter.unusedVariables false
set_option linter.unusedSimpArgs false

/-! ### spec_CountFiner: function 32 -/
def spec_CountFiner.l0 : Nat → Int → List (List Int) → Int → Int → Option (Int × Bool)
 | 0, _, _, _, _ => none
 | k + 1, x6, x16, x17, x18 => if x18 < x17 then (if 0 ≤ x18 then (if x18 < (x16.length : Int) then ((spec_cuChoose.f k (wrap64 (2 * (wrap64 (((rd_L3 x16 x18).length : Int) - 2)))) (wrap64 (((rd_L3 x16 x18).length : Int) - 2))).bind fun t496 => (if (wrap64 ((wrap64 (((rd_L3 x16 x18).length : Int) - 2)) + 1)) = 0 then (none) else (spec_CountFiner.l0 k (wrap64 (x6 * (wrap64 (Int.tdiv t496 (wrap64 ((wrap64 (((rd_L3 x16 x18).length : Int) - 2)) + 1)))))) x16 x17 (wrap64 (x18 + 1))))) else (none)) else (none)) else (some (x6, true))
def spec_CountFiner.f (k : Nat) (a0 : Int) (l1 : List (S59)) : Option (Int × Bool) := (spec_cuGood.f k a0 l1).bind fun t491 => (if t491 = true then ((spec_cuPieces.f k a0 l1).bind fun t492 => (spec_CountFiner.l0 k 1 t492 (t492.length : Int) 0)) else (some (0, false)))
theorem spec_CountFiner.mono_l : ∀ k, (∀ y0 y1 y2 y3, LeO (spec_CountFiner.l0 k y0 y1 y2 y3) (spec_CountFiner.l0 (k + 1) y0 y1 y2 y3))
 | 0 => fun _ _ _ _ r h => by simp [spec_CountFiner.l0] at h
 | k + 1 => by
  have ih0 := spec_CountFiner.mono_l k
  ·intro y0 y1 y2 y3
   unfold spec_CountFiner.l0
   repeat' first
   | (with_reducible exact ih0 _ _ _ _)
   | (with_reducible exact spec_cuChoose.mono _ _ _)
   | (with_reducible exact spec_cuGood.mono _ _ _)
   | (with_reducible exact spec_cuPieces.mono _ _ _)
   | (with_reducible exact LeO.refl _)
   | (with_reducible exact LeO.none _)
   | (with_reducible refine LeO.ite ?_ ?_)
   | (with_reducible refine LeO.bind ?_ (fun _ => ?_))
   | apply ih0
   | apply spec_cuChoose.mono
   | apply spec_cuGood.mono
   | apply spec_cuPieces.mono
   | apply LeO.none
   | refine LeO.ite ?_ ?_
   | refine LeO.bind ?_ (fun _ => ?_)
theorem spec_CountFiner.mono : ∀ a0 a1 k, LeO (spec_CountFiner.f k a0 a1) (spec_CountFiner.f (k + 1) a0 a1) := by
 intro a0 a1 k
 have ih0 := spec_CountFiner.mono_l k
 unfold spec_CountFiner.f
 repeat' first
   | (with_reducible exact ih0 _ _ _ _)
   | (with_reducible exact spec_cuChoose.mono _ _ _)
   | (with_reducible exact spec_cuGood.mono _ _ _)
   | (with_reducible exact spec_cuPieces.mono _ _ _)
   | (with_reducible exact LeO.refl _)
   | (with_reducible exact LeO.none _)
   | (with_reducible refine LeO.ite ?_ ?_)
   | (with_reducible refine LeO.bind ?_ (fun _ => ?_))
   | apply ih0
   | apply spec_cuChoose.mono
   | apply spec_cuGood.mono
   | apply spec_cuPieces.mono
   | apply LeO.none
   | refine LeO.ite ?_ ?_
   | refine LeO.bind ?_ (fun _ => ?_)
set_option maxHeartbeats 8000000 in
set_option maxRecDepth 100000 in
theorem spec_CountFiner.calls (k : Nat) (a0 : Int) (A1 : Option Addr) (c1 : Nat) (l1 : List (S59)) (r1 : Int) (r2 : Bool) (w : World) (hr1 : Kd.C k59 w A1 l1.length l1) (hc1 : l1.length ≤ c1) (h : spec_CountFiner.f k a0 l1 = some (r1, r2)) :
  Calls Try.prog 32 #[.int .i64 a0, .slice A1 l1.length c1] w fun e w' => e = .returned (.tuple #[.int .i64 r1, .bool r2]) ∧ Below w.heap.size w w' := by
 have HR1 := Aside0.mk hr1
 have HC1 := Aside0.mk hc1
 clear hr1 hc1
 have HB := Aside0.mk (Below.refl w.heap.size w)
 have H := h
 clear h
 unfold spec_CountFiner.f at H
 replace H := Option.bind_eq_some_iff.mp H
 obtain ⟨t491, A30, H⟩ := H
 have A3 := Aside0.mk A30
 clear A30
 by_cases c4 : t491 = true
 ·subst c4
  rw [if_pos rfl] at H
  replace H := Option.bind_eq_some_iff.mp H
  obtain ⟨t492, A50, H⟩ := H
  have A5 := Aside0.mk A50
  clear A50
  have H' := Aside0.mk H
  clear H
  go_enter Try.func32, Try.ntmps32
  go_wp2_with (first | ((with_reducible refine gate_callee (f := 39) rfl ?_); refine gof_ (some 12) Try.func39 #[.int .i64 a0, .slice A1 l1.length c1] ?_; (with_reducible refine (spec_cuGood.calls k a0 _ _ l1 true _ ?side1 ?side2 A3.out).mono ?_); (case side1 => repeat (first | exact HR1.out | (with_reducible refine Kd.C_alloc ?_ _) | (with_reducible refine Kd.C_drewN ?_ _) | (with_reducible refine Kd.C_drew ?_))); (case side2 => exact HC1.out); rintro e w6 ⟨rfl, hb⟩; refine ⟨_, rfl, ?_⟩; replace HB := hh HB hb; clear hb) | ((with_reducible refine gate_callee (f := 40) rfl ?_); refine gof_ (some 16) Try.func40 #[.int .i64 a0, .slice A1 l1.length c1] ?_; (with_reducible refine (spec_cuPieces.calls k a0 _ _ l1 t492 _ ?side1 ?side2 A5.out).mono ?_); (case side1 => repeat (first | exact (Kd.C_below HR1.out HB.out) | (with_reducible refine Kd.C_alloc ?_ _) | (with_reducible refine Kd.C_drewN ?_ _) | (with_reducible refine Kd.C_drew ?_))); (case side2 => exact HC1.out); rintro e w7 ⟨v493, rfl, ho0, hb⟩; refine ⟨_, rfl, ?_⟩; have HO494 := Aside0.mk (Kd.S_lower ho0 (below_size (hk HB))); replace HB := hh HB hb; (try clear hb); (try clear hb2); (try clear hk); (try clear hi); (try clear ho0); obtain ⟨Ao8, co8, eo8⟩ := Kd.S_slice HO494.out; subst eo8))
  go_loopg [6, 18] k (fun kq v6 v18 w' => ∃ (x6_1 : Int) (x18_1 : Int), v6 = .int .i64 x6_1 ∧ v18 = .int .i64 x18_1 ∧ Aside0 (spec_CountFiner.l0 kq x6_1 t492 (t492.length : Int) x18_1 = some (r1, r2)) ∧ Aside0 (kq ≤ k) ∧ Aside0 (Kd.S (Kd.slice 3 (Kd.int .i64)) 34 w' w.heap.size (fun _ => True) (.slice Ao8 t492.length co8) t492) ∧ Aside0 (Below w.heap.size w w'))
  case atStart => exact ⟨(1), (0), (by first | rfl | (simp; done) | (simp [*]; done)), (by first | rfl | (simp; done) | (simp [*]; done)), H', ⟨Nat.le_refl _⟩, ⟨by (with_reducible repeat (first | apply Kd.S_alloc | apply Kd.S_drewN | apply Kd.S_drew)); exact HO494.out⟩, ⟨by repeat (first | (with_reducible first | exact HB.out | apply below_alloc | apply pw_below_drewN | apply below_drew1) | exact HB.out)⟩⟩
  case round =>
   clear H'
   (try clear c1);(try clear c4)
   obtain ⟨x6_1, x18_1, rfl, rfl, HA, HK1, HO_16, HB⟩ := hrel
   cases gk with
   | zero => exact absurd HA.out (by simp [spec_CountFiner.l0])
   | succ k1 =>
    have H := HA.out
    clear HA
    simp only [spec_CountFiner.l0] at H
    by_cases c9 : x18_1 < (t492.length : Int)
    ·rw [if_pos c9] at H
     have c9b0 : decide (x18_1 < (t492.length : Int)) = true := decide_eq_true c9
     clear c9
     by_cases c10 : 0 ≤ x18_1
     ·rw [if_pos c10] at H
      have c10b0 : decide (0 ≤ x18_1) = true := decide_eq_true c10
      clear c10
      by_cases c11 : x18_1 < (t492.length : Int)
      ·rw [if_pos c11] at H
       have c11b0 : decide (x18_1 < (t492.length : Int)) = true := decide_eq_true c11
       clear c11
       replace H := Option.bind_eq_some_iff.mp H
       obtain ⟨t496, A120, H⟩ := H
       have A12 := Aside0.mk A120
       clear A120
       by_cases c13 : (wrap64 ((wrap64 (((rd_L3 t492 x18_1).length : Int) - 2)) + 1)) = 0
       ·rw [if_pos c13] at H
        exact absurd H (by simp)
       ·rw [if_neg c13] at H
        have c13b0 : ((wrap64 ((wrap64 (((rd_L3 t492 x18_1).length : Int) - 2)) + 1)) == 0) = false := beq_eq_false_iff_ne.mpr c13
        have c13b1 : ((wrap64 ((wrap64 (((rd_L3 t492 x18_1).length : Int) - 2)) + 1)) != 0) = true := bne_iff_ne.mpr c13
        have H' := Aside0.mk H
        clear H
        have p495 : 0 ≤ (x18_1 : Int) := of_decide_eq_true (by first | (with_reducible assumption) | assumption)
        have q495 : x18_1 < (t492.length : Int) := of_decide_eq_true (by first | (with_reducible assumption) | assumption)
        obtain ⟨ad495, A495_0, c495_0, e495, hx495_0, hl495_0, hi495_0⟩ := at_L3 (Kd.S_reads' HO_16.out).2.2 x18_1 p495 q495
        cases e495
        obtain ⟨ce495, hce495, hMe495, hcc495⟩ := Kd.S_get HO_16.out [] x18_1 p495 (by first | exact q495 | exact of_decide_eq_true (by first | (with_reducible assumption) | assumption) | (have e_ := (Kd.S_reads' HO_16.out).1; omega))
        obtain ⟨ve495_0, rfl, ge495_0⟩ := hMe495
        have hv495_0 := hcc495 0 _ rfl
        rw [Nat.add_zero, show ((Kd.slice 3 (Kd.int .i64))).sz = 1 from rfl, Nat.mul_one] at hv495_0
        replace hv495_0 := Option.some.inj (hv495_0.symm.trans hx495_0)
        rw [hv495_0] at ge495_0
        have HL495_0 := Aside0.mk (show Kd.R (Kd.int .i64) 3 _ _ _ _ (rd_L3 t492 x18_1) from ge495_0)
        clear hv495_0 ge495_0
        clear hcc495 hce495
        have HR495_0 := Aside0.mk hi495_0
        have HC495_0 := Aside0.mk hl495_0
        clear hi495_0 hl495_0
        replace p495 := eq_true p495
        replace q495 := eq_true q495
        go_wp2_with (first | ((with_reducible refine gate_callee (f := 54) rfl ?_); refine gof_ (some 29) Try.func54 #[.int .i64 (wrap64 (2 * (wrap64 (((rd_L3 t492 x18_1).length : Int) - 2)))), .int .i64 (wrap64 (((rd_L3 t492 x18_1).length : Int) - 2))] ?_; (with_reducible refine (spec_cuChoose.calls k1 (wrap64 (2 * (wrap64 (((rd_L3 t492 x18_1).length : Int) - 2)))) (wrap64 (((rd_L3 t492 x18_1).length : Int) - 2)) t496 _ A12.out).mono ?_); rintro e w' ⟨rfl, ⟨nd, rfl⟩⟩; refine ⟨_, rfl, ?_⟩))
        go_roundg k1
        case measure => have := HK1.out; omega
        case rel => exact ⟨(wrap64 (x6_1 * (wrap64 (Int.tdiv t496 (wrap64 ((wrap64 (((rd_L3 t492 x18_1).length : Int) - 2)) + 1)))))), (wrap64 (x18_1 + 1)), (by first | rfl | (simp; done) | (simp [*]; done)), (by first | rfl | (simp; done) | (simp [*]; done)), H', ⟨by have := HK1.out; omega⟩, ⟨by (with_reducible repeat (first | apply Kd.S_alloc | apply Kd.S_drewN | apply Kd.S_drew)); exact HO_16.out⟩, ⟨by repeat (first | (with_reducible first | exact HB.out | apply below_alloc | apply pw_below_drewN | apply below_drew1) | exact HB.out)⟩⟩
      ·rw [if_neg c11] at H
       exact absurd H (by simp)
     ·rw [if_neg c10] at H
      exact absurd H (by simp)
    ·rw [if_neg c9] at H
     have c9b0 : decide (x18_1 < (t492.length : Int)) = false := decide_eq_false c9
     clear c9
     simp only [Option.some.injEq, Prod.mk.injEq] at H
     obtain ⟨rfl, rfl⟩ := H
     go_wp2
     go_ret2
     exact ⟨eqr, hk HB⟩
 ·replace c4 := Bool.eq_false_iff.mpr c4
  subst c4
  rw [if_neg (show ¬ (false = true) by decide)] at H
  simp only [Option.some.injEq, Prod.mk.injEq] at H
  obtain ⟨rfl, rfl⟩ := H
  go_enter Try.func32, Try.ntmps32
  go_wp2_with (first | ((with_reducible refine gate_callee (f := 39) rfl ?_); refine gof_ (some 12) Try.func39 #[.int .i64 a0, .slice A1 l1.length c1] ?_; (with_reducible refine (spec_cuGood.calls k a0 _ _ l1 false _ ?side1 ?side2 A3.out).mono ?_); (case side1 => repeat (first | exact HR1.out | (with_reducible refine Kd.C_alloc ?_ _) | (with_reducible refine Kd.C_drewN ?_ _) | (with_reducible refine Kd.C_drew ?_))); (case side2 => exact HC1.out); rintro e w14 ⟨rfl, hb⟩; refine ⟨_, rfl, ?_⟩; replace HB := hh HB hb; clear hb))
  go_ret2
  exact ⟨eqr, hk HB⟩

end Go.Proofs.Ytggocekjhohhcaa.P

-- By a program of this session.
namespace Go.Proofs.Ytggocekjhohhcaa.P
open Go.RowKit Go.Proofs.YtggocekjhohhcaaW.PrintWords Go.Proofs.YtggocekjhohhcaaW.PrintLast Go.Proofs.YtggocekjhohhcaaW.PrintMore
attribute [local go_sem] max2_int min2_int max_two min_two max_three min_three max_four min_four
set_option linter.unusedVariables false
set_option linter.unusedSimpArgs false

/-! ### laws_FnExactCountFiner: function 7 -/
def laws_FnExactCountFiner.j0 : Nat → List (S61) → List (S59) → Bool → Option (Bool)
 | 0, _, _, _ => none
 | k + 1, x1, x8, x38 => if x38 = true then (some false) else ((laws_toDiagonalS.f k x1).bind fun t516 => ((laws_eqDiagonalS.f k x8 t516).bind fun t519 => (if t519 = true then (some true) else (some false))))
def laws_FnExactCountFiner.f (k : Nat) (a0 : Int) (l1 : List (S61)) : Option (Bool) := (laws_szDiagonalS.f l1 1048576).bind fun t505 => (if t505 < 0 then (some true) else ((laws_toDiagonalS.f k l1).bind fun t506 => ((spec_CountFiner.f k a0 t506).bind fun bt509 => ((laws_toDiagonalS.f k l1).bind fun t511 => ((impl_CountFiner.f k a0 t511).bind fun bt514 => (if bt514.1 = bt509.1 then (laws_FnExactCountFiner.j0 k l1 t511 (bt514.2 != bt509.2)) else (laws_FnExactCountFiner.j0 k l1 t511 true)))))))
theorem laws_FnExactCountFiner.mono_l : ∀ k, (∀ y0 y1 y2, LeO (laws_FnExactCountFiner.j0 k y0 y1 y2) (laws_FnExactCountFiner.j0 (k + 1) y0 y1 y2))
 | 0 => fun _ _ _ r h => by simp [laws_FnExactCountFiner.j0] at h
 | k + 1 => by
  have ih0 := laws_FnExactCountFiner.mono_l k
  ·intro y0 y1 y2
   unfold laws_FnExactCountFiner.j0
   repeat' first
   | (with_reducible exact ih0 _ _ _)
   | (with_reducible exact impl_CountFiner.mono _ _ _)
   | (with_reducible exact laws_eqDiagonalS.mono _ _ _)
   | (with_reducible exact laws_toDiagonalS.mono _ _)
   | (with_reducible exact spec_CountFiner.mono _ _ _)
   | (with_reducible exact LeO.refl _)
   | (with_reducible exact LeO.none _)
   | (with_reducible refine LeO.ite ?_ ?_)
   | (with_reducible refine LeO.bind ?_ (fun _ => ?_))
   | apply ih0
   | apply impl_CountFiner.mono
   | apply laws_eqDiagonalS.mono
   | apply laws_toDiagonalS.mono
   | apply spec_CountFiner.mono
   | apply LeO.none
   | refine LeO.ite ?_ ?_
   | refine LeO.bind ?_ (fun _ => ?_)
theorem laws_FnExactCountFiner.mono : ∀ a0 a1 k, LeO (laws_FnExactCountFiner.f k a0 a1) (laws_FnExactCountFiner.f (k + 1) a0 a1) := by
 intro a0 a1 k
 have ih0 := laws_FnExactCountFiner.mono_l k
 unfold laws_FnExactCountFiner.f
 repeat' first
   | (with_reducible exact ih0 _ _ _)
   | (with_reducible exact impl_CountFiner.mono _ _ _)
   | (with_reducible exact laws_eqDiagonalS.mono _ _ _)
   | (with_reducible exact laws_toDiagonalS.mono _ _)
   | (with_reducible exact spec_CountFiner.mono _ _ _)
   | (with_reducible exact LeO.refl _)
   | (with_reducible exact LeO.none _)
   | (with_reducible refine LeO.ite ?_ ?_)
   | (with_reducible refine LeO.bind ?_ (fun _ => ?_))
   | apply ih0
   | apply impl_CountFiner.mono
   | apply laws_eqDiagonalS.mono
   | apply laws_toDiagonalS.mono
   | apply spec_CountFiner.mono
   | apply LeO.none
   | refine LeO.ite ?_ ?_
   | refine LeO.bind ?_ (fun _ => ?_)
theorem laws_FnExactCountFiner.j0.dead : ∀ {k : Nat} {x1 : List (S61)} {x8 : List (S59)} {r : Bool}, laws_FnExactCountFiner.j0 k x1 x8 true = some r → r = false := by
 intro k x1 x8 r h
 cases k with
 | zero => cases h
 | succ k => exact (Option.some.inj (show some false = some r from h)).symm
set_option maxHeartbeats 8000000 in
set_option maxRecDepth 100000 in
theorem laws_FnExactCountFiner.calls (k : Nat) (a0 : Int) (A1 : Option Addr) (c1 : Nat) (l1 : List (S61)) (r : Bool) (w : World) (hr1 : Kd.C k61 w A1 l1.length l1) (hc1 : l1.length ≤ c1) (hrt : r = true) (h : laws_FnExactCountFiner.f k a0 l1 = some r) :
  Calls Try.prog 7 #[.int .i64 a0, .slice A1 l1.length c1] w fun e w' => e = .returned (.bool r) ∧ Below w.heap.size w w' := by
 have HR1 := Aside0.mk hr1
 have HC1 := Aside0.mk hc1
 clear hr1 hc1
 have HB := Aside0.mk (Below.refl w.heap.size w)
 have H := h
 clear h
 unfold laws_FnExactCountFiner.f at H
 replace H := Option.bind_eq_some_iff.mp H
 obtain ⟨t505, A30, H⟩ := H
 have A3 := Aside0.mk A30
 clear A30
 by_cases c4 : t505 < 0
 ·rw [if_pos c4] at H
  have c4b0 : decide (t505 < 0) = true := decide_eq_true c4
  clear c4
  as_aux_lemma =>
   obtain rfl := Option.some.inj H
   clear hrt
   go_enter Try.func7, Try.ntmps7
   go_wp2_with (first | ((with_reducible refine gate_callee (f := 10) rfl ?_); refine gof_ (some 13) Try.func10 #[.slice A1 l1.length c1, .int .i64 1048576] ?_; (with_reducible refine (laws_szDiagonalS.calls _ _ l1 1048576 t505 _ ?side1 ?side2 A3.out).mono ?_); (case side1 => repeat (first | exact HR1.out | (with_reducible refine Kd.C_alloc ?_ _) | (with_reducible refine Kd.C_drewN ?_ _) | (with_reducible refine Kd.C_drew ?_))); (case side2 => exact HC1.out); rintro e w' ⟨rfl, ⟨nd, rfl⟩⟩; refine ⟨_, rfl, ?_⟩))
   go_ret
   exact ⟨eqr, hk HB⟩
 ·rw [if_neg c4] at H
  have c4b0 : decide (t505 < 0) = false := decide_eq_false c4
  clear c4
  replace H := Option.bind_eq_some_iff.mp H
  obtain ⟨t506, A50, H⟩ := H
  have A5 := Aside0.mk A50
  clear A50
  replace H := Option.bind_eq_some_iff.mp H
  obtain ⟨⟨t509, t510⟩, A60, H⟩ := H
  try dsimp only at H
  have A6 := Aside0.mk A60
  clear A60
  replace H := Option.bind_eq_some_iff.mp H
  obtain ⟨t511, A70, H⟩ := H
  have A7 := Aside0.mk A70
  clear A70
  replace H := Option.bind_eq_some_iff.mp H
  obtain ⟨⟨t514, t515⟩, A80, H⟩ := H
  try dsimp only at H
  have A8 := Aside0.mk A80
  clear A80
  have HC9 := Aside0.mk H
  clear H
  go_enter Try.func7, Try.ntmps7
  go_upto_region 8 with (first | ((with_reducible refine gate_callee (f := 10) rfl ?_); refine gof_ (some 13) Try.func10 #[.slice A1 l1.length c1, .int .i64 1048576] ?_; (with_reducible refine (laws_szDiagonalS.calls _ _ l1 1048576 t505 _ ?side1 ?side2 A3.out).mono ?_); (case side1 => repeat (first | exact HR1.out | (with_reducible refine Kd.C_alloc ?_ _) | (with_reducible refine Kd.C_drewN ?_ _) | (with_reducible refine Kd.C_drew ?_))); (case side2 => exact HC1.out); rintro e w' ⟨rfl, ⟨nd, rfl⟩⟩; refine ⟨_, rfl, ?_⟩) | ((with_reducible refine gate_callee (f := 12) rfl ?_); refine gof_ (some 19) Try.func12 #[.slice A1 l1.length c1] ?_; (with_reducible refine (laws_toDiagonalS.calls k _ _ l1 t506 _ ?side1 ?side2 A5.out).mono ?_); (case side1 => repeat (first | exact HR1.out | (with_reducible refine Kd.C_alloc ?_ _) | (with_reducible refine Kd.C_drewN ?_ _) | (with_reducible refine Kd.C_drew ?_))); (case side2 => exact HC1.out); rintro e w10 ⟨v507, rfl, ho0, hb⟩; refine ⟨_, rfl, ?_⟩; have HO508 := Aside0.mk (Kd.R_lower ho0 (below_size (hk HB))); replace HB := hh HB hb; (try clear hb); (try clear hb2); (try clear hk); (try clear hi); (try clear ho0); obtain ⟨Ao11, co11, eo11⟩ := Kd.R_slice HO508.out; subst eo11) | ((with_reducible refine gate_callee (f := 32) rfl ?_); refine gof_ (some 20) Try.func32 #[.int .i64 a0, .slice Ao11 t506.length co11] ?_; (with_reducible refine (spec_CountFiner.calls k a0 _ _ t506 t509 t510 _ ?side1 ?side2 A6.out).mono ?_); (case side1 => repeat (first | exact (Kd.R_reads' HO508.out).2.2 | (with_reducible refine Kd.C_alloc ?_ _) | (with_reducible refine Kd.C_drewN ?_ _) | (with_reducible refine Kd.C_drew ?_))); (case side2 => exact (Kd.R_reads' HO508.out).2.1); rintro e w12 ⟨rfl, hb⟩; refine ⟨_, rfl, ?_⟩; replace HO508 := Aside0.mk (Kd.R_below (by (with_reducible repeat (first | apply Kd.R_alloc | apply Kd.R_drewN | apply Kd.R_drew)); exact HO508.out) hb); replace HB := hh HB hb; clear hb) | ((with_reducible refine gate_callee (f := 12) rfl ?_); refine gof_ (some 24) Try.func12 #[.slice A1 l1.length c1] ?_; (with_reducible refine (laws_toDiagonalS.calls k _ _ l1 t511 _ ?side1 ?side2 A7.out).mono ?_); (case side1 => repeat (first | exact (Kd.C_below HR1.out HB.out) | (with_reducible refine Kd.C_alloc ?_ _) | (with_reducible refine Kd.C_drewN ?_ _) | (with_reducible refine Kd.C_drew ?_))); (case side2 => exact HC1.out); rintro e w13 ⟨v512, rfl, ho0, hb⟩; refine ⟨_, rfl, ?_⟩; have HO513 := Aside0.mk (Kd.R_lower (Kd.R_new' ho0 (Kd.R_lt (by (with_reducible repeat (first | apply Kd.R_alloc | apply Kd.R_drewN | apply Kd.R_drew)); exact HO508.out))) (below_size (hk HB))); replace HO508 := Aside0.mk (Kd.R_elder' (by (with_reducible repeat (first | apply Kd.R_alloc | apply Kd.R_drewN | apply Kd.R_drew)); exact HO508.out) (Kd.R_base ho0) hb); replace HB := hh HB hb; (try clear hb); (try clear hb2); (try clear hk); (try clear hi); (try clear ho0); obtain ⟨Ao14, co14, eo14⟩ := Kd.R_slice HO513.out; subst eo14) | ((with_reducible refine gate_callee (f := 33) rfl ?_); refine gof_ (some 28) Try.func33 #[.int .i64 a0, .slice Ao14 t511.length co14] ?_; (with_reducible refine (impl_CountFiner.calls k a0 _ _ t511 t514 t515 _ ?side1 ?side2 A8.out).mono ?_); (case side1 => repeat (first | exact (Kd.R_reads' HO513.out).2.2 | (with_reducible refine Kd.C_alloc ?_ _) | (with_reducible refine Kd.C_drewN ?_ _) | (with_reducible refine Kd.C_drew ?_))); (case side2 => exact (Kd.R_reads' HO513.out).2.1); rintro e w15 ⟨rfl, hb⟩; refine ⟨_, rfl, ?_⟩; replace HO508 := Aside0.mk (Kd.R_below (by (with_reducible repeat (first | apply Kd.R_alloc | apply Kd.R_drewN | apply Kd.R_drew)); exact HO508.out) hb); replace HO513 := Aside0.mk (Kd.R_below (by (with_reducible repeat (first | apply Kd.R_alloc | apply Kd.R_drewN | apply Kd.R_drew)); exact HO513.out) hb); replace HB := hh HB hb; clear hb))
  (try simp only [Act.put, List.setIfInBounds_toArray, List.set_cons_zero, List.set_cons_succ])
  go_cut [38] (fun v38 wc => ∃ (kq : Nat) (x38_8 : Bool), v38 = .bool x38_8 ∧ Aside0 (laws_FnExactCountFiner.j0 kq l1 t511 x38_8 = some r) ∧ Aside0 (kq ≤ k) ∧ Aside0 (Kd.R k59 59 wc w.heap.size (fun _ => True) (.slice Ao14 t511.length co14) t511) ∧ Aside0 (Below w.heap.size w wc))
  case first =>
   have H := HC9.out
   clear HC9
   by_cases c16 : t514 = t509
   ·rw [if_pos c16] at H
    have c16b0 : (t514 == t509) = true := beq_iff_eq.mpr c16
    have c16b1 : (t514 != t509) = false := bne_eq_false_iff_eq.mpr c16
    clear c16
    (first | rw [c16b0] | (simp only [i64_w, i32_w]; rw [c16b0]) | skip)
    as_aux_lemma =>
     have H' := Aside0.mk H
     clear H
     go_wp2
     go_meet
     case rel => exact ⟨_, ((t515 != t510)), (by first | rfl | (simp; done) | (simp [*]; done)), H', ⟨by first | omega | exact Nat.le_refl _⟩, ⟨by (with_reducible repeat (first | apply Kd.R_alloc | apply Kd.R_drewN | apply Kd.R_drew)); exact Kd.R_mono HO513.out (fun _ hk => trivial)⟩, ⟨by repeat (first | (with_reducible first | exact HB.out | apply below_alloc | apply pw_below_drewN | apply below_drew1) | exact HB.out)⟩⟩
   ·rw [if_neg c16] at H
    have c16b0 : (t514 == t509) = false := beq_eq_false_iff_ne.mpr c16
    have c16b1 : (t514 != t509) = true := bne_iff_ne.mpr c16
    (first | rw [c16b0] | (simp only [i64_w, i32_w]; rw [c16b0]) | skip)
    cases (laws_FnExactCountFiner.j0.dead H).symm.trans hrt
  case rest =>
   clear HC9
   (try clear c1);(try clear c4);(try clear c4b0);(try clear c16);(try clear c16b0);(try clear c16b1)
   obtain ⟨kq, x38_8, rfl, HA, HJ8, HO_8, HB⟩ := hcut
   cases kq with
   | zero => exact absurd HA.out (by simp [laws_FnExactCountFiner.j0])
   | succ kj8 =>
    have H := HA.out
    clear HA
    simp only [laws_FnExactCountFiner.j0] at H
    by_cases c17 : x38_8 = true
    ·subst c17
     rw [if_pos rfl] at H
     obtain rfl := Option.some.inj H
     cases hrt
    ·replace c17 := Bool.eq_false_iff.mpr c17
     subst c17
     rw [if_neg (show ¬ (false = true) by decide)] at H
     replace H := Option.bind_eq_some_iff.mp H
     obtain ⟨t516, A180, H⟩ := H
     have A18 := Aside0.mk A180
     clear A180
     replace H := Option.bind_eq_some_iff.mp H
     obtain ⟨t519, A190, H⟩ := H
     have A19 := Aside0.mk A190
     clear A190
     by_cases c20 : t519 = true
     ·subst c20
      rw [if_pos rfl] at H
      as_aux_lemma =>
       obtain rfl := Option.some.inj H
       clear hrt
       go_wp2_with (first | ((with_reducible refine gate_callee (f := 12) rfl ?_); refine gof_ (some 41) Try.func12 #[.slice A1 l1.length c1] ?_; (with_reducible refine (laws_toDiagonalS.calls kj8 _ _ l1 t516 _ ?side1 ?side2 A18.out).mono ?_); (case side1 => repeat (first | exact (Kd.C_below HR1.out HB.out) | (with_reducible refine Kd.C_alloc ?_ _) | (with_reducible refine Kd.C_drewN ?_ _) | (with_reducible refine Kd.C_drew ?_))); (case side2 => exact HC1.out); rintro e w21 ⟨v517, rfl, ho0, hb⟩; refine ⟨_, rfl, ?_⟩; have HO518 := Aside0.mk (Kd.R_lower (Kd.R_new' ho0 (Kd.R_lt (by (with_reducible repeat (first | apply Kd.R_alloc | apply Kd.R_drewN | apply Kd.R_drew)); exact HO_8.out))) (below_size (hk HB))); replace HO_8 := Aside0.mk (Kd.R_elder' (by (with_reducible repeat (first | apply Kd.R_alloc | apply Kd.R_drewN | apply Kd.R_drew)); exact HO_8.out) (Kd.R_base ho0) hb); replace HB := hh HB hb; (try clear hb); (try clear hb2); (try clear hk); (try clear hi); (try clear ho0); obtain ⟨Ao22, co22, eo22⟩ := Kd.R_slice HO518.out; subst eo22) | ((with_reducible refine gate_callee (f := 15) rfl ?_); refine gof_ (some 42) Try.func15 #[.slice Ao14 t511.length co14, .slice Ao22 t516.length co22] ?_; (with_reducible refine (laws_eqDiagonalS.calls kj8 _ _ t511 _ _ t516 true _ ?side1 ?side2 ?side3 ?side4 A19.out).mono ?_); (case side1 => repeat (first | exact (Kd.R_reads' HO_8.out).2.2 | (with_reducible refine Kd.C_alloc ?_ _) | (with_reducible refine Kd.C_drewN ?_ _) | (with_reducible refine Kd.C_drew ?_))); (case side2 => exact (Kd.R_reads' HO_8.out).2.1); (case side3 => repeat (first | exact (Kd.R_reads' HO518.out).2.2 | (with_reducible refine Kd.C_alloc ?_ _) | (with_reducible refine Kd.C_drewN ?_ _) | (with_reducible refine Kd.C_drew ?_))); (case side4 => exact (Kd.R_reads' HO518.out).2.1); rintro e w23 ⟨rfl, hb⟩; refine ⟨_, rfl, ?_⟩; replace HO_8 := Aside0.mk (Kd.R_below (by (with_reducible repeat (first | apply Kd.R_alloc | apply Kd.R_drewN | apply Kd.R_drew)); exact HO_8.out) hb); replace HO518 := Aside0.mk (Kd.R_below (by (with_reducible repeat (first | apply Kd.R_alloc | apply Kd.R_drewN | apply Kd.R_drew)); exact HO518.out) hb); replace HB := hh HB hb; clear hb))
       go_ret
       exact ⟨eqr, hk HB⟩
     ·replace c20 := Bool.eq_false_iff.mpr c20
      subst c20
      rw [if_neg (show ¬ (false = true) by decide)] at H
      obtain rfl := Option.some.inj H
      cases hrt

end Go.Proofs.Ytggocekjhohhcaa.P

/- FnExactCountFiner: what both sides answer. -/
namespace Go.Proofs.Ytggocekjhohhcaa.P
set_option linter.unusedVariables false
set_option linter.unusedSimpArgs false
open Go.RowKit Go.Proofs.YtggocekjhohhcaaW.PrintWords
set_option maxRecDepth 100000 in
theorem cat_spec : ∀ s : Fin 10, ((spec_cuChoose.f 30 (wrap64 (2 * (wrap64 (((s.val : Int) + 3) - 2)))) (wrap64 (((s.val : Int) + 3) - 2))).map fun c => wrap64 (Int.tdiv c (wrap64 ((wrap64 (((s.val : Int) + 3) - 2)) + 1)))) = some (catV ((s.val : Int) + 3)) := by decide +kernel
theorem cuChoose_eq {s : Int} (h3 : 3 ≤ s) (h12 : s ≤ 12) : ∃ c, Ev (fun k => spec_cuChoose.f k (wrap64 (2 * (wrap64 (s - 2)))) (wrap64 (s - 2))) c ∧ wrap64 (Int.tdiv c (wrap64 ((wrap64 (s - 2)) + 1))) = catV s := by
  have h := cat_spec ⟨(s - 3).toNat, by omega⟩
  rw [show (((⟨(s - 3).toNat, by omega⟩ : Fin 10).val : Int) + 3) = s from by show (((s - 3).toNat : Nat) : Int) + 3 = s; omega] at h
  obtain ⟨c, hc, he⟩ := Option.map_eq_some_iff.1 h
  exact ⟨c, ev_mono (spec_cuChoose.mono _ _) hc, he⟩
theorem sfiner_l0 (rows : List (List Int)) (hL : ∀ r ∈ rows, 3 ≤ r.length ∧ r.length ≤ 12) (hl : rows.length ≤ 1000) : ∀ m j o, rows.length - j = m → j ≤ rows.length → Ev (fun k => spec_CountFiner.l0 k o rows (rows.length : Int) (j : Int)) ((lensOf (rows.drop j)).foldl (fun o x => wrap64 (o * catV x)) o, true)
  | 0, j, o, hm, hj => by
    have e : j = rows.length := by omega
    subst e
    refine Ev.succ (Ev.const fun k => ?_)
    simp only [spec_CountFiner.l0]
    rw [if_neg (by omega), List.drop_length]
    rfl
  | m + 1, j, o, hm, hj => by
    have hlt : j < rows.length := by omega
    have hx := hL _ (List.getElem_mem hlt)
    have ih := sfiner_l0 rows hL hl m (j + 1) (wrap64 (o * catV (rows[j].length : Int))) (by omega) (by omega)
    have hg : rd_L3 rows (j : Int) = rows[j] := by unfold rd_L3; rw [Int.toNat_natCast]; simp [hlt]
    obtain ⟨c, ⟨K, hK⟩, hc⟩ := cuChoose_eq (s := (rows[j].length : Int)) (by omega) (by omega)
    replace hK : ∀ k, K ≤ k → spec_cuChoose.f k (wrap64 (2 * (wrap64 ((rows[j].length : Int) - 2)))) (wrap64 ((rows[j].length : Int) - 2)) = some c := hK
    have hne : ¬ wrap64 (wrap64 ((rows[j].length : Int) - 2) + 1) = 0 := by
      rw [w64n (show _ ≤ (rows[j].length : Int) - 2 by omega) (by omega), w64n (by omega) (by omega)]
      omega
    refine Ev.succ ?_
    rw [List.drop_eq_getElem_cons hlt]
    unfold lensOf
    rw [List.map_cons, List.foldl_cons]
    refine Ev.on K ih fun k hk => ?_
    simp only [spec_CountFiner.l0]
    rw [if_pos (by omega), if_pos (by omega), if_pos (by omega), hg, hK k hk, w64s (by omega)]
    simp only [Option.bind_some]
    rw [if_neg hne, hc]
theorem spec_CountFiner_eq (n : Int) (ds : List Dia) (hl : ds.length ≤ 2000000) : Ev (fun k => spec_CountFiner.f k n ds) (finer n ds) := by
  unfold spec_CountFiner.f finer
  refine Ev.bind (g := fun k t491 => if t491 = true then ((spec_cuPieces.f k n ds).bind fun t492 => spec_CountFiner.l0 k 1 t492 (t492.length : Int) 0) else some (0, false)) (cuGood_eq n ds hl) ?_
  by_cases hg : goodB n ds = true
  · have h := goodB_good hg
    have h2 := h.hi
    have h3 := h.few
    have hp := Lex.sort_perm (cutAll n ds)
    have hll := cutAll_length n ds
    have h0 := sfiner_l0 (Lex.sort (cutAll n ds)) (fun r hr => cut_lens h r (hp.mem_iff.1 hr)) (by rw [hp.length_eq]; omega) _ 0 1 rfl (by omega)
    rw [List.drop_zero] at h0
    refine Ev.congr (g := fun k => (spec_cuPieces.f k n ds).bind fun t492 => spec_CountFiner.l0 k 1 t492 (t492.length : Int) 0) ?_ (fun k => by rw [if_pos hg])
    refine Ev.bind (g := fun k t492 => spec_CountFiner.l0 k 1 t492 (t492.length : Int) 0) (cuPieces_eq h.cut h.lo h.hi (by omega)) (Ev.val h0 ?_)
    rw [if_pos hg]
    exact congrArg (·, true) (Prod.prodW_perm (f := catV) (hp.map _))
  · exact Ev.const fun k => by rw [if_neg hg, if_neg hg]
theorem FnExactCountFiner_pure (n : Int) (l : List LDia) (hl : l.length ≤ 9223372036854775807) : ∃ k, laws_FnExactCountFiner.f k n l = some true := by
  refine Ev.at ?_
  unfold laws_FnExactCountFiner.f
  rw [sz_eq l hl]
  simp only [Option.bind_some]
  by_cases h : l.length ≤ 1048576
  · rw [if_pos h]
    have hm : (l.map toD).length ≤ 2000000 := by rw [List.length_map]; omega
    have ht := toS_eq l (by omega)
    refine Ev.congr (g := fun k => (laws_toDiagonalS.f k l).bind fun t506 => ((spec_CountFiner.f k n t506).bind fun bt509 => ((laws_toDiagonalS.f k l).bind fun t511 => ((impl_CountFiner.f k n t511).bind fun bt514 => (if bt514.1 = bt509.1 then (laws_FnExactCountFiner.j0 k l t511 (bt514.2 != bt509.2)) else (laws_FnExactCountFiner.j0 k l t511 true)))))) ?_ (fun k => by rw [if_neg (by omega)])
    refine Ev.bind (g := fun k t506 => ((spec_CountFiner.f k n t506).bind fun bt509 => ((laws_toDiagonalS.f k l).bind fun t511 => ((impl_CountFiner.f k n t511).bind fun bt514 => (if bt514.1 = bt509.1 then (laws_FnExactCountFiner.j0 k l t511 (bt514.2 != bt509.2)) else (laws_FnExactCountFiner.j0 k l t511 true)))))) ht ?_
    refine Ev.bind (g := fun k bt509 => ((laws_toDiagonalS.f k l).bind fun t511 => ((impl_CountFiner.f k n t511).bind fun bt514 => (if bt514.1 = bt509.1 then (laws_FnExactCountFiner.j0 k l t511 (bt514.2 != bt509.2)) else (laws_FnExactCountFiner.j0 k l t511 true))))) (spec_CountFiner_eq n (l.map toD) hm) ?_
    refine Ev.bind (g := fun k t511 => ((impl_CountFiner.f k n t511).bind fun bt514 => (if bt514.1 = (finer n (l.map toD)).1 then (laws_FnExactCountFiner.j0 k l t511 (bt514.2 != (finer n (l.map toD)).2)) else (laws_FnExactCountFiner.j0 k l t511 true)))) ht ?_
    refine Ev.bind (g := fun k bt514 => (if bt514.1 = (finer n (l.map toD)).1 then (laws_FnExactCountFiner.j0 k l (l.map toD) (bt514.2 != (finer n (l.map toD)).2)) else (laws_FnExactCountFiner.j0 k l (l.map toD) true))) (impl_CountFiner_eq n (l.map toD) hm) ?_
    refine Ev.succ ?_
    have hj : Ev (fun k => (laws_toDiagonalS.f k l).bind fun t487 => ((laws_eqDiagonalS.f k (l.map toD) t487).bind fun t490 => (if t490 = true then some true else some false))) true := by
      refine Ev.bind (g := fun k t487 => ((laws_eqDiagonalS.f k (l.map toD) t487).bind fun t490 => (if t490 = true then some true else some false))) ht ?_
      refine Ev.bind (g := fun k t490 => (if t490 = true then some true else some false)) (eqS_eq (l.map toD) hm) ?_
      exact Ev.const fun k => rfl
    refine Ev.congr hj fun k => ?_
    rw [if_pos rfl, bne_self_eq_false]
    simp only [laws_FnExactCountFiner.j0]
    rw [if_neg Bool.false_ne_true]
  · rw [if_neg h]
    exact Ev.const fun k => by rw [if_pos (by omega)]
end Go.Proofs.Ytggocekjhohhcaa.P

/- The row of FnExactCountFiner. -/
namespace Go.Proofs.Ytggocekjhohhcaa.fnExactCountFiner
open Go.ChangeShapes Go.WideShapes Go.ChangeAt Go.RowKit
open Go.ChangeMaps (open_string shut_string)
set_option linter.unusedVariables false
theorem own : ownKnob Try.prog.godebug = none := by kernel_rfl
theorem laidOut : laidOutB Try.prog = true := by kernel_rfl
set_option maxRecDepth 100000 in
theorem lifted (os : Os) (started : os.Started) (H : Type) (enc : TypeId × Value → H) :
    ReturnsInHanded {} Try.checked os 7 .any (Rows.fnExactCountFinerSpec.pre6 enc Try.prog Try.f7 Rows.fnExactCountFinerRow.domain false) (Rows.fnExactCountFinerSpec.post enc Try.prog Try.f7 false true false false) := by
  refine returnsInHanded_of_change_sized (C := Try.checked) own started (by kernel_rfl) Try.func7
    (ChangeSpec.witness6 (enc := enc) (C := Try.checked) false ⟨#[], #[.int .i64 0, .slice none 0 0], []⟩ 8 (by kernel_rfl) (by kernel_rfl) (by kernel_rfl) (by kernel_rfl)) ?_
  intro W base args ds gs before hval0 hW hcnd hsz0 _
  have hval : ∀ (j : Nat) t v, Try.f7.params[j]? = some t → args[j]? = some v → Value.okWide Try.prog W .any base t v := hval0
  have hW' := hW
  obtain ⟨p, q, hA0, hV, rfl, hfz, hnd⟩ := hW
  have hA : DataW.TrodAll enc Try.prog W 0 (fun _ => true) true Try.f7.params.toList args.toList ds p := hA0
  rw [Try.params7] at hA hval
  obtain ⟨v0, vs0, d0, ds0, p0, q0, hargs, rfl, rfl, h0, r0⟩ := trodAll_cons hA
  obtain ⟨v1, vs1, d1, ds1, p1, q1, rfl, rfl, rfl, h1, r1⟩ := trodAll_cons r0
  obtain ⟨rfl, rfl, rfl⟩ := trodAll_nil r1
  obtain rfl : args = #[v0, v1] := by cases args; simp_all
  obtain ⟨rfl, rfl⟩ := trodVars_none hV
  obtain ⟨a0, rfl, rfl, rfl, w0⟩ := open_int Try.underlying3 (hval 0 3 v0 rfl rfl) h0
  obtain ⟨a1, len1, cap1, rfl⟩ := okWide_slice Try.underlying22 (hval 1 22 v1 rfl rfl)
  have k1 := h1
  have lt1 : ∀ x ∈ p1, x.block < W.heap.size := by obtain ⟨m, hm⟩ := k1; exact DataW.trod_lt m _ _ _ hm
  obtain ⟨l1, hC1, hl1, hc1, hm1⟩ : ∃ l : List P.LDia, Go.Proofs.YtggocekjhohhcaaW.PrintWords.Kd.C P.k61 W a1 l.length l ∧ l.length = len1 ∧ l.length ≤ cap1 ∧ l.length ≤ 9223372036854775807 := by
    obtain ⟨fuel, hf⟩ := h1
    exact P.open_dias (by simpa [Value.cells] using hf)
  subst hl1
  clear hA0 hval0 hsz0
  obtain ⟨k, hk⟩ := P.FnExactCountFiner_pure a0 l1 hm1
  refine (P.laws_FnExactCountFiner.calls k a0 a1 cap1 l1 true W hC1 hc1 rfl hk).mono fun e W' ⟨he, bel⟩ => ?_
  subst he
  exact ⟨_, rfl, _, _, _, [], _, [], hW', trodAll_mk1 (shut_bool Try.underlying4 _), (trodAll_cons_mk (shut_int Try.underlying3 w0) (trodAll_cons_mk (Below.trod laidOut (by kernel_rfl) (of_decide_eq_true (by kernel_rfl)) k1 bel lt1) trodAll_mk0)), rfl, bel.frame _, fun h => by cases h⟩
theorem over : Rows.fnExactCountFinerRow.holds Try.pinned (OpenSpec.ofChange Rows.fnExactCountFinerSpec) :=
  OpenClaim.holds_of_wide 7 Try.f7 rfl rfl rfl rfl rfl rfl rfl ⟨rfl, rfl, rfl, rfl, rfl⟩ rfl rfl rfl rfl rfl (by kernel_rfl) Try.func7 (by kernel_rfl)
    (of_decide_eq_true (by kernel_rfl)) (by unfold Func.isWrapper; first | (rw [if_pos (by decide +kernel)]; kernel_rfl) | (rw [if_neg (by decide +kernel)]; exact ⟨rfl, rfl⟩))
    (fun os started H enc _ => lifted os started H enc)
theorem proved : Rows.FnExactCountFinerSaid := over
#print axioms proved
end Go.Proofs.Ytggocekjhohhcaa.fnExactCountFiner
namespace Go.Proofs.Ytggocekjhohhcaa
/-- The row, under a short name, for the claim. -/
theorem fnExactCountFiner_holds : Rows.FnExactCountFinerSaid := fnExactCountFiner.proved
end Go.Proofs.Ytggocekjhohhcaa


