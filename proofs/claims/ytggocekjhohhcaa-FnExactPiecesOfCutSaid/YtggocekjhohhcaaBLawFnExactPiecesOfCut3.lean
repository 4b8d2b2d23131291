/- Proof of FnExactPiecesOfCutSaid, part 4 of 4: the texts Pf14, Pf16, Marks, Pf11, Pf13, PureFnExactPiecesOfCut, WalkFnExactPiecesOfCut, LawFnExactPiecesOfCut, joined by a program of this session. -/
import Derived.Test.YtggocekjhohhcaaBLawFnExactPiecesOfCut1
import Derived.Test.YtggocekjhohhcaaBLawFnExactPiecesOfCut2
import Derived.Deep.CutBlock
import Derived.Test.YtggocekjhohhcaaRows
import Derived.WalkKit
import Derived.ProofKit
import Derived.OpenShut
import Derived.ShutString
import Derived.ChangeOld
import Derived.Below
import Derived.SizedLaws
-- By a program of this session.
namespace Go.Proofs.Ytggocekjhohhcaa.P
open Go.RowKit Go.Proofs.YtggocekjhohhcaaW.PrintWords Go.Proofs.YtggocekjhohhcaaW.PrintLast Go.Proofs.YtggocekjhohhcaaW.PrintMore
attribute [local go_sem] max2_int min2_int max_two min_two max_three min_three max_four min_four
set_option linter.unusedVariables false
set_option linter.unusedSimpArgs false

/-! ### laws_eqIntSS: function 14 -/
def laws_eqIntSS.l0 : Nat → List (List Int) → List (List Int) → Int → Option (Bool)
 | 0, _, _, _ => none
 | k + 1, x0, x1, x5 => if x5 < (x0.length : Int) then (if 0 ≤ x5 then (if x5 < (x1.length : Int) then ((laws_eqIntS.f k (rd_L3 x0 x5) (rd_L3 x1 x5)).bind fun t224 => (if t224 = true then (laws_eqIntSS.l0 k x0 x1 (wrap64 (x5 + 1))) else (some false))) else (none)) else (none)) else (some true)
def laws_eqIntSS.f (k : Nat) (l0 : List (List Int)) (l1 : List (List Int)) : Option (Bool) := if (l0.length : Int) = (l1.length : Int) then (laws_eqIntSS.l0 k l0 l1 0) else (some false)
theorem laws_eqIntSS.mono_l : ∀ k, (∀ y0 y1 y2, LeO (laws_eqIntSS.l0 k y0 y1 y2) (laws_eqIntSS.l0 (k + 1) y0 y1 y2))
 | 0 => fun _ _ _ r h => by simp [laws_eqIntSS.l0] at h
 | k + 1 => by
  have ih0 := laws_eqIntSS.mono_l k
  ·intro y0 y1 y2
   unfold laws_eqIntSS.l0
   repeat' first
   | (with_reducible exact ih0 _ _ _)
   | (with_reducible exact laws_eqIntS.mono _ _ _)
   | (with_reducible exact LeO.refl _)
   | (with_reducible exact LeO.none _)
   | (with_reducible refine LeO.ite ?_ ?_)
   | (with_reducible refine LeO.bind ?_ (fun _ => ?_))
   | apply ih0
   | apply laws_eqIntS.mono
   | apply LeO.none
   | refine LeO.ite ?_ ?_
   | refine LeO.bind ?_ (fun _ => ?_)
theorem laws_eqIntSS.mono : ∀ a0 a1 k, LeO (laws_eqIntSS.f k a0 a1) (laws_eqIntSS.f (k + 1) a0 a1) := by
 intro a0 a1 k
 have ih0 := laws_eqIntSS.mono_l k
 unfold laws_eqIntSS.f
 repeat' first
   | (with_reducible exact ih0 _ _ _)
   | (with_reducible exact laws_eqIntS.mono _ _ _)
   | (with_reducible exact LeO.refl _)
   | (with_reducible exact LeO.none _)
   | (with_reducible refine LeO.ite ?_ ?_)
   | (with_reducible refine LeO.bind ?_ (fun _ => ?_))
   | apply ih0
   | apply laws_eqIntS.mono
   | apply LeO.none
   | refine LeO.ite ?_ ?_
   | refine LeO.bind ?_ (fun _ => ?_)
set_option maxHeartbeats 8000000 in
set_option maxRecDepth 100000 in
theorem laws_eqIntSS.calls (k : Nat) (A0 : Option Addr) (c0 : Nat) (l0 : List (List Int)) (A1 : Option Addr) (c1 : Nat) (l1 : List (List Int)) (r : Bool) (w : World) (hr0 : Kd.C (Kd.slice 3 (Kd.int .i64)) w A0 l0.length l0) (hc0 : l0.length ≤ c0) (hr1 : Kd.C (Kd.slice 3 (Kd.int .i64)) w A1 l1.length l1) (hc1 : l1.length ≤ c1) (h : laws_eqIntSS.f k l0 l1 = some r) :
  Calls Try.prog 14 #[.slice A0 l0.length c0, .slice A1 l1.length c1] w fun e w' => e = .returned (.bool r) ∧ Drawn0 w w' := by
 have HR0 := Aside0.mk hr0
 have HC0 := Aside0.mk hc0
 clear hr0 hc0
 have HR1 := Aside0.mk hr1
 have HC1 := Aside0.mk hc1
 clear hr1 hc1
 have H : (if (l0.length : Int) = (l1.length : Int) then (laws_eqIntSS.l0 k l0 l1 0) else (some false)) = some r := h
 clear h
 by_cases c3 : (l0.length : Int) = (l1.length : Int)
 ·rw [if_pos c3] at H
  have c3b0 : ((l0.length : Int) == (l1.length : Int)) = true := beq_iff_eq.mpr c3
  have c3b1 : ((l0.length : Int) != (l1.length : Int)) = false := bne_eq_false_iff_eq.mpr c3
  have c3b2 : (l0.length == l1.length) = true := by first | simpa using c3 | (simp at c3 ⊢; omega)
  clear c3
  have H' := Aside0.mk H
  clear H
  go_enter Try.func14, Try.ntmps14
  go_wp2
  repeat (go_quiet (fail); try go_wp2)
  go_loopg [5] k (fun kq v5 w' => ∃ (x5_1 : Int), v5 = .int .i64 x5_1 ∧ Aside0 (laws_eqIntSS.l0 kq l0 l1 x5_1 = some r) ∧ Aside0 (kq ≤ k) ∧ Drawn0 w w')
  case atStart => exact ⟨(0), (by first | rfl | (simp; done) | (simp [*]; done)), H', ⟨Nat.le_refl _⟩, by repeat (first | exact Drawn0.refl _ | apply Drawn0.step)⟩
  case round =>
   clear H'
   (try clear c3);(try clear c3b0);(try clear c3b1);(try clear c3b2)
   obtain ⟨x5_1, rfl, HA, HK1, ⟨m1, rfl⟩⟩ := hrel
   cases gk with
   | zero => exact absurd HA.out (by simp [laws_eqIntSS.l0])
   | succ k1 =>
    have H := HA.out
    clear HA
    simp only [laws_eqIntSS.l0] at H
    by_cases c4 : x5_1 < (l0.length : Int)
    ·rw [if_pos c4] at H
     have c4b0 : decide (x5_1 < (l0.length : Int)) = true := decide_eq_true c4
     clear c4
     by_cases c5 : 0 ≤ x5_1
     ·rw [if_pos c5] at H
      have c5b0 : decide (0 ≤ x5_1) = true := decide_eq_true c5
      clear c5
      by_cases c6 : x5_1 < (l1.length : Int)
      ·rw [if_pos c6] at H
       have c6b0 : decide (x5_1 < (l1.length : Int)) = true := decide_eq_true c6
       clear c6
       replace H := Option.bind_eq_some_iff.mp H
       obtain ⟨t224, A70, H⟩ := H
       have A7 := Aside0.mk A70
       clear A70
       by_cases c8 : t224 = true
       ·subst c8
        rw [if_pos rfl] at H
        have H' := Aside0.mk H
        clear H
        have p222 : 0 ≤ (x5_1 : Int) := of_decide_eq_true (by first | (with_reducible assumption) | assumption)
        have q222 : x5_1 < (l0.length : Int) := of_decide_eq_true (by first | (with_reducible assumption) | assumption)
        obtain ⟨ad222, A222_0, c222_0, e222, hx222_0, hl222_0, hi222_0⟩ := at_L3 HR0.out x5_1 p222 q222
        cases e222
        have HR222_0 := Aside0.mk hi222_0
        have HC222_0 := Aside0.mk hl222_0
        clear hi222_0 hl222_0
        replace p222 := eq_true p222
        replace q222 := eq_true q222
        have p223 : 0 ≤ (x5_1 : Int) := of_decide_eq_true (by first | (with_reducible assumption) | assumption)
        have q223 : x5_1 < (l1.length : Int) := of_decide_eq_true (by first | (with_reducible assumption) | assumption)
        obtain ⟨ad223, A223_0, c223_0, e223, hx223_0, hl223_0, hi223_0⟩ := at_L3 HR1.out x5_1 p223 q223
        cases e223
        have HR223_0 := Aside0.mk hi223_0
        have HC223_0 := Aside0.mk hl223_0
        clear hi223_0 hl223_0
        replace p223 := eq_true p223
        replace q223 := eq_true q223
        go_wp2_with (first | (go_at_call 23; (with_reducible refine (laws_eqIntS.calls k1 _ _ (rd_L3 l0 x5_1) _ _ (rd_L3 l1 x5_1) true _ ?side1 ?side2 ?side3 ?side4 A7.out).mono ?_); (case side1 => repeat (first | exact HR222_0.out | (with_reducible refine Kd.C_alloc ?_ _) | (with_reducible refine Kd.C_drewN ?_ _) | (with_reducible refine Kd.C_drew ?_))); (case side2 => exact HC222_0.out); (case side3 => repeat (first | exact HR223_0.out | (with_reducible refine Kd.C_alloc ?_ _) | (with_reducible refine Kd.C_drewN ?_ _) | (with_reducible refine Kd.C_drew ?_))); (case side4 => exact HC223_0.out); rintro e w' ⟨rfl, ⟨nd, rfl⟩⟩; (try first | exact ⟨rfl, _, World.drewN_drewN _ _ _⟩ | exact ⟨rfl, _, Eq.trans (World.drewN_drewN _ _ _) (congrArg (World.drewN _) (Nat.add_assoc _ _ _))⟩)))
        repeat (go_quiet (first | (go_at_call 23; (with_reducible refine (laws_eqIntS.calls k1 _ _ (rd_L3 l0 x5_1) _ _ (rd_L3 l1 x5_1) true _ ?side1 ?side2 ?side3 ?side4 A7.out).mono ?_); (case side1 => repeat (first | exact HR222_0.out | (with_reducible refine Kd.C_alloc ?_ _) | (with_reducible refine Kd.C_drewN ?_ _) | (with_reducible refine Kd.C_drew ?_))); (case side2 => exact HC222_0.out); (case side3 => repeat (first | exact HR223_0.out | (with_reducible refine Kd.C_alloc ?_ _) | (with_reducible refine Kd.C_drewN ?_ _) | (with_reducible refine Kd.C_drew ?_))); (case side4 => exact HC223_0.out); rintro e w' ⟨rfl, ⟨nd, rfl⟩⟩; (try first | exact ⟨rfl, _, World.drewN_drewN _ _ _⟩ | exact ⟨rfl, _, Eq.trans (World.drewN_drewN _ _ _) (congrArg (World.drewN _) (Nat.add_assoc _ _ _))⟩))); try go_wp2_with (first | (go_at_call 23; (with_reducible refine (laws_eqIntS.calls k1 _ _ (rd_L3 l0 x5_1) _ _ (rd_L3 l1 x5_1) true _ ?side1 ?side2 ?side3 ?side4 A7.out).mono ?_); (case side1 => repeat (first | exact HR222_0.out | (with_reducible refine Kd.C_alloc ?_ _) | (with_reducible refine Kd.C_drewN ?_ _) | (with_reducible refine Kd.C_drew ?_))); (case side2 => exact HC222_0.out); (case side3 => repeat (first | exact HR223_0.out | (with_reducible refine Kd.C_alloc ?_ _) | (with_reducible refine Kd.C_drewN ?_ _) | (with_reducible refine Kd.C_drew ?_))); (case side4 => exact HC223_0.out); rintro e w' ⟨rfl, ⟨nd, rfl⟩⟩; (try first | exact ⟨rfl, _, World.drewN_drewN _ _ _⟩ | exact ⟨rfl, _, Eq.trans (World.drewN_drewN _ _ _) (congrArg (World.drewN _) (Nat.add_assoc _ _ _))⟩))))
        go_roundg k1
        case measure => have := HK1.out; omega
        case rel => exact ⟨(wrap64 (x5_1 + 1)), (by first | rfl | (simp; done) | (simp [*]; done)), H', ⟨by have := HK1.out; omega⟩, by repeat (first | exact Drawn0.refl _ | apply Drawn0.step)⟩
       ·replace c8 := Bool.eq_false_iff.mpr c8
        subst c8
        rw [if_neg (show ¬ (false = true) by decide)] at H
        obtain rfl := Option.some.inj H
        simp only [Option.some.injEq, Prod.mk.injEq] at H
        obtain ⟨rfl⟩ := H
        have p222 : 0 ≤ (x5_1 : Int) := of_decide_eq_true (by first | (with_reducible assumption) | assumption)
        have q222 : x5_1 < (l0.length : Int) := of_decide_eq_true (by first | (with_reducible assumption) | assumption)
        obtain ⟨ad222, A222_0, c222_0, e222, hx222_0, hl222_0, hi222_0⟩ := at_L3 HR0.out x5_1 p222 q222
        cases e222
        have HR222_0 := Aside0.mk hi222_0
        have HC222_0 := Aside0.mk hl222_0
        clear hi222_0 hl222_0
        replace p222 := eq_true p222
        replace q222 := eq_true q222
        have p223 : 0 ≤ (x5_1 : Int) := of_decide_eq_true (by first | (with_reducible assumption) | assumption)
        have q223 : x5_1 < (l1.length : Int) := of_decide_eq_true (by first | (with_reducible assumption) | assumption)
        obtain ⟨ad223, A223_0, c223_0, e223, hx223_0, hl223_0, hi223_0⟩ := at_L3 HR1.out x5_1 p223 q223
        cases e223
        have HR223_0 := Aside0.mk hi223_0
        have HC223_0 := Aside0.mk hl223_0
        clear hi223_0 hl223_0
        replace p223 := eq_true p223
        replace q223 := eq_true q223
        go_wp2_with (first | (go_at_call 23; (with_reducible refine (laws_eqIntS.calls k1 _ _ (rd_L3 l0 x5_1) _ _ (rd_L3 l1 x5_1) false _ ?side1 ?side2 ?side3 ?side4 A7.out).mono ?_); (case side1 => repeat (first | exact HR222_0.out | (with_reducible refine Kd.C_alloc ?_ _) | (with_reducible refine Kd.C_drewN ?_ _) | (with_reducible refine Kd.C_drew ?_))); (case side2 => exact HC222_0.out); (case side3 => repeat (first | exact HR223_0.out | (with_reducible refine Kd.C_alloc ?_ _) | (with_reducible refine Kd.C_drewN ?_ _) | (with_reducible refine Kd.C_drew ?_))); (case side4 => exact HC223_0.out); rintro e w' ⟨rfl, ⟨nd, rfl⟩⟩; (try first | exact ⟨rfl, _, World.drewN_drewN _ _ _⟩ | exact ⟨rfl, _, Eq.trans (World.drewN_drewN _ _ _) (congrArg (World.drewN _) (Nat.add_assoc _ _ _))⟩)))
        repeat (go_quiet (first | (go_at_call 23; (with_reducible refine (laws_eqIntS.calls k1 _ _ (rd_L3 l0 x5_1) _ _ (rd_L3 l1 x5_1) false _ ?side1 ?side2 ?side3 ?side4 A7.out).mono ?_); (case side1 => repeat (first | exact HR222_0.out | (with_reducible refine Kd.C_alloc ?_ _) | (with_reducible refine Kd.C_drewN ?_ _) | (with_reducible refine Kd.C_drew ?_))); (case side2 => exact HC222_0.out); (case side3 => repeat (first | exact HR223_0.out | (with_reducible refine Kd.C_alloc ?_ _) | (with_reducible refine Kd.C_drewN ?_ _) | (with_reducible refine Kd.C_drew ?_))); (case side4 => exact HC223_0.out); rintro e w' ⟨rfl, ⟨nd, rfl⟩⟩; (try first | exact ⟨rfl, _, World.drewN_drewN _ _ _⟩ | exact ⟨rfl, _, Eq.trans (World.drewN_drewN _ _ _) (congrArg (World.drewN _) (Nat.add_assoc _ _ _))⟩))); try go_wp2_with (first | (go_at_call 23; (with_reducible refine (laws_eqIntS.calls k1 _ _ (rd_L3 l0 x5_1) _ _ (rd_L3 l1 x5_1) false _ ?side1 ?side2 ?side3 ?side4 A7.out).mono ?_); (case side1 => repeat (first | exact HR222_0.out | (with_reducible refine Kd.C_alloc ?_ _) | (with_reducible refine Kd.C_drewN ?_ _) | (with_reducible refine Kd.C_drew ?_))); (case side2 => exact HC222_0.out); (case side3 => repeat (first | exact HR223_0.out | (with_reducible refine Kd.C_alloc ?_ _) | (with_reducible refine Kd.C_drewN ?_ _) | (with_reducible refine Kd.C_drew ?_))); (case side4 => exact HC223_0.out); rintro e w' ⟨rfl, ⟨nd, rfl⟩⟩; (try first | exact ⟨rfl, _, World.drewN_drewN _ _ _⟩ | exact ⟨rfl, _, Eq.trans (World.drewN_drewN _ _ _) (congrArg (World.drewN _) (Nat.add_assoc _ _ _))⟩))))
        go_ret
        exact ⟨by first | rfl | (simp; done) | (simp [*]; done), by repeat (first | exact Drawn0.refl _ | apply Drawn0.step)⟩
      ·rw [if_neg c6] at H
       exact absurd H (by simp)
     ·rw [if_neg c5] at H
      exact absurd H (by simp)
    ·rw [if_neg c4] at H
     have c4b0 : decide (x5_1 < (l0.length : Int)) = false := decide_eq_false c4
     clear c4
     obtain rfl := Option.some.inj H
     simp only [Option.some.injEq, Prod.mk.injEq] at H
     obtain ⟨rfl⟩ := H
     go_wp2
     repeat (go_quiet (fail); try go_wp2)
     go_ret
     exact ⟨by first | rfl | (simp; done) | (simp [*]; done), by repeat (first | exact Drawn0.refl _ | apply Drawn0.step)⟩
 ·rw [if_neg c3] at H
  have c3b0 : ((l0.length : Int) == (l1.length : Int)) = false := beq_eq_false_iff_ne.mpr c3
  have c3b1 : ((l0.length : Int) != (l1.length : Int)) = true := bne_iff_ne.mpr c3
  have c3b2 : (l0.length == l1.length) = false := by first | simpa using c3 | (simp at c3 ⊢; omega)
  obtain rfl := Option.some.inj H
  simp only [Option.some.injEq, Prod.mk.injEq] at H
  obtain ⟨rfl⟩ := H
  go_enter Try.func14, Try.ntmps14
  go_wp2
  repeat (go_quiet (fail); try go_wp2)
  go_ret
  exact ⟨by first | rfl | (simp; done) | (simp [*]; done), by repeat (first | exact Drawn0.refl _ | apply Drawn0.step)⟩

end Go.Proofs.Ytggocekjhohhcaa.P

-- By a program of this session.
namespace Go.Proofs.Ytggocekjhohhcaa.P
open Go.RowKit Go.Proofs.YtggocekjhohhcaaW.PrintWords Go.Proofs.YtggocekjhohhcaaW.PrintLast Go.Proofs.YtggocekjhohhcaaW.PrintMore
attribute [local go_sem] max2_int min2_int max_two min_two max_three min_three max_four min_four
set_option linter.unusedVariables false
set_option linter.unusedSimpArgs false

/-! ### laws_markDiagonalS: function 16 -/
def laws_markDiagonalS.l0 : Nat → List (S59) → Int → Int → Option (Int × (List (S59)))
 | 0, _, _, _ => none
 | k + 1, x0, x1, x5 => if x5 < (x0.length : Int) then (if 0 ≤ x5 then ((some (x0.set (x5 : Int).toNat (⟨x1, (rd_T59 x0 x5).f1⟩ : S59) : List (S59))).bind fun y230 => (laws_markDiagonalS.l0 k (y230.set (x5 : Int).toNat (⟨(rd_T59 y230 x5).f0, wrap64 (x1 + 1)⟩ : S59)) (wrap64 ((wrap64 (x1 + 1)) + 1)) (wrap64 (x5 + 1)))) else (none)) else (some (x1, x0))
def laws_markDiagonalS.f (k : Nat) (l0 : List (S59)) (a1 : Int) : Option (Int × (List (S59))) := laws_markDiagonalS.l0 k l0 a1 0
theorem laws_markDiagonalS.mono_l : ∀ k, (∀ y0 y1 y2, LeO (laws_markDiagonalS.l0 k y0 y1 y2) (laws_markDiagonalS.l0 (k + 1) y0 y1 y2))
 | 0 => fun _ _ _ r h => by simp [laws_markDiagonalS.l0] at h
 | k + 1 => by
  have ih0 := laws_markDiagonalS.mono_l k
  ·intro y0 y1 y2
   unfold laws_markDiagonalS.l0
   repeat' first
   | (with_reducible exact ih0 _ _ _)
   | (with_reducible exact LeO.refl _)
   | (with_reducible exact LeO.none _)
   | (with_reducible refine LeO.ite ?_ ?_)
   | (with_reducible refine LeO.bind ?_ (fun _ => ?_))
   | apply ih0
   | apply LeO.none
   | refine LeO.ite ?_ ?_
   | refine LeO.bind ?_ (fun _ => ?_)
theorem laws_markDiagonalS.mono : ∀ a0 a1 k, LeO (laws_markDiagonalS.f k a0 a1) (laws_markDiagonalS.f (k + 1) a0 a1) := by
 intro a0 a1 k
 have ih0 := laws_markDiagonalS.mono_l k
 unfold laws_markDiagonalS.f
 repeat' first
   | (with_reducible exact ih0 _ _ _)
   | (with_reducible exact LeO.refl _)
   | (with_reducible exact LeO.none _)
   | (with_reducible refine LeO.ite ?_ ?_)
   | (with_reducible refine LeO.bind ?_ (fun _ => ?_))
   | apply ih0
   | apply LeO.none
   | refine LeO.ite ?_ ?_
   | refine LeO.bind ?_ (fun _ => ?_)
set_option maxHeartbeats 8000000 in
set_option maxRecDepth 100000 in
theorem laws_markDiagonalS.calls (k : Nat) (P0_ : Nat → Prop) (u9000_ : Value) (l0 : List (S59)) (a1 : Int) (r1 : Int) (r2 : List (S59)) (w0 w : World) (hB : Below w0.heap.size w0 w) (ho0 : Kd.R k59 59 w w0.heap.size P0_ u9000_ l0) (h : laws_markDiagonalS.f k l0 a1 = some (r1, r2)) :
  Calls Try.prog 16 #[u9000_, .int .i64 a1] w fun e w' => e = .returned (.int .i64 r1) ∧ Kd.R k59 59 w' w0.heap.size (fun k_ => (P0_ k_ ∨ w.heap.size ≤ k_)) u9000_ r2 ∧ Below w0.heap.size w0 w' ∧ Kept w w' (fun k_ => P0_ k_) := by
 have HO0 := Aside0.mk (show Kd.R k59 59 w w0.heap.size (fun k_ => (P0_ k_ ∨ w.heap.size ≤ k_)) u9000_ l0 from Kd.R_mono ho0 (fun k_ hk => (.inl hk)))
 have HK := Aside0.mk (Kept.refl w (fun k_ => P0_ k_))
 have HW0 := Aside0.mk hB.size
 have HB := Aside0.mk hB
 clear hB
 have H : (laws_markDiagonalS.l0 k l0 a1 0) = some (r1, r2) := h
 clear h
 have H' := Aside0.mk H
 clear H
 go_enter Try.func16, Try.ntmps16
 go_wp2
 go_loopg [1, 5] k (fun kq v1 v5 w' => ∃ (x0_1 : List (S59)) (x1_1 : Int) (x5_1 : Int), v1 = .int .i64 x1_1 ∧ v5 = .int .i64 x5_1 ∧ Aside0 (laws_markDiagonalS.l0 kq x0_1 x1_1 x5_1 = some (r1, r2)) ∧ Aside0 (kq ≤ k) ∧ Aside0 (Kd.R k59 59 w' w0.heap.size (fun k_ => (P0_ k_ ∨ w.heap.size ≤ k_)) u9000_ x0_1) ∧ Aside0 (Kept w w' (fun k_ => P0_ k_)) ∧ Aside0 (Below w0.heap.size w0 w'))
 case atStart => exact ⟨(l0), (a1), (0), (by first | rfl | (simp; done) | (simp [*]; done)), (by first | rfl | (simp; done) | (simp [*]; done)), H', ⟨Nat.le_refl _⟩, ⟨by (with_reducible repeat (first | apply Kd.R_alloc | apply Kd.R_drewN | apply Kd.R_drew)); exact HO0.out⟩, ⟨by repeat (first | (with_reducible first | exact HK.out | apply Kept.alloc | apply Kept.drewN | apply Kept.drew) | exact HK.out)⟩, ⟨by repeat (first | (with_reducible first | exact HB.out | apply below_alloc | apply pw_below_drewN | apply below_drew1) | exact HB.out)⟩⟩
 case round =>
  clear H'
  obtain ⟨x0_1, x1_1, x5_1, rfl, rfl, HA, HK1, HO_0, HK, HB⟩ := hrel
  cases gk with
  | zero => exact absurd HA.out (by simp [laws_markDiagonalS.l0])
  | succ k1 =>
   have H := HA.out
   clear HA
   simp only [laws_markDiagonalS.l0] at H
   by_cases c3 : x5_1 < (x0_1.length : Int)
   ·rw [if_pos c3] at H
    have c3b0 : decide (x5_1 < (x0_1.length : Int)) = true := decide_eq_true c3
    clear c3
    by_cases c4 : 0 ≤ x5_1
    ·rw [if_pos c4] at H
     have c4b0 : decide (0 ≤ x5_1) = true := decide_eq_true c4
     clear c4
     obtain ⟨y230, hy230⟩ : ∃ y_ : List (S59), y_ = (x0_1.set (x5_1 : Int).toNat (⟨x1_1, (rd_T59 x0_1 x5_1).f1⟩ : S59)) := ⟨_, rfl⟩
     replace H : (laws_markDiagonalS.l0 k1 (y230.set (x5_1 : Int).toNat (⟨(rd_T59 y230 x5_1).f0, wrap64 (x1_1 + 1)⟩ : S59)) (wrap64 ((wrap64 (x1_1 + 1)) + 1)) (wrap64 (x5_1 + 1))) = some (r1, r2) := by first | (rw [hy230]; with_reducible exact H) | (have H2_ := (Option.bind_some _ _).symm.trans H; rw [hy230]; with_reducible exact H2_) | (have H2_ := (Option.bind_some _ _).symm.trans H; with_reducible exact H2_) | with_reducible exact H | (rw [hy230]; exact H) | exact H
     have Ny230 := Aside0.mk hy230
     clear hy230
     obtain ⟨y231, hy231⟩ : ∃ y_ : List (S59), y_ = (y230.set (x5_1 : Int).toNat (⟨(rd_T59 y230 x5_1).f0, wrap64 (x1_1 + 1)⟩ : S59)) := ⟨_, rfl⟩
     replace H : (laws_markDiagonalS.l0 k1 y231 (wrap64 ((wrap64 (x1_1 + 1)) + 1)) (wrap64 (x5_1 + 1))) = some (r1, r2) := by first | (rw [hy231]; with_reducible exact H) | (have H2_ := (Option.bind_some _ _).symm.trans H; rw [hy231]; with_reducible exact H2_) | (have H2_ := (Option.bind_some _ _).symm.trans H; with_reducible exact H2_) | with_reducible exact H | (rw [hy231]; exact H) | exact H
     have Ny231 := Aside0.mk hy231
     clear hy231
     have H' := Aside0.mk H
     clear H
     obtain ⟨Ao7, co7, eo7⟩ := Kd.R_slice HO_0.out
     subst eo7
     have p5 : 0 ≤ (x5_1 : Int) := of_decide_eq_true (by first | (with_reducible assumption) | assumption)
     have q5 : (x5_1 : Int) < ((x0_1.length : Int) : Int) := of_decide_eq_true (by first | (with_reducible assumption) | assumption)
     obtain ⟨go5, co5, eo5, gb5, gl5, cl5, HG5⟩ := Kd.R_form HO_0.out (by omega)
     (first | cases eo5 | (injection eo5 with ea_ en_ ec_; (first | subst ea_ | (injection ea_ with ea_; subst ea_)); subst ec_; clear en_))
     have GB5 := Aside0.mk gb5
     have GG5 := Aside0.mk HG5
     clear gb5 gl5 HG5
     have HMgo5 := Aside0.mk (show (P0_ go5 ∨ w.heap.size ≤ go5) from (HO_0.out.1 _ rfl))
     obtain ⟨ce5, hcl5, hM5, hcc5, hfr5⟩ := Kd.R_elem HO_0.out z59 (x5_1 : Int) p5 q5
     obtain rfl := k59_openM hM5
     have hx5_0 : wr.cell? ⟨go5, (x5_1 : Int).toNat * 2, none⟩ = some (.int .i64 ((rd_T59 x0_1 x5_1).f0)) := hcc5 0 _ rfl
     have hx5_1 : wr.cell? ⟨go5, (x5_1 : Int).toNat * 2 + 1, none⟩ = some (.int .i64 ((rd_T59 x0_1 x5_1).f1)) := hcc5 1 _ rfl
     have hf5_0 : wr.frozen? ⟨go5, (x5_1 : Int).toNat * 2, none⟩ = false := hfr5 0
     have hf5_1 : wr.frozen? ⟨go5, (x5_1 : Int).toNat * 2 + 1, none⟩ = false := hfr5 1
     clear hcl5 hcc5 hfr5 hM5
     replace p5 := eq_true p5
     replace q5 := eq_true q5
     have HX8 := Aside0.mk (show Kd.R k59 59 wr w0.heap.size (fun k_ => (P0_ k_ ∨ w.heap.size ≤ k_)) (.slice (some ⟨go5, 0, none⟩) x0_1.length co7) x0_1 from (by (with_reducible repeat (first | apply Kd.R_alloc | apply Kd.R_drewN | apply Kd.R_drew)); exact HO_0.out))
     obtain ⟨ce8, hcl8, hM8, hcc8, hfr8⟩ := Kd.R_elem HX8.out z59 (x5_1 : Int) (of_decide_eq_true (by first | (with_reducible assumption) | assumption)) (by have h_ : (x5_1 : Int) < ((x0_1.length : Int) : Int) := of_decide_eq_true (by first | (with_reducible assumption) | assumption); first | exact h_ | (have e_ := (Kd.R_reads' HO_0.out).1; omega) | simpa using h_)
     obtain rfl := k59_openM hM8
     have HP8 := Kd.R_seg HX8.out (x5_1 : Int) (of_decide_eq_true (by first | (with_reducible assumption) | assumption)) (by have h_ : (x5_1 : Int) < ((x0_1.length : Int) : Int) := of_decide_eq_true (by first | (with_reducible assumption) | assumption); first | exact h_ | (have e_ := (Kd.R_reads' HO_0.out).1; omega) | simpa using h_) (seg := [.int .i64 x1_1]) (j := 0) hcl8 hcc8 (show 1 ≤ 2 from by decide) (x' := (⟨x1_1, (rd_T59 x0_1 x5_1).f1⟩ : S59)) (k59_mkM _ _ _ (⟨x1_1, (rd_T59 x0_1 x5_1).f1⟩ : S59) ) (fun _ hk => hk)
     have hx8_0 := hcc8 0 _ rfl
     (try simp only [show (k59).sz = 2 from rfl, Nat.mul_one, Nat.add_zero] at hx8_0)
     have hf8_0 := hfr8 0
     (try simp only [show (k59).sz = 2 from rfl, Nat.mul_one, Nat.add_zero] at hf8_0)
     clear hcl8 hcc8 hfr8 hM8
     go_wp2_with (first | ((with_reducible refine gate_store (t := 3) (p := 16) rfl ?_); refine store_event (t := 3) (p := 16) (v := ?vo_w9) (w1 := (wr.setCell ⟨go5, (x5_1 : Int).toNat * 2, none⟩ (.int .i64 x1_1))) ?hg ?ho ?hn ?hr ?_; (case ho => rfl); (case hg => rfl); (case hn => rfl); (case hr => first | (go_simp; done) | (go_simp; rfl)); intro w9 hw; have hg : wr.grownBy w9 (some go5) := (by rw [hw]; exact HP8.2); have hp_ : Kd.R k59 59 w9 w0.heap.size (fun k_ => (P0_ k_ ∨ w.heap.size ≤ k_)) (.slice (some ⟨go5, 0, none⟩) x0_1.length co7) y230 := (by rw [hw, Ny230.out]; exact HP8.1); clear HP8; have n0_ := Aside0.mk (hp_); have n1_ := Aside0.mk ((by rw [hw]; exact below_set (HB.out) GB5.out : Below w0.heap.size w0 w9)); have n2_ := Aside0.mk (Kept.of_grown (S := (fun k_ => P0_ k_)) hg (by repeat (first | (with_reducible first | exact HK.out | apply Kept.alloc | apply Kept.drewN | apply Kept.drew) | exact HK.out)) (fun k_ e_ => (HO_0.out.1 k_ e_))); clear HO_0; clear HB; clear HK; have HO_0 := n0_; have HB := n1_; have HK := n2_; clear n0_ n1_ n2_; clear hg hw hp_; have p6 : 0 ≤ (x5_1 : Int) := of_decide_eq_true (by first | (with_reducible assumption) | assumption); have q6 : (x5_1 : Int) < ((x0_1.length : Int) : Int) := of_decide_eq_true (by first | (with_reducible assumption) | assumption); obtain ⟨ce6, hcl6, hM6, hcc6, hfr6⟩ := Kd.R_elem HO_0.out z59 (x5_1 : Int) p6 q6; obtain rfl := k59_openM hM6; have hx6_0 : w9.cell? ⟨go5, (x5_1 : Int).toNat * 2, none⟩ = some (.int .i64 ((rd_T59 y230 x5_1).f0)) := hcc6 0 _ rfl; have hx6_1 : w9.cell? ⟨go5, (x5_1 : Int).toNat * 2 + 1, none⟩ = some (.int .i64 ((rd_T59 y230 x5_1).f1)) := hcc6 1 _ rfl; have hf6_0 : w9.frozen? ⟨go5, (x5_1 : Int).toNat * 2, none⟩ = false := hfr6 0; have hf6_1 : w9.frozen? ⟨go5, (x5_1 : Int).toNat * 2 + 1, none⟩ = false := hfr6 1; clear hcl6 hcc6 hfr6 hM6; replace p6 := eq_true p6; replace q6 := eq_true q6; have HX10 := Aside0.mk (show Kd.R k59 59 w9 w0.heap.size (fun k_ => (P0_ k_ ∨ w.heap.size ≤ k_)) (.slice (some ⟨go5, 0, none⟩) x0_1.length co7) y230 from (by (with_reducible repeat (first | apply Kd.R_alloc | apply Kd.R_drewN | apply Kd.R_drew)); exact HO_0.out)); obtain ⟨ce10, hcl10, hM10, hcc10, hfr10⟩ := Kd.R_elem HX10.out z59 (x5_1 : Int) (of_decide_eq_true (by first | (with_reducible assumption) | assumption)) (by have h_ : (x5_1 : Int) < ((x0_1.length : Int) : Int) := of_decide_eq_true (by first | (with_reducible assumption) | assumption); first | exact h_ | (have e_ := (Kd.R_reads' HO_0.out).1; omega) | simpa using h_); obtain rfl := k59_openM hM10; have HP10 := Kd.R_seg HX10.out (x5_1 : Int) (of_decide_eq_true (by first | (with_reducible assumption) | assumption)) (by have h_ : (x5_1 : Int) < ((x0_1.length : Int) : Int) := of_decide_eq_true (by first | (with_reducible assumption) | assumption); first | exact h_ | (have e_ := (Kd.R_reads' HO_0.out).1; omega) | simpa using h_) (seg := [.int .i64 (wrap64 (x1_1 + 1))]) (j := 1) hcl10 hcc10 (show 2 ≤ 2 from by decide) (x' := (⟨(rd_T59 y230 x5_1).f0, wrap64 (x1_1 + 1)⟩ : S59)) (k59_mkM _ _ _ (⟨(rd_T59 y230 x5_1).f0, wrap64 (x1_1 + 1)⟩ : S59) ) (fun _ hk => hk); have hx10_1 := hcc10 1 _ rfl; (try simp only [show (k59).sz = 2 from rfl, Nat.mul_one, Nat.add_zero] at hx10_1); have hf10_1 := hfr10 1; (try simp only [show (k59).sz = 2 from rfl, Nat.mul_one, Nat.add_zero] at hf10_1); clear hcl10 hcc10 hfr10 hM10) | ((with_reducible refine gate_store (t := 3) (p := 23) rfl ?_); refine store_event (t := 3) (p := 23) (v := ?vo_w11) (w1 := (w9.setCell ⟨go5, (x5_1 : Int).toNat * 2 + 1, none⟩ (.int .i64 (wrap64 (x1_1 + 1))))) ?hg ?ho ?hn ?hr ?_; (case ho => rfl); (case hg => rfl); (case hn => rfl); (case hr => first | (go_simp; done) | (go_simp; rfl)); intro w11 hw; have hg : w9.grownBy w11 (some go5) := (by rw [hw]; exact HP10.2); have hp_ : Kd.R k59 59 w11 w0.heap.size (fun k_ => (P0_ k_ ∨ w.heap.size ≤ k_)) (.slice (some ⟨go5, 0, none⟩) x0_1.length co7) y231 := (by rw [hw, Ny231.out]; exact HP10.1); clear HP10; have n0_ := Aside0.mk (hp_); have n1_ := Aside0.mk ((by rw [hw]; exact below_set (HB.out) GB5.out : Below w0.heap.size w0 w11)); have n2_ := Aside0.mk (Kept.of_grown (S := (fun k_ => P0_ k_)) hg (by repeat (first | (with_reducible first | exact HK.out | apply Kept.alloc | apply Kept.drewN | apply Kept.drew) | exact HK.out)) (fun k_ e_ => (HO_0.out.1 k_ e_))); clear HO_0; clear HB; clear HK; have HO_0 := n0_; have HB := n1_; have HK := n2_; clear n0_ n1_ n2_; clear hg hw hp_))
     go_roundg k1
     case measure => have := HK1.out; omega
     case rel => exact ⟨(y231), (wrap64 ((wrap64 (x1_1 + 1)) + 1)), (wrap64 (x5_1 + 1)), (by first | rfl | (simp; done) | (simp [*]; done)), (by first | rfl | (simp; done) | (simp [*]; done)), H', ⟨by have := HK1.out; omega⟩, ⟨by (with_reducible repeat (first | apply Kd.R_alloc | apply Kd.R_drewN | apply Kd.R_drew)); exact HO_0.out⟩, ⟨by repeat (first | (with_reducible first | exact HK.out | apply Kept.alloc | apply Kept.drewN | apply Kept.drew) | exact HK.out)⟩, ⟨by repeat (first | (with_reducible first | exact HB.out | apply below_alloc | apply pw_below_drewN | apply below_drew1) | exact HB.out)⟩⟩
    ·rw [if_neg c4] at H
     exact absurd H (by simp)
   ·rw [if_neg c3] at H
    have c3b0 : decide (x5_1 < (x0_1.length : Int)) = false := decide_eq_false c3
    clear c3
    simp only [Option.some.injEq, Prod.mk.injEq] at H
    obtain ⟨rfl, rfl⟩ := H
    obtain ⟨Ao12, co12, eo12⟩ := Kd.R_slice HO_0.out
    subst eo12
    go_wp2
    go_ret
    exact ⟨eqr, by (with_reducible repeat (first | apply Kd.R_alloc | apply Kd.R_drewN | apply Kd.R_drew)); exact HO_0.out, hk HB, by repeat (first | (with_reducible first | exact HK.out | apply Kept.alloc | apply Kept.drewN | apply Kept.drew) | exact HK.out)⟩

end Go.Proofs.Ytggocekjhohhcaa.P

/- Marks in rows of numbers: what markIntSS, heldIntSS, eqIntSS do. -/
namespace Go.Proofs.Ytggocekjhohhcaa.P
set_option linter.unusedVariables false
set_option linter.unusedSimpArgs false
open Go.RowKit Go.Proofs.YtggocekjhohhcaaW.PrintWords Go.Proofs.YtggocekjhohhcaaW.PrintLast Go.Proofs.YtggocekjhohhcaaW.PrintMore
def numL (k : Int) (n : Nat) : List Int := (List.range n).map fun i : Nat => k + (i : Int)
theorem numL_length (k : Int) (n : Nat) : (numL k n).length = n := by unfold numL; rw [List.length_map, List.length_range]
theorem numL_succ (k : Int) (n : Nat) : numL k (n + 1) = numL k n ++ [k + (n : Int)] := by unfold numL; rw [List.range_succ, List.map_append]; rfl
theorem mark_l0 (l : List Int) (k : Int) (hl : l.length ≤ 1000) (h0 : 0 ≤ k) (h1 : k ≤ 2000000) : ∀ m j, l.length - j = m → j ≤ l.length → Ev (fun f => laws_markIntS.l0 f (numL k j ++ l.drop j) (k + (j : Int)) (j : Int)) (k + (l.length : Int), numL k l.length)
  | 0, j, hm, hj => by
    have e : j = l.length := by omega
    subst e
    refine Ev.succ (Ev.const fun f => ?_)
    simp only [laws_markIntS.l0]
    rw [if_neg (by rw [List.length_append, numL_length, List.length_drop]; omega), List.drop_length, List.append_nil]
  | m + 1, j, hm, hj => by
    have hlt : j < l.length := by omega
    have ih := mark_l0 l k hl h0 h1 m (j + 1) (by omega) (by omega)
    refine Ev.succ (Ev.congr ih fun f => ?_)
    simp only [laws_markIntS.l0]
    rw [if_pos (by rw [List.length_append, numL_length, List.length_drop]; omega), if_pos (by omega), Int.toNat_natCast, w64s (by omega), w64n (show _ ≤ k + (j : Int) + 1 by omega) (by omega)]
    congr 1
    · rw [List.set_append_right _ _ (by rw [numL_length]; omega), numL_length, Nat.sub_self, List.drop_eq_getElem_cons hlt, List.set_cons_zero, numL_succ, List.append_assoc]
      rfl
    · omega
theorem mark_eq (l : List Int) (k : Int) (hl : l.length ≤ 1000) (h0 : 0 ≤ k) (h1 : k ≤ 2000000) : Ev (fun f => laws_markIntS.f f l k) (k + (l.length : Int), numL k l.length) := by
  have h := mark_l0 l k hl h0 h1 _ 0 rfl (by omega)
  refine Ev.congr h fun f => ?_
  unfold laws_markIntS.f numL
  simp
theorem held_l0 (n : Nat) (k : Int) (hl : n ≤ 1000) (h0 : 0 ≤ k) (h1 : k ≤ 2000000) : ∀ m j, n - j = m → j ≤ n → Ev (fun f => laws_heldIntS.l0 f (numL k n) (k + (j : Int)) (j : Int)) (k + (n : Int))
  | 0, j, hm, hj => by
    have e : j = n := by omega
    subst e
    refine Ev.succ (Ev.const fun f => ?_)
    simp only [laws_heldIntS.l0]
    rw [if_neg (by rw [numL_length]; omega)]
  | m + 1, j, hm, hj => by
    have ih := held_l0 n k hl h0 h1 m (j + 1) (by omega) (by omega)
    have hg : rd (numL k n) (j : Int) = k + (j : Int) := by
      rw [rd_get (by rw [numL_length]; omega)]
      unfold numL
      rw [List.getElem_map, List.getElem_range]
    refine Ev.succ (Ev.congr ih fun f => ?_)
    simp only [laws_heldIntS.l0]
    rw [if_pos (by rw [numL_length]; omega), if_pos (by omega), hg, if_pos rfl, w64s (by omega), w64n (show _ ≤ k + (j : Int) + 1 by omega) (by omega)]
    congr 1
    omega
theorem held_eq (n : Nat) (k : Int) (hl : n ≤ 1000) (h0 : 0 ≤ k) (h1 : k ≤ 2000000) : Ev (fun f => laws_heldIntS.f f (numL k n) k) (k + (n : Int)) := by
  have h := held_l0 n k hl h0 h1 _ 0 rfl (by omega)
  refine Ev.congr h fun f => ?_
  unfold laws_heldIntS.f
  simp
def sumL (rows : List (List Int)) : Int := (lensOf rows).sum
theorem sumL_take {rows : List (List Int)} {j : Nat} (h : j < rows.length) : sumL (rows.take (j + 1)) = sumL (rows.take j) + (rows[j].length : Int) := by
  unfold sumL
  rw [lensOf_take h, List.sum_append]
  simp
theorem sumL_le {rows : List (List Int)} (hb : ∀ r ∈ rows, r.length ≤ 1000) : ∀ j, j ≤ rows.length → 0 ≤ sumL (rows.take j) ∧ sumL (rows.take j) ≤ 1000 * (j : Int)
  | 0, _ => by simp [sumL, lensOf]
  | j + 1, hj => by
    have ih := sumL_le hb j (by omega)
    have hx := hb _ (List.getElem_mem (show j < rows.length by omega))
    rw [sumL_take (show j < rows.length by omega)]
    omega
def numR (k : Int) (rows : List (List Int)) : List (List Int) := (List.range rows.length).map fun i => numL (k + sumL (rows.take i)) (rows.getD i []).length
theorem numR_length (k : Int) (rows : List (List Int)) : (numR k rows).length = rows.length := by unfold numR; rw [List.length_map, List.length_range]
theorem numR_get (k : Int) (rows : List (List Int)) {i : Nat} (h : i < rows.length) : (numR k rows)[i]'(by rw [numR_length]; exact h) = numL (k + sumL (rows.take i)) rows[i].length := by
  unfold numR
  rw [List.getElem_map, List.getElem_range]
  simp [h]
structure Small (rows : List (List Int)) : Prop where
  cnt : rows.length ≤ 1000
  each : ∀ r ∈ rows, r.length ≤ 1000
theorem held2_l0 (rows : List (List Int)) (hs : Small rows) : ∀ m j, rows.length - j = m → j ≤ rows.length → Ev (fun f => laws_heldIntSS.l0 f (numR 1 rows) (1 + sumL (rows.take j)) (j : Int)) (1 + sumL rows)
  | 0, j, hm, hj => by
    have e : j = rows.length := by omega
    subst e
    refine Ev.succ (Ev.const fun f => ?_)
    simp only [laws_heldIntSS.l0]
    rw [if_neg (by rw [numR_length]; omega), List.take_length]
  | m + 1, j, hm, hj => by
    have hlt : j < rows.length := by omega
    have hr := hs.cnt
    have hx := hs.each _ (List.getElem_mem hlt)
    have hsum := sumL_le hs.each j (by omega)
    have ih := held2_l0 rows hs m (j + 1) (by omega) (by omega)
    rw [sumL_take hlt] at ih
    have hg : rd_L3 (numR 1 rows) (j : Int) = numL (1 + sumL (rows.take j)) rows[j].length := by
      unfold rd_L3
      rw [Int.toNat_natCast, List.getD_eq_getElem?_getD, List.getElem?_eq_getElem (by rw [numR_length]; exact hlt), Option.getD_some, numR_get 1 rows hlt]
    obtain ⟨K, hK⟩ := held_eq rows[j].length (1 + sumL (rows.take j)) hx (by omega) (by omega)
    replace hK : ∀ f, K ≤ f → laws_heldIntS.f f (numL (1 + sumL (rows.take j)) rows[j].length) (1 + sumL (rows.take j)) = some (1 + sumL (rows.take j) + (rows[j].length : Int)) := hK
    refine Ev.succ (Ev.on K ih fun f hf => ?_)
    simp only [laws_heldIntSS.l0]
    rw [if_pos (by rw [numR_length]; omega), if_pos (by omega), hg, hK f hf, w64s (by omega)]
    simp only [Option.bind_some]
    rw [if_neg (by omega), Int.add_assoc]
theorem held2_eq (rows : List (List Int)) (hs : Small rows) : Ev (fun f => laws_heldIntSS.f f (numR 1 rows) 1) (1 + sumL rows) := by
  have h := held2_l0 rows hs _ 0 rfl (by omega)
  refine Ev.congr h fun f => ?_
  unfold laws_heldIntSS.f
  rw [List.take_zero]
  rfl
theorem eq1_l0 (l : List Int) (hl : l.length ≤ 1000) : ∀ m j, l.length - j = m → j ≤ l.length → Ev (fun f => laws_eqIntS.l0 f l l (j : Int)) true
  | 0, j, hm, hj => by
    refine Ev.succ (Ev.const fun f => ?_)
    simp only [laws_eqIntS.l0]
    rw [if_neg (by omega)]
  | m + 1, j, hm, hj => by
    have ih := eq1_l0 l hl m (j + 1) (by omega) (by omega)
    refine Ev.succ (Ev.congr ih fun f => ?_)
    simp only [laws_eqIntS.l0]
    rw [if_pos (by omega), if_pos (by omega), if_pos (by omega), if_pos trivial, w64s (by omega)]
theorem eq1_eq (l : List Int) (hl : l.length ≤ 1000) : Ev (fun f => laws_eqIntS.f f l l) true := by
  refine Ev.congr (eq1_l0 l hl _ 0 rfl (by omega)) fun f => ?_
  unfold laws_eqIntS.f
  rw [if_pos rfl]
  rfl
theorem eq2_l0 (rows : List (List Int)) (hs : Small rows) : ∀ m j, rows.length - j = m → j ≤ rows.length → Ev (fun f => laws_eqIntSS.l0 f rows rows (j : Int)) true
  | 0, j, hm, hj => by
    refine Ev.succ (Ev.const fun f => ?_)
    simp only [laws_eqIntSS.l0]
    rw [if_neg (by omega)]
  | m + 1, j, hm, hj => by
    have hlt : j < rows.length := by omega
    have hr := hs.cnt
    have ih := eq2_l0 rows hs m (j + 1) (by omega) (by omega)
    have hg : rd_L3 rows (j : Int) = rows[j] := by unfold rd_L3; rw [Int.toNat_natCast]; simp [hlt]
    obtain ⟨K, hK⟩ := eq1_eq rows[j] (hs.each _ (List.getElem_mem hlt))
    replace hK : ∀ f, K ≤ f → laws_eqIntS.f f rows[j] rows[j] = some true := hK
    refine Ev.succ (Ev.on K ih fun f hf => ?_)
    simp only [laws_eqIntSS.l0]
    rw [if_pos (by omega), if_pos (by omega), if_pos (by omega), hg, hK f hf, w64s (by omega)]
    rfl
theorem eq2_eq (rows : List (List Int)) (hs : Small rows) : Ev (fun f => laws_eqIntSS.f f rows rows) true := by
  refine Ev.congr (eq2_l0 rows hs _ 0 rfl (by omega)) fun f => ?_
  unfold laws_eqIntSS.f
  rw [if_pos rfl]
  rfl
theorem markD_l0 (N : Nat) (hN : N ≤ 2000000) : ∀ m j (l : List Dia) (k : Int), l.length = N → N - j = m → j ≤ N → 0 ≤ k → k ≤ 10 + 2 * (j : Int) → ∃ r1 r2, 0 ≤ r1 ∧ Ev (fun f => laws_markDiagonalS.l0 f l k (j : Int)) (r1, r2)
  | 0, j, l, k, hl, hm, hj, h0, h1 => by
    refine ⟨k, l, h0, Ev.succ (Ev.const fun f => ?_)⟩
    simp only [laws_markDiagonalS.l0]
    rw [if_neg (by omega)]
  | m + 1, j, l, k, hl, hm, hj, h0, h1 => by
    obtain ⟨r1, r2, hr, hE⟩ := markD_l0 N hN m (j + 1) ((l.set (j : Int).toNat (⟨k, (rd_T59 l (j : Int)).f1⟩ : Dia)).set (j : Int).toNat ⟨(rd_T59 (l.set (j : Int).toNat (⟨k, (rd_T59 l (j : Int)).f1⟩ : Dia)) (j : Int)).f0, wrap64 (k + 1)⟩) (wrap64 (wrap64 (k + 1) + 1)) (by rw [List.length_set, List.length_set]; exact hl) (by omega) (by omega) (by rw [w64n (show _ ≤ k + 1 by omega) (by omega), w64n (by omega) (by omega)]; omega) (by rw [w64n (show _ ≤ k + 1 by omega) (by omega), w64n (by omega) (by omega)]; omega)
    refine ⟨r1, r2, hr, Ev.succ (Ev.congr hE fun f => ?_)⟩
    simp only [laws_markDiagonalS.l0]
    rw [if_pos (by omega), if_pos (by omega), w64s (by omega)]
    rfl
theorem markD_eq (l : List Dia) (hl : l.length ≤ 2000000) : ∃ r1 r2, 0 ≤ r1 ∧ Ev (fun f => laws_markDiagonalS.f f l 1) (r1, r2) := by
  obtain ⟨r1, r2, hr, hE⟩ := markD_l0 l.length hl _ 0 l 1 rfl rfl (by omega) (by omega) (by omega)
  exact ⟨r1, r2, hr, Ev.congr hE fun f => rfl⟩
set_option maxHeartbeats 4000000 in
set_option maxRecDepth 100000 in
theorem laws_markIntSS.walk (A : Option Addr) (c : Nat) (rows : List (List Int)) (w0 w : World) (ok : Nat → Prop) (hS : Kd.S kRow 34 w w0.heap.size ok (.slice A rows.length c) rows) (hB : Below w0.heap.size w0 w) (hs : Small rows) :
    Calls Try.prog 17 #[.slice A rows.length c, .int .i64 1] w fun e w' => e = .returned (.int .i64 (1 + sumL rows)) ∧ Kd.S kRow 34 w' w0.heap.size ok (.slice A rows.length c) (numR 1 rows) ∧ Below w0.heap.size w0 w' ∧ Kept w w' ok := by
  have HS := Aside0.mk hS
  have HB := Aside0.mk hB
  have HSM := Aside0.mk hs
  have hr := hs.cnt
  clear hS hB hs
  have hu24 := Try.underlying24
  have hu34 := Try.underlying34
  have hu3 := Try.underlying3
  go_enter Try.func17, Try.ntmps17
  go_wp2
  go_loopg [1, 5] rows.length (fun gg v1 v5 wr => ∃ i : Nat, i ≤ rows.length ∧ rows.length - i ≤ gg ∧ v1 = .int .i64 (1 + sumL (rows.take i)) ∧ v5 = .int .i64 i ∧ Aside0 (Kd.S kRow 34 wr w0.heap.size ok (.slice A rows.length c) ((numR 1 rows).take i ++ rows.drop i)) ∧ Aside0 (Below w0.heap.size w0 wr) ∧ Aside0 (Kept w wr ok))
  case atStart => exact ⟨0, Nat.zero_le _, by omega, by simp [sumL, lensOf], rfl, ⟨by rw [List.take_zero, List.drop_zero, List.nil_append]; exact HS.out⟩, HB, ⟨Kept.refl _ _⟩⟩
  case round =>
    obtain ⟨i, hi, hg, rfl, rfl, HSi, HBi, HKi⟩ := hrel
    by_cases hlt : i < rows.length
    · have hltz : (i : Int) < (rows.length : Int) := by omega
      obtain ⟨g7, cap7, e7, hbg7, hlg7, cells7, hcb7⟩ := Kd.S_form HSi.out (by rw [List.length_append, List.length_take, List.length_drop, numR_length]; omega)
      injection e7 with e7a e7b e7c
      subst e7a e7c
      obtain ⟨oki, cm, hcl, hM, hcc, hoki, hup⟩ := Kd.S_borrow HSi.out ([] : List Int) (i : Int) (by omega) (by omega)
      obtain ⟨vm, rfl, hR⟩ := hM
      have hcell : wr.cell? ⟨g7, i, none⟩ = some vm := by
        have h := hcc 0 vm rfl
        rw [add_at, Nat.zero_add, show ((i : Int).toNat * kRow.sz + 0) = i from by show (i : Int).toNat * 1 + 0 = i; omega] at h
        exact h
      rw [show ((numR 1 rows).take i ++ rows.drop i).getD (i : Int).toNat [] = rows[i] from by
        rw [Int.toNat_natCast, List.getD_eq_getElem?_getD, List.getElem?_append_right (by rw [List.length_take, numR_length]; omega), List.length_take, numR_length, Nat.min_eq_left (by omega), Nat.sub_self, List.getElem?_drop, Nat.add_zero, List.getElem?_eq_getElem hlt]
        rfl] at hR
      obtain ⟨Am, cmm, rfl⟩ := Kd.R_slice hR
      have hsum := sumL_le HSM.out.each i (by omega)
      obtain ⟨f, hf⟩ := (mark_eq rows[i] (1 + sumL (rows.take i)) (HSM.out.each _ (List.getElem_mem hlt)) (by omega) (by omega)).at
      have HC := Aside0.mk (laws_markIntS.calls f (fun k => some k = (Value.slice Am rows[i].length cmm).ownBlock) (.slice Am rows[i].length cmm) rows[i] (1 + sumL (rows.take i)) _ _ w0 wr HBi.out (Kd.R_tight rfl hR) hf)
      have HUP := Aside0.mk (fun (w1 : World) (hb : Below w0.heap.size w0 w1) (hk : Kept wr w1 (fun k => some k = (Value.slice Am rows[i].length cmm).ownBlock)) (hr : Kd.R (Kd.int .i64) 3 w1 w0.heap.size (fun k_ => some k_ = (Value.slice Am rows[i].length cmm).ownBlock ∨ wr.heap.size ≤ k_) (.slice Am rows[i].length cmm) (numL (1 + sumL (rows.take i)) rows[i].length)) => show Kd.S kRow 34 w1 w0.heap.size ok (.slice (some ⟨g7, 0, none⟩) rows.length c) ((numR 1 rows).take (i + 1) ++ rows.drop (i + 1)) ∧ Kept w w1 ok from by
        have h1 := hup (w1 := w1) (row := (Value.slice Am rows[i].length cmm).ownBlock) (x' := numL (1 + sumL (rows.take i)) rows[i].length) ⟨hb.os.trans HBi.out.os.symm, hb.tape.trans HBi.out.tape.symm, hb.output.trans HBi.out.output.symm, hk.1, fun k hk2 hne => hk.2 k hk2 hne⟩ (fun k hk2 => hR.1 k hk2) ⟨_, rfl, Kd.R_mono (Kd.R_tight rfl hr) (fun k hk2 => hR.1 k hk2.symm)⟩
        refine ⟨?_, HKi.out.then_ hk fun k hk2 => Or.inl (hoki k (hR.1 k hk2.symm)).1⟩
        rw [Int.toNat_natCast, List.set_append_right _ _ (by rw [List.length_take, numR_length]; omega), List.length_take, numR_length, Nat.min_eq_left (by omega), Nat.sub_self, List.drop_eq_getElem_cons hlt, List.set_cons_zero] at h1
        rw [List.take_succ_eq_append_getElem (by rw [numR_length]; exact hlt), numR_get 1 rows hlt, List.append_assoc]
        exact h1)
      have HT := Aside0.mk (sumL_take hlt)
      clear hcl hcc hoki hup hR hf hcb7 e7b
      go_wp2_with (go_at_call 26; refine HC.out.mono ?_; rintro e w17 ⟨rfl, ho, hb, hk⟩; have H17 := Aside0.mk (HUP.out w17 hb hk ho); have B17 := Aside0.mk hb; clear ho hb hk)
      go_roundg (rows.length - (i + 1))
      case measure => omega
      case rel => exact ⟨i + 1, by omega, by omega, by rw [HT.out, Int.add_assoc], by go_num, ⟨H17.out.1⟩, B17, ⟨H17.out.2⟩⟩
    · have hltz : ¬ (i : Int) < (rows.length : Int) := by omega
      have e : i = rows.length := by omega
      subst e
      rw [List.take_length]
      have HSj := Aside0.mk (show Kd.S kRow 34 wr w0.heap.size ok (.slice A rows.length c) (numR 1 rows) from by
        have h := HSi.out
        rw [List.drop_length, List.append_nil, List.take_of_length_le (by rw [numR_length]; omega)] at h
        exact h)
      go_wp2
      go_ret
      exact ⟨rfl, HSj.out, HBi.out, HKi.out⟩
end Go.Proofs.Ytggocekjhohhcaa.P

-- By a program of this session.
namespace Go.Proofs.Ytggocekjhohhcaa.P
open Go.RowKit Go.Proofs.YtggocekjhohhcaaW.PrintWords Go.Proofs.YtggocekjhohhcaaW.PrintLast Go.Proofs.YtggocekjhohhcaaW.PrintMore
attribute [local go_sem] max2_int min2_int max_two min_two max_three min_three max_four min_four
set_option linter.unusedVariables false
set_option linter.unusedSimpArgs false

/-! ### spec_PiecesOfCut: function 11 -/
def spec_PiecesOfCut.f (k : Nat) (a0 : Int) (l1 : List (S59)) : Option ((List (List Int)) × Bool) := (spec_cuGood.f k a0 l1).bind fun t165 => (if t165 = true then ((spec_cuPieces.f k a0 l1).bind fun t166 => (some (t166, true))) else (some (([] : List (List Int)), false)))
theorem spec_PiecesOfCut.mono : ∀ a0 a1 k, LeO (spec_PiecesOfCut.f k a0 a1) (spec_PiecesOfCut.f (k + 1) a0 a1) := by
 intro a0 a1 k
 unfold spec_PiecesOfCut.f
 repeat' first
   | (with_reducible exact spec_cuGood.mono _ _ _)
   | (with_reducible exact spec_cuPieces.mono _ _ _)
   | (with_reducible exact LeO.refl _)
   | (with_reducible exact LeO.none _)
   | (with_reducible refine LeO.ite ?_ ?_)
   | (with_reducible refine LeO.bind ?_ (fun _ => ?_))
   | apply spec_cuGood.mono
   | apply spec_cuPieces.mono
   | apply LeO.none
   | refine LeO.ite ?_ ?_
   | refine LeO.bind ?_ (fun _ => ?_)
set_option maxHeartbeats 8000000 in
set_option maxRecDepth 100000 in
theorem spec_PiecesOfCut.calls (k : Nat) (a0 : Int) (A1 : Option Addr) (c1 : Nat) (l1 : List (S59)) (r1 : List (List Int)) (r2 : Bool) (w : World) (hr1 : Kd.C k59 w A1 l1.length l1) (hc1 : l1.length ≤ c1) (h : spec_PiecesOfCut.f k a0 l1 = some (r1, r2)) :
  Calls Try.prog 11 #[.int .i64 a0, .slice A1 l1.length c1] w fun e w' => ∃ v0_ : Value, e = .returned (.tuple #[v0_, .bool r2]) ∧ Kd.S (Kd.slice 3 (Kd.int .i64)) 34 w' w.heap.size (fun _ => True) v0_ r1 ∧ Below w.heap.size w w' := by
 have HR1 := Aside0.mk hr1
 have HC1 := Aside0.mk hc1
 clear hr1 hc1
 have HB := Aside0.mk (Below.refl w.heap.size w)
 have H := h
 clear h
 unfold spec_PiecesOfCut.f at H
 replace H := Option.bind_eq_some_iff.mp H
 obtain ⟨t165, A30, H⟩ := H
 have A3 := Aside0.mk A30
 clear A30
 by_cases c4 : t165 = true
 ·subst c4
  rw [if_pos rfl] at H
  replace H := Option.bind_eq_some_iff.mp H
  obtain ⟨t166, A50, H⟩ := H
  have A5 := Aside0.mk A50
  clear A50
  simp only [Option.some.injEq, Prod.mk.injEq] at H
  obtain ⟨rfl, rfl⟩ := H
  go_enter Try.func11, Try.ntmps11
  go_wp2_with (first | ((with_reducible refine gate_callee (f := 39) rfl ?_); refine gof_ (some 8) Try.func39 #[.int .i64 a0, .slice A1 l1.length c1] ?_; (with_reducible refine (spec_cuGood.calls k a0 _ _ l1 true _ ?side1 ?side2 A3.out).mono ?_); (case side1 => repeat (first | exact HR1.out | (with_reducible refine Kd.C_alloc ?_ _) | (with_reducible refine Kd.C_drewN ?_ _) | (with_reducible refine Kd.C_drew ?_))); (case side2 => exact HC1.out); rintro e w6 ⟨rfl, hb⟩; refine ⟨_, rfl, ?_⟩; replace HB := hh HB hb; clear hb) | ((with_reducible refine gate_callee (f := 40) rfl ?_); refine gof_ (some 12) Try.func40 #[.int .i64 a0, .slice A1 l1.length c1] ?_; (with_reducible refine (spec_cuPieces.calls k a0 _ _ l1 t166 _ ?side1 ?side2 A5.out).mono ?_); (case side1 => repeat (first | exact (Kd.C_below HR1.out HB.out) | (with_reducible refine Kd.C_alloc ?_ _) | (with_reducible refine Kd.C_drewN ?_ _) | (with_reducible refine Kd.C_drew ?_))); (case side2 => exact HC1.out); rintro e w7 ⟨v167, rfl, ho0, hb⟩; refine ⟨_, rfl, ?_⟩; have HO168 := Aside0.mk (Kd.S_lower ho0 (below_size (hk HB))); replace HB := hh HB hb; (try clear hb); (try clear hb2); (try clear hk); (try clear hi); (try clear ho0)))
  go_ret2
  exact ⟨_, eqr, by (with_reducible repeat (first | apply Kd.S_alloc | apply Kd.S_drewN | apply Kd.S_drew)); exact HO168.out, hk HB⟩
 ·replace c4 := Bool.eq_false_iff.mpr c4
  subst c4
  rw [if_neg (show ¬ (false = true) by decide)] at H
  simp only [Option.some.injEq, Prod.mk.injEq] at H
  obtain ⟨rfl, rfl⟩ := H
  go_enter Try.func11, Try.ntmps11
  go_wp2_with (first | ((with_reducible refine gate_callee (f := 39) rfl ?_); refine gof_ (some 8) Try.func39 #[.int .i64 a0, .slice A1 l1.length c1] ?_; (with_reducible refine (spec_cuGood.calls k a0 _ _ l1 false _ ?side1 ?side2 A3.out).mono ?_); (case side1 => repeat (first | exact HR1.out | (with_reducible refine Kd.C_alloc ?_ _) | (with_reducible refine Kd.C_drewN ?_ _) | (with_reducible refine Kd.C_drew ?_))); (case side2 => exact HC1.out); rintro e w8 ⟨rfl, hb⟩; refine ⟨_, rfl, ?_⟩; replace HB := hh HB hb; clear hb))
  go_ret2
  exact ⟨_, eqr, by first | exact Kd.S_nil _ _ _ _ _ | exact Kd.N_nil _ _ _ _ _ | exact Kd.V_nil _ _ _ _ _ | exact Kd.Q_nil _ _ _ _ _ | exact Kd.R_nil _ _ _ _ _, hk HB⟩

end Go.Proofs.Ytggocekjhohhcaa.P

-- By a program of this session.
namespace Go.Proofs.Ytggocekjhohhcaa.P
open Go.RowKit Go.Proofs.YtggocekjhohhcaaW.PrintWords Go.Proofs.YtggocekjhohhcaaW.PrintLast Go.Proofs.YtggocekjhohhcaaW.PrintMore
attribute [local go_sem] max2_int min2_int max_two min_two max_three min_three max_four min_four
set_option linter.unusedVariables false
set_option linter.unusedSimpArgs false

/-! ### impl_PiecesOfCut: function 13 -/
def impl_PiecesOfCut.f (k : Nat) (a0 : Int) (l1 : List (S59)) : Option ((List (List Int)) × Bool) := (impl_IsCut.f k a0 l1).bind fun t216 => (if t216 = true then ((impl_pieces.f a0 l1).bind fun t217 => (some (t217, true))) else (some (([] : List (List Int)), false)))
theorem impl_PiecesOfCut.mono : ∀ a0 a1 k, LeO (impl_PiecesOfCut.f k a0 a1) (impl_PiecesOfCut.f (k + 1) a0 a1) := by
 intro a0 a1 k
 unfold impl_PiecesOfCut.f
 repeat' first
   | (with_reducible exact impl_IsCut.mono _ _ _)
   | (with_reducible exact LeO.refl _)
   | (with_reducible exact LeO.none _)
   | (with_reducible refine LeO.ite ?_ ?_)
   | (with_reducible refine LeO.bind ?_ (fun _ => ?_))
   | apply impl_IsCut.mono
   | apply LeO.none
   | refine LeO.ite ?_ ?_
   | refine LeO.bind ?_ (fun _ => ?_)
set_option maxHeartbeats 8000000 in
set_option maxRecDepth 100000 in
theorem impl_PiecesOfCut.calls (k : Nat) (a0 : Int) (A1 : Option Addr) (c1 : Nat) (l1 : List (S59)) (r1 : List (List Int)) (r2 : Bool) (w : World) (hr1 : Kd.C k59 w A1 l1.length l1) (hc1 : l1.length ≤ c1) (h : impl_PiecesOfCut.f k a0 l1 = some (r1, r2)) :
  Calls Try.prog 13 #[.int .i64 a0, .slice A1 l1.length c1] w fun e w' => ∃ v0_ : Value, e = .returned (.tuple #[v0_, .bool r2]) ∧ Kd.S (Kd.slice 3 (Kd.int .i64)) 34 w' w.heap.size (fun _ => True) v0_ r1 ∧ Below w.heap.size w w' := by
 have HR1 := Aside0.mk hr1
 have HC1 := Aside0.mk hc1
 clear hr1 hc1
 have HB := Aside0.mk (Below.refl w.heap.size w)
 have H : ((impl_IsCut.f k a0 l1).bind fun t216 => (if t216 = true then ((impl_pieces.f a0 l1).bind fun t217 => (some (t217, true))) else (some (([] : List (List Int)), false)))) = some (r1, r2) := h
 clear h
 replace H := Option.bind_eq_some_iff.mp H
 obtain ⟨t216, A30, H⟩ := H
 have A3 := Aside0.mk A30
 clear A30
 by_cases c4 : t216 = true
 ·subst c4
  rw [if_pos rfl] at H
  replace H := Option.bind_eq_some_iff.mp H
  obtain ⟨t217, A50, H⟩ := H
  have A5 := Aside0.mk A50
  clear A50
  simp only [Option.some.injEq, Prod.mk.injEq] at H
  obtain ⟨rfl, rfl⟩ := H
  go_enter Try.func13, Try.ntmps13
  go_wp2_with (first | ((with_reducible refine gate_callee (f := 42) rfl ?_); refine gof_ (some 8) Try.func42 #[.int .i64 a0, .slice A1 l1.length c1] ?_; (with_reducible refine (impl_IsCut.calls k a0 _ _ l1 true _ ?side1 ?side2 A3.out).mono ?_); (case side1 => repeat (first | exact HR1.out | (with_reducible refine Kd.C_alloc ?_ _) | (with_reducible refine Kd.C_drewN ?_ _) | (with_reducible refine Kd.C_drew ?_))); (case side2 => exact HC1.out); rintro e w6 ⟨rfl, hb⟩; refine ⟨_, rfl, ?_⟩; replace HB := hh HB hb; clear hb) | ((with_reducible refine gate_callee (f := 43) rfl ?_); refine gof_ (some 12) Try.func43 #[.int .i64 a0, .slice A1 l1.length c1] ?_; (with_reducible refine (impl_pieces.calls a0 _ _ l1 t217 _ ?side1 ?side2 A5.out).mono ?_); (case side1 => repeat (first | exact (Kd.C_below HR1.out HB.out) | (with_reducible refine Kd.C_alloc ?_ _) | (with_reducible refine Kd.C_drewN ?_ _) | (with_reducible refine Kd.C_drew ?_))); (case side2 => exact HC1.out); rintro e w7 ⟨v218, rfl, ho0, hb⟩; refine ⟨_, rfl, ?_⟩; have HO219 := Aside0.mk (Kd.S_lower ho0 (below_size (hk HB))); replace HB := hh HB hb; (try clear hb); (try clear hb2); (try clear hk); (try clear hi); (try clear ho0)))
  go_ret2
  exact ⟨_, eqr, by (with_reducible repeat (first | apply Kd.S_alloc | apply Kd.S_drewN | apply Kd.S_drew)); exact HO219.out, hk HB⟩
 ·replace c4 := Bool.eq_false_iff.mpr c4
  subst c4
  rw [if_neg (show ¬ (false = true) by decide)] at H
  simp only [Option.some.injEq, Prod.mk.injEq] at H
  obtain ⟨rfl, rfl⟩ := H
  go_enter Try.func13, Try.ntmps13
  go_wp2_with (first | ((with_reducible refine gate_callee (f := 42) rfl ?_); refine gof_ (some 8) Try.func42 #[.int .i64 a0, .slice A1 l1.length c1] ?_; (with_reducible refine (impl_IsCut.calls k a0 _ _ l1 false _ ?side1 ?side2 A3.out).mono ?_); (case side1 => repeat (first | exact HR1.out | (with_reducible refine Kd.C_alloc ?_ _) | (with_reducible refine Kd.C_drewN ?_ _) | (with_reducible refine Kd.C_drew ?_))); (case side2 => exact HC1.out); rintro e w8 ⟨rfl, hb⟩; refine ⟨_, rfl, ?_⟩; replace HB := hh HB hb; clear hb))
  go_ret2
  exact ⟨_, eqr, by first | exact Kd.S_nil _ _ _ _ _ | exact Kd.N_nil _ _ _ _ _ | exact Kd.V_nil _ _ _ _ _ | exact Kd.Q_nil _ _ _ _ _ | exact Kd.R_nil _ _ _ _ _, hk HB⟩

end Go.Proofs.Ytggocekjhohhcaa.P

/- FnExactPiecesOfCut: what both sides answer, and the law's own walk. -/
namespace Go.Proofs.Ytggocekjhohhcaa.P
set_option linter.unusedVariables false
set_option linter.unusedSimpArgs false
open Go.RowKit Go.Proofs.YtggocekjhohhcaaW.PrintWords Go.Proofs.YtggocekjhohhcaaW.PrintLast Go.Proofs.YtggocekjhohhcaaW.PrintMore
def piecesOut (n : Int) (ds : List Dia) : List (List Int) × Bool := if goodB n ds = true then (Lex.sort (cutAll n ds), true) else ([], false)
theorem spec_Pieces_eq (n : Int) (ds : List Dia) (hl : ds.length ≤ 2000000) : Ev (fun k => spec_PiecesOfCut.f k n ds) (piecesOut n ds) := by
  unfold spec_PiecesOfCut.f piecesOut
  refine Ev.bind (g := fun k t165 => if t165 = true then ((spec_cuPieces.f k n ds).bind fun t166 => some (t166, true)) else some (([] : List (List Int)), false)) (cuGood_eq n ds hl) ?_
  by_cases hg : goodB n ds = true
  · have h := goodB_good hg
    have h2 := h.hi
    have h3 := h.few
    refine Ev.congr (Ev.val (Ev.bind (g := fun _ t166 => some (t166, true)) (cuPieces_eq h.cut h.lo h.hi (by omega)) (Ev.const fun _ => rfl)) (by rw [if_pos hg])) fun k => ?_
    rw [if_pos hg]
  · exact Ev.const fun k => by rw [if_neg hg, if_neg hg]
theorem impl_Pieces_eq (n : Int) (ds : List Dia) (hl : ds.length ≤ 2000000) : Ev (fun k => impl_PiecesOfCut.f k n ds) (piecesOut n ds) := by
  unfold impl_PiecesOfCut.f piecesOut
  refine Ev.bind (g := fun k t216 => if t216 = true then ((impl_pieces.f n ds).bind fun t217 => some (t217, true)) else some (([] : List (List Int)), false)) (IsCut_eq n ds hl) ?_
  by_cases hg : goodB n ds = true
  · refine Ev.const fun k => ?_
    rw [if_pos hg, if_pos hg]
    unfold impl_pieces.f
    rw [if_pos (goodB_good hg).args]
    rfl
  · exact Ev.const fun k => by rw [if_neg hg, if_neg hg]
theorem piecesOut_small (n : Int) (ds : List Dia) : Small (piecesOut n ds).1 := by
  unfold piecesOut
  by_cases hg : goodB n ds = true
  · rw [if_pos hg]
    have h := goodB_good hg
    have h1 := h.lo
    have h2 := h.hi
    have h3 := h.few
    have hp := Lex.sort_perm (cutAll n ds)
    have hll := cutAll_length n ds
    refine ⟨?_, fun r hr => ?_⟩
    · show (Lex.sort (cutAll n ds)).length ≤ 1000
      rw [hp.length_eq]; omega
    · obtain ⟨q, rfl⟩ := Int.eq_ofNat_of_zero_le (show 0 ≤ n by omega)
      have := cutAll_len q ds r (hp.mem_iff.1 hr)
      omega
  · rw [if_neg hg]
    exact ⟨by simp, fun r hr => by cases hr⟩
/-- What stands while the law runs: both sides' rows and the argument, each in blocks of its own. -/
structure St (w wc : World) (n1 n2 n3 : Nat) (v6 v8 v9 : Value) (rows rows9 : List (List Int)) (ds : List Dia) : Prop where
  below : Below w.heap.size w wc
  s6 : Kd.S kRow 34 wc w.heap.size (fun k => k < n1) v6 rows
  r8 : Kd.R k59 59 wc w.heap.size (fun k => n1 ≤ k ∧ k < n2) v8 ds
  s9 : Kd.S kRow 34 wc w.heap.size (fun k => n2 ≤ k ∧ k < n3) v9 rows9
  l12 : n1 ≤ n2
  l23 : n2 ≤ n3
  l3 : n3 ≤ wc.heap.size
section
variable {w wc wd : World} {n1 n2 n3 : Nat} {v6 v8 v9 : Value} {rows rows9 rows9' : List (List Int)} {ds ds' : List Dia}
theorem St.step (h : St w wc n1 n2 n3 v6 v8 v9 rows rows9 ds) (hb : Below wc.heap.size wc wd) : St w wd n1 n2 n3 v6 v8 v9 rows rows9 ds :=
  ⟨h.below.trans (hb.mono h.below.size), Kd.S_below h.s6 hb, Kd.R_below h.r8 hb, Kd.S_below h.s9 hb, h.l12, h.l23, Nat.le_trans h.l3 hb.size⟩
theorem St.mark8 (h : St w wc n1 n2 n3 v6 v8 v9 rows rows9 ds) (hb : Below w.heap.size w wd) (hk : Kept wc wd (fun k => some k = v8.ownBlock)) (hr : Kd.R k59 59 wd w.heap.size (fun k => some k = v8.ownBlock ∨ wc.heap.size ≤ k) v8 ds') : St w wd n1 n2 n3 v6 v8 v9 rows rows9 ds' :=
  ⟨hb, Kd.S_step h.s6 (fun k hk2 hlt => hk.2 k hlt fun e => by have := (h.r8.1 k e.symm).1; omega), Kd.R_mono (Kd.R_tight rfl hr) (fun k hk2 => h.r8.1 k hk2.symm), Kd.S_step h.s9 (fun k hk2 hlt => hk.2 k hlt fun e => by have := (h.r8.1 k e.symm).2; omega), h.l12, h.l23, Nat.le_trans h.l3 hk.1⟩
theorem St.mark9 (h : St w wc n1 n2 n3 v6 v8 v9 rows rows9 ds) (hb : Below w.heap.size w wd) (hk : Kept wc wd (fun k => n2 ≤ k ∧ k < n3)) (hs : Kd.S kRow 34 wd w.heap.size (fun k => n2 ≤ k ∧ k < n3) v9 rows9') : St w wd n1 n2 n3 v6 v8 v9 rows rows9' ds :=
  ⟨hb, Kd.S_step h.s6 (fun k hk2 hlt => hk.2 k hlt fun e => by have := h.l12; omega), Kd.R_step h.r8 (fun k hk2 hlt => hk.2 k hlt fun e => by omega), hs, h.l12, h.l23, Nat.le_trans h.l3 hk.1⟩
end
theorem eq2_call {w : World} {b1 b2 : Nat} {o1 o2 : Nat → Prop} {A A' : Option Addr} {c c' : Nat} {rows : List (List Int)} (h1 : Kd.S kRow 34 w b1 o1 (.slice A rows.length c) rows) (h2 : Kd.S kRow 34 w b2 o2 (.slice A' rows.length c') rows) (hs : Small rows) :
    Calls Try.prog 14 #[.slice A rows.length c, .slice A' rows.length c'] w fun e w' => e = .returned (.bool true) ∧ Below w.heap.size w w' := by
  obtain ⟨k, hk⟩ := (eq2_eq rows hs).at
  exact (laws_eqIntSS.calls k A c rows A' c' rows true w (Kd.S_reads' h1).2.2 (Kd.S_reads' h1).2.1 (Kd.S_reads' h2).2.2 (Kd.S_reads' h2).2.1 hk).mono fun e w' h => ⟨h.1, by obtain ⟨nd, rfl⟩ := h.2; exact pw_below_drewN (Below.refl _ _) nd⟩
theorem held2_call {w : World} {b1 : Nat} {o1 : Nat → Prop} {A : Option Addr} {c : Nat} {rows : List (List Int)} (h1 : Kd.S kRow 34 w b1 o1 (.slice A rows.length c) (numR 1 rows)) (hs : Small rows) :
    Calls Try.prog 18 #[.slice A rows.length c, .int .i64 1] w fun e w' => e = .returned (.int .i64 (1 + sumL rows)) ∧ Below w.heap.size w w' := by
  obtain ⟨k, hk⟩ := (held2_eq rows hs).at
  have h := laws_heldIntSS.calls k A c (numR 1 rows) 1 _ w (Kd.S_reads' h1).2.2 (by rw [numR_length]; exact (Kd.S_reads' h1).2.1) hk
  rw [numR_length] at h
  exact h.mono fun e w' h => ⟨h.1, by obtain ⟨nd, rfl⟩ := h.2; exact pw_below_drewN (Below.refl _ _) nd⟩
theorem toS_call (l : List LDia) (ds : List Dia) (hds : ds = l.map toD) (hl : l.length ≤ 2000000) {w : World} {A : Option Addr} {c : Nat} (hr : Kd.C k61 w A l.length l) (hc : l.length ≤ c) :
    Calls Try.prog 12 #[.slice A l.length c] w fun e w' => ∃ A' c', e = .returned (.slice A' ds.length c') ∧ Kd.R k59 59 w' w.heap.size (fun k => w.heap.size ≤ k ∧ k < w'.heap.size) (.slice A' ds.length c') ds ∧ Below w.heap.size w w' := by
  obtain ⟨k, hk⟩ := (toS_eq l hl).at
  rw [← hds] at hk
  refine (laws_toDiagonalS.calls k A c l _ w hr hc hk).mono ?_
  rintro e w' ⟨v, rfl, h, hb⟩
  obtain ⟨A', c', rfl⟩ := Kd.R_slice h
  exact ⟨A', c', rfl, Kd.R_mono (Kd.R_bound h) (fun k hk => ⟨hk.2.1, hk.2.2.1⟩), hb⟩
theorem specP_call (n : Int) (ds : List Dia) (rows : List (List Int)) (b0 : Bool) (hp : piecesOut n ds = (rows, b0)) (hl : ds.length ≤ 2000000) {w : World} {b : Nat} {o : Nat → Prop} {A : Option Addr} {c : Nat} (hr : Kd.R k59 59 w b o (.slice A ds.length c) ds) :
    Calls Try.prog 11 #[.int .i64 n, .slice A ds.length c] w fun e w' => ∃ A' c', e = .returned (.tuple #[.slice A' rows.length c', .bool b0]) ∧ Kd.S kRow 34 w' w.heap.size (fun k => w.heap.size ≤ k ∧ k < w'.heap.size) (.slice A' rows.length c') rows ∧ Below w.heap.size w w' := by
  obtain ⟨k, hk⟩ := (spec_Pieces_eq n ds hl).at
  rw [hp] at hk
  refine (spec_PiecesOfCut.calls k n A c ds rows b0 w (Kd.R_reads' hr).2.2 (Kd.R_reads' hr).2.1 hk).mono ?_
  rintro e w' ⟨v, rfl, h, hb⟩
  obtain ⟨A', c', rfl⟩ := Kd.S_slice h
  exact ⟨A', c', rfl, Kd.S_mono (Kd.S_bound h) (fun k hk => ⟨hk.2.1, hk.2.2.1⟩), hb⟩
theorem implP_call (n : Int) (ds : List Dia) (rows : List (List Int)) (b0 : Bool) (hp : piecesOut n ds = (rows, b0)) (hl : ds.length ≤ 2000000) {w : World} {b : Nat} {o : Nat → Prop} {A : Option Addr} {c : Nat} (hr : Kd.R k59 59 w b o (.slice A ds.length c) ds) :
    Calls Try.prog 13 #[.int .i64 n, .slice A ds.length c] w fun e w' => ∃ A' c', e = .returned (.tuple #[.slice A' rows.length c', .bool b0]) ∧ Kd.S kRow 34 w' w.heap.size (fun k => w.heap.size ≤ k ∧ k < w'.heap.size) (.slice A' rows.length c') rows ∧ Below w.heap.size w w' := by
  obtain ⟨k, hk⟩ := (impl_Pieces_eq n ds hl).at
  rw [hp] at hk
  refine (impl_PiecesOfCut.calls k n A c ds rows b0 w (Kd.R_reads' hr).2.2 (Kd.R_reads' hr).2.1 hk).mono ?_
  rintro e w' ⟨v, rfl, h, hb⟩
  obtain ⟨A', c', rfl⟩ := Kd.S_slice h
  exact ⟨A', c', rfl, Kd.S_mono (Kd.S_bound h) (fun k hk => ⟨hk.2.1, hk.2.2.1⟩), hb⟩
theorem eqD_call (ds : List Dia) (hl : ds.length ≤ 2000000) {w : World} {b1 b2 : Nat} {o1 o2 : Nat → Prop} {A A' : Option Addr} {c c' : Nat} (h1 : Kd.R k59 59 w b1 o1 (.slice A ds.length c) ds) (h2 : Kd.R k59 59 w b2 o2 (.slice A' ds.length c') ds) :
    Calls Try.prog 15 #[.slice A ds.length c, .slice A' ds.length c'] w fun e w' => e = .returned (.bool true) ∧ Below w.heap.size w w' := by
  obtain ⟨k, hk⟩ := (eqS_eq ds hl).at
  exact laws_eqDiagonalS.calls k A c ds A' c' ds true w (Kd.R_reads' h1).2.2 (Kd.R_reads' h1).2.1 (Kd.R_reads' h2).2.2 (Kd.R_reads' h2).2.1 hk
end Go.Proofs.Ytggocekjhohhcaa.P

/- The law's own walk. -/
namespace Go.Proofs.Ytggocekjhohhcaa.P
set_option linter.unusedVariables false
set_option linter.unusedSimpArgs false
open Go.RowKit Go.Proofs.YtggocekjhohhcaaW.PrintWords Go.Proofs.YtggocekjhohhcaaW.PrintLast Go.Proofs.YtggocekjhohhcaaW.PrintMore
set_option maxHeartbeats 8000000 in
set_option maxRecDepth 100000 in
theorem laws_FnExactPiecesOfCut.walk (a0 : Int) (A1 : Option Addr) (c1 : Nat) (l1 : List LDia) (w : World) (hr1 : Kd.C k61 w A1 l1.length l1) (hc1 : l1.length ≤ c1) (hm : l1.length ≤ 9223372036854775807) :
    Calls Try.prog 3 #[.int .i64 a0, .slice A1 l1.length c1] w fun e w' => e = .returned (.bool true) ∧ Below w.heap.size w w' := by
  have hz := sz_eq l1 hm
  have HR := Aside0.mk hr1
  have HC := Aside0.mk hc1
  clear hr1 hc1 hm
  by_cases hlen : l1.length ≤ 1048576
  · rw [if_pos hlen] at hz
    obtain ⟨r, hr⟩ : ∃ r : Int, r = 1048576 - (l1.length : Int) := ⟨_, rfl⟩
    rw [← hr] at hz
    have hr0 : ¬ r < 0 := by omega
    have HZ := Aside0.mk hz
    obtain ⟨ds, hds⟩ : ∃ ds, ds = l1.map toD := ⟨_, rfl⟩
    have HL2 := Aside0.mk (show ds.length ≤ 2000000 by rw [hds, List.length_map]; omega)
    have HL1 := Aside0.mk (show l1.length ≤ 2000000 by omega)
    have HDS := Aside0.mk hds
    have hsm := piecesOut_small a0 ds
    obtain ⟨rows, b0, hp⟩ : ∃ rows b0, piecesOut a0 ds = (rows, b0) := ⟨_, _, rfl⟩
    rw [hp] at hsm
    have HP := Aside0.mk hp
    have HSM := Aside0.mk hsm
    obtain ⟨q, hq⟩ : ∃ q : Int, q = 1 + sumL rows := ⟨_, rfl⟩
    have hq0 : ¬ q < 0 := by
      have := (sumL_le hsm.each rows.length (Nat.le_refl _)).1
      rw [List.take_length] at this
      omega
    have HQ := Aside0.mk hq
    obtain ⟨r1, r2, hr1, hE⟩ := markD_eq ds HL2.out
    obtain ⟨kd, hkd⟩ := hE.at
    have HKD := Aside0.mk (show laws_markDiagonalS.f kd ds 1 = some (r1, r2) from hkd)
    have hr1n : ¬ r1 < 0 := by omega
    clear hz hr hds hsm hp hq hE hkd hr1 hlen
    go_enter Try.func3, Try.ntmps3
    go_upto_region 6 with (first
      | (go_at_call 10; refine (laws_szDiagonalS.calls A1 c1 l1 1048576 r w HR.out HC.out HZ.out).mono ?_; rintro e w10 ⟨rfl, hd⟩; have B10 := Aside0.mk hd.below; clear hd)
      | (go_at_call 12; refine (toS_call l1 ds HDS.out HL1.out (Kd.C_below HR.out B10.out) HC.out).mono ?_; rintro e w24 ⟨A24, c24, rfl, ho, hb⟩; have R24 := Aside0.mk ho; have B24 := Aside0.mk (B10.out.trans (hb.mono B10.out.size)); clear ho hb)
      | (go_at_call 11; refine (specP_call a0 ds rows b0 HP.out HL2.out R24.out).mono ?_; rintro e w25 ⟨A6, c6, rfl, ho, hb⟩; have S25 := Aside0.mk (Kd.S_mono (ok' := fun k => k < w25.heap.size) (Kd.S_lower ho B24.out.size) (fun k hk => hk.2)); have B25 := Aside0.mk (B24.out.trans (hb.mono B24.out.size)); clear ho hb))
    go_upto_region 7 with ((go_at_call 12; refine (toS_call l1 ds HDS.out HL1.out (Kd.C_below HR.out B25.out) HC.out).mono ?_; rintro e w29 ⟨A8, c8, rfl, ho, hb⟩; have R29 := Aside0.mk (Kd.R_lower ho B25.out.size); have S29 := Aside0.mk (Kd.S_below S25.out hb); have B29 := Aside0.mk (B25.out.trans (hb.mono B25.out.size)); have L29 := Aside0.mk hb.size; clear ho hb))
    go_upto_region 8 with ((go_at_call 13; refine (implP_call a0 ds rows b0 HP.out HL2.out R29.out).mono ?_; rintro e w33 ⟨A9, c9, rfl, ho, hb⟩; have HSt := Aside0.mk (St.mk (B29.out.trans (hb.mono B29.out.size)) (Kd.S_below S29.out hb) (Kd.R_below R29.out hb) (Kd.S_lower ho B29.out.size) L29.out hb.size (Nat.le_refl _)); clear ho hb))
    go_upto_region 10 with ((go_at_call 14; refine (eq2_call HSt.out.s9 HSt.out.s6 HSM.out).mono ?_; rintro e w38 ⟨rfl, hb⟩; replace HSt := Aside0.mk (HSt.out.step hb); clear hb))
    go_upto_region 13 with (first
      | (go_at_call 12; refine (toS_call l1 ds HDS.out HL1.out (Kd.C_below HR.out HSt.out.below) HC.out).mono ?_; rintro e w47 ⟨A47, c47, rfl, ho, hb⟩; have R47 := Aside0.mk ho; replace HSt := Aside0.mk (HSt.out.step hb); clear ho hb)
      | (go_at_call 15; refine (eqD_call ds HL2.out HSt.out.r8 R47.out).mono ?_; rintro e w48 ⟨rfl, hb⟩; replace HSt := Aside0.mk (HSt.out.step hb); clear hb))
    go_upto_region 14 with ((go_at_call 16; refine (laws_markDiagonalS.calls kd (fun k => some k = (Value.slice A8 ds.length c8).ownBlock) (.slice A8 ds.length c8) ds 1 r1 r2 w _ HSt.out.below (Kd.R_tight rfl HSt.out.r8) HKD.out).mono ?_; rintro e w52 ⟨rfl, ho, hb, hk⟩; replace HSt := Aside0.mk (HSt.out.mark8 hb hk ho); clear ho hb hk))
    go_upto_region 17 with ((go_at_call 14; refine (eq2_call HSt.out.s9 HSt.out.s6 HSM.out).mono ?_; rintro e w58 ⟨rfl, hb⟩; replace HSt := Aside0.mk (HSt.out.step hb); clear hb))
    go_upto_region 19 with ((go_at_call 17; refine (laws_markIntSS.walk A9 c9 rows w _ _ HSt.out.s9 HSt.out.below HSM.out).mono ?_; rw [← HQ.out]; rintro e w68 ⟨rfl, ho, hb, hk⟩; replace HSt := Aside0.mk (HSt.out.mark9 hb hk ho); clear ho hb hk))
    go_upto_region 24 with ((go_at_call 18; refine (held2_call HSt.out.s9 HSM.out).mono ?_; rw [← HQ.out]; rintro e w71 ⟨rfl, hb⟩; replace HSt := Aside0.mk (HSt.out.step hb); clear hb))
    go_upto_region 25 with (first
      | (go_at_call 12; refine (toS_call l1 ds HDS.out HL1.out (Kd.C_below HR.out HSt.out.below) HC.out).mono ?_; rintro e w80 ⟨A80, c80, rfl, ho, hb⟩; have R80 := Aside0.mk ho; replace HSt := Aside0.mk (HSt.out.step hb); clear ho hb)
      | (go_at_call 13; refine (implP_call a0 ds rows b0 HP.out HL2.out R80.out).mono ?_; rintro e w81 ⟨A14, c14, rfl, ho, hb⟩; have S81 := Aside0.mk ho; replace HSt := Aside0.mk (HSt.out.step hb); clear ho hb))
    go_upto_region 27 with ((go_at_call 14; refine (eq2_call S81.out HSt.out.s6 HSM.out).mono ?_; rintro e w86 ⟨rfl, hb⟩; replace HSt := Aside0.mk (HSt.out.step hb); clear hb))
    go_wp2_with ((go_at_call 18; refine (held2_call HSt.out.s9 HSM.out).mono ?_; rw [← HQ.out]; rintro e w95 ⟨rfl, hb⟩; replace HSt := Aside0.mk (HSt.out.step hb); clear hb))
    go_ret
    exact ⟨rfl, HSt.out.below⟩
  · rw [if_neg hlen] at hz
    have HZ := Aside0.mk hz
    clear hz
    go_enter Try.func3, Try.ntmps3
    go_wp2_with (go_at_call 10; refine (laws_szDiagonalS.calls A1 c1 l1 1048576 (-1) w HR.out HC.out HZ.out).mono ?_; rintro e w10 ⟨rfl, hd⟩; have B10 := Aside0.mk hd.below; clear hd)
    go_ret
    exact ⟨rfl, B10.out⟩
end Go.Proofs.Ytggocekjhohhcaa.P

/- The row of FnExactPiecesOfCut. -/
namespace Go.Proofs.Ytggocekjhohhcaa.fnExactPiecesOfCut
open Go.ChangeShapes Go.WideShapes Go.ChangeAt Go.RowKit
open Go.ChangeMaps (open_string shut_string)
set_option linter.unusedVariables false
theorem own : ownKnob Try.prog.godebug = none := by kernel_rfl
theorem laidOut : laidOutB Try.prog = true := by kernel_rfl
set_option maxRecDepth 100000 in
theorem lifted (os : Os) (started : os.Started) (H : Type) (enc : TypeId × Value → H) :
    ReturnsInHanded {} Try.checked os 3 .any (Rows.fnExactPiecesOfCutSpec.pre6 enc Try.prog Try.f3 Rows.fnExactPiecesOfCutRow.domain false) (Rows.fnExactPiecesOfCutSpec.post enc Try.prog Try.f3 false true false false) := by
  refine returnsInHanded_of_change_sized (C := Try.checked) own started (by kernel_rfl) Try.func3
    (ChangeSpec.witness6 (enc := enc) (C := Try.checked) false ⟨#[], #[.int .i64 0, .slice none 0 0], []⟩ 8 (by kernel_rfl) (by kernel_rfl) (by kernel_rfl) (by kernel_rfl)) ?_
  intro W base args ds gs before hval0 hW hcnd hsz0 _
  have hval : ∀ (j : Nat) t v, Try.f3.params[j]? = some t → args[j]? = some v → Value.okWide Try.prog W .any base t v := hval0
  have hW' := hW
  obtain ⟨p, q, hA0, hV, rfl, hfz, hnd⟩ := hW
  have hA : DataW.TrodAll enc Try.prog W 0 (fun _ => true) true Try.f3.params.toList args.toList ds p := hA0
  rw [Try.params3] at hA hval
  obtain ⟨v0, vs0, d0, ds0, p0, q0, hargs, rfl, rfl, h0, r0⟩ := trodAll_cons hA
  obtain ⟨v1, vs1, d1, ds1, p1, q1, rfl, rfl, rfl, h1, r1⟩ := trodAll_cons r0
  obtain ⟨rfl, rfl, rfl⟩ := trodAll_nil r1
  obtain rfl : args = #[v0, v1] := by cases args; simp_all
  obtain ⟨rfl, rfl⟩ := trodVars_none hV
  obtain ⟨a0, rfl, rfl, rfl, w0⟩ := open_int Try.underlying3 (hval 0 3 v0 rfl rfl) h0
  obtain ⟨a1, len1, cap1, rfl⟩ := okWide_slice Try.underlying22 (hval 1 22 v1 rfl rfl)
  have k1 := h1
  have lt1 : ∀ x ∈ p1, x.block < W.heap.size := by obtain ⟨m, hm⟩ := k1; exact DataW.trod_lt m _ _ _ hm
  obtain ⟨l1, hC1, hl1, hc1, hm1⟩ : ∃ l : List P.LDia, Go.Proofs.YtggocekjhohhcaaW.PrintWords.Kd.C P.k61 W a1 l.length l ∧ l.length = len1 ∧ l.length ≤ cap1 ∧ l.length ≤ 9223372036854775807 := by
    obtain ⟨fuel, hf⟩ := h1
    exact P.open_dias (by simpa [Value.cells] using hf)
  subst hl1
  clear hA0 hval0 hsz0

  refine (P.laws_FnExactPiecesOfCut.walk a0 a1 cap1 l1 W hC1 hc1 hm1).mono fun e W' ⟨he, bel⟩ => ?_
  subst he
  exact ⟨_, rfl, _, _, _, [], _, [], hW', trodAll_mk1 (shut_bool Try.underlying4 _), (trodAll_cons_mk (shut_int Try.underlying3 w0) (trodAll_cons_mk (Below.trod laidOut (by kernel_rfl) (of_decide_eq_true (by kernel_rfl)) k1 bel lt1) trodAll_mk0)), rfl, bel.frame _, fun h => by cases h⟩
theorem over : Rows.fnExactPiecesOfCutRow.holds Try.pinned (OpenSpec.ofChange Rows.fnExactPiecesOfCutSpec) :=
  OpenClaim.holds_of_wide 3 Try.f3 rfl rfl rfl rfl rfl rfl rfl ⟨rfl, rfl, rfl, rfl, rfl⟩ rfl rfl rfl rfl rfl (by kernel_rfl) Try.func3 (by kernel_rfl)
    (of_decide_eq_true (by kernel_rfl)) (by unfold Func.isWrapper; first | (rw [if_pos (by decide +kernel)]; kernel_rfl) | (rw [if_neg (by decide +kernel)]; exact ⟨rfl, rfl⟩))
    (fun os started H enc _ => lifted os started H enc)
theorem proved : Rows.FnExactPiecesOfCutSaid := over
#print axioms proved
end Go.Proofs.Ytggocekjhohhcaa.fnExactPiecesOfCut
namespace Go.Proofs.Ytggocekjhohhcaa
/-- The row, under a short name, for the claim. -/
theorem fnExactPiecesOfCut_holds : Rows.FnExactPiecesOfCutSaid := fnExactPiecesOfCut.proved
end Go.Proofs.Ytggocekjhohhcaa


