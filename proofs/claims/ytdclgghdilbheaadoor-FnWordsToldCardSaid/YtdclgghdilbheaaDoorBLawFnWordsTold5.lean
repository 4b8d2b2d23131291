/- Proof of FnWordsToldCardSaid, part 6 of 7: the texts Pf4, T, joined by a program of this session. -/
import Derived.Test.YtdclgghdilbheaaDoorBLawFnWordsTold0
import Derived.Test.YtdclgghdilbheaaDoorBLawFnWordsTold1
import Derived.Test.YtdclgghdilbheaaDoorBLawFnWordsTold2
import Derived.Test.YtdclgghdilbheaaDoorBLawFnWordsTold3
import Derived.Test.YtdclgghdilbheaaDoorBLawFnWordsTold4
-- By a program of this session.
namespace Go.Proofs.YtdclgghdilbheaaDoor.P
open Go.RowKit Go.Proofs.YtdclgghdilbheaaDoorW.PrintWords Go.Proofs.YtdclgghdilbheaaDoorW.PrintLast Go.Proofs.YtdclgghdilbheaaDoorW.PrintMore
attribute [local go_sem] max2_int min2_int max_two min_two max_three min_three max_four min_four   -- for this text's walks alone
set_option linter.unusedVariables false
set_option linter.unusedSimpArgs false

attribute [local go_sem high] eqA36
/-! ### laws_FnWordsTold: function 4 -/
mutual
def laws_FnWordsTold.j0 : Nat → List Int → ByteArray → Bool → Bool → Int → Int → Int → Int → Option (Bool)
  | 0, _, _, _, _, _, _, _, _ => none
  | k + 1, x1, x5, x7, x62, x483000, x483001, x483002, x483003 => if x62 = true then (some false) else (if x7 = true then ((impl_WordOfMatrix.f k x483000 x483001 x483002 x483003).bind fun bt489 => (if bt489.2 = true then (if bt489.1.toList = x5.toList then (if x483000 < 0 then (laws_FnWordsTold.j1 k x1 x5 true x483000 x483001 x483002 x483003) else (if x483001 < 0 then (laws_FnWordsTold.j1 k x1 x5 true x483000 x483001 x483002 x483003) else (if x483002 < 0 then (laws_FnWordsTold.j1 k x1 x5 true x483000 x483001 x483002 x483003) else (laws_FnWordsTold.j1 k x1 x5 (decide (x483003 < 0)) x483000 x483001 x483002 x483003)))) else (laws_FnWordsTold.j1 k x1 x5 true x483000 x483001 x483002 x483003)) else (laws_FnWordsTold.j1 k x1 x5 true x483000 x483001 x483002 x483003))) else (laws_FnWordsTold.j2 k x1))
def laws_FnWordsTold.j2 : Nat → List Int → Option (Bool)
  | 0, _ => none
  | k + 1, x1 => (spec_DrawWordOfMatrix.f k x1).bind fun bt509 => ((impl_WordOfMatrix.f k bt509.1 bt509.2.1 bt509.2.2.1 bt509.2.2.2).bind fun bt514 => ((spec_WordOfMatrix.f k bt509.1 bt509.2.1 bt509.2.2.1 bt509.2.2.2).bind fun bt516 => ((spec_DrawMoveFraction.f k x1).bind fun bt518 => ((impl_MoveFraction.f k bt518.1 bt518.2.1 bt518.2.2.1 bt518.2.2.2.1 bt518.2.2.2.2.1 bt518.2.2.2.2.2).bind fun bt526 => ((spec_MoveFraction.f k bt518.1 bt518.2.1 bt518.2.2.1 bt518.2.2.2.1 bt518.2.2.2.2.1 bt518.2.2.2.2.2).bind fun bt529 => (if (bt514.2 != bt516.2) = true then (laws_FnWordsTold.j3 k bt514.1 bt514.2 bt526.1 bt526.2.1 bt526.2.2 true bt509.1 bt509.2.1 bt509.2.2.1 bt509.2.2.2 bt518.1 bt518.2.1 bt518.2.2.1 bt518.2.2.2.1 bt518.2.2.2.2.1 bt518.2.2.2.2.2) else (if bt514.1.toList = bt516.1.toList then (if (bt526.2.2 != bt529.2.2) = true then (laws_FnWordsTold.j3 k bt514.1 bt514.2 bt526.1 bt526.2.1 bt526.2.2 true bt509.1 bt509.2.1 bt509.2.2.1 bt509.2.2.2 bt518.1 bt518.2.1 bt518.2.2.1 bt518.2.2.2.1 bt518.2.2.2.2.1 bt518.2.2.2.2.2) else (if bt526.1 = bt529.1 then (laws_FnWordsTold.j3 k bt514.1 bt514.2 bt526.1 bt526.2.1 bt526.2.2 (bt526.2.1 != bt529.2.1) bt509.1 bt509.2.1 bt509.2.2.1 bt509.2.2.2 bt518.1 bt518.2.1 bt518.2.2.1 bt518.2.2.2.1 bt518.2.2.2.2.1 bt518.2.2.2.2.2) else (laws_FnWordsTold.j3 k bt514.1 bt514.2 bt526.1 bt526.2.1 bt526.2.2 true bt509.1 bt509.2.1 bt509.2.2.1 bt509.2.2.2 bt518.1 bt518.2.1 bt518.2.2.1 bt518.2.2.2.1 bt518.2.2.2.2.1 bt518.2.2.2.2.2))) else (laws_FnWordsTold.j3 k bt514.1 bt514.2 bt526.1 bt526.2.1 bt526.2.2 true bt509.1 bt509.2.1 bt509.2.2.1 bt509.2.2.2 bt518.1 bt518.2.1 bt518.2.2.1 bt518.2.2.2.1 bt518.2.2.2.2.1 bt518.2.2.2.2.2))))))))
def laws_FnWordsTold.j3 : Nat → ByteArray → Bool → Int → Int → Bool → Bool → Int → Int → Int → Int → Int → Int → Int → Int → Int → Int → Option (Bool)
  | 0, _, _, _, _, _, _, _, _, _, _, _, _, _, _, _, _ => none
  | k + 1, x20, x21, x26, x27, x28, x187, x514000, x514001, x514002, x514003, x525000, x525001, x525002, x525003, x526000, x526001 => if x187 = true then (some false) else (if x21 = true then ((impl_MatrixOfWord.f k x20).bind fun bt532 => (if bt532.2.2.2.2 = true then (if (!(bt532.1 == x514000) || (!(bt532.2.1 == x514001) || (!(bt532.2.2.1 == x514002) || (!(bt532.2.2.2.1 == x514003))))) = true then (some false) else (laws_FnWordsTold.j4 k x26 x27 x28 x525000 x525001 x525002 x525003 x526000 x526001)) else (some false))) else (laws_FnWordsTold.j4 k x26 x27 x28 x525000 x525001 x525002 x525003 x526000 x526001))
def laws_FnWordsTold.j4 : Nat → Int → Int → Bool → Int → Int → Int → Int → Int → Int → Option (Bool)
  | 0, _, _, _, _, _, _, _, _, _ => none
  | k + 1, x26, x27, x28, x525000, x525001, x525002, x525003, x526000, x526001 => if x28 = true then (if x27 < 0 then (laws_FnWordsTold.j5 k x26 x27 true x525000 x525001 x525002 x525003 x526000 x526001) else (if x27 = 0 then (laws_FnWordsTold.j5 k x26 x27 (x26 != 1) x525000 x525001 x525002 x525003 x526000 x526001) else (laws_FnWordsTold.j5 k x26 x27 false x525000 x525001 x525002 x525003 x526000 x526001))) else (some true)
def laws_FnWordsTold.j5 : Nat → Int → Int → Bool → Int → Int → Int → Int → Int → Int → Option (Bool)
  | 0, _, _, _, _, _, _, _, _, _ => none
  | k + 1, x26, x27, x211, x525000, x525001, x525002, x525003, x526000, x526001 => if x211 = true then (some false) else (if x26 ≥ 0 then (if x26 ≤ 1000000 then (laws_FnWordsTold.j6 k x26 x27 (decide (x27 ≤ 1000000)) x525000 x525001 x525002 x525003 x526000 x526001) else (laws_FnWordsTold.j6 k x26 x27 false x525000 x525001 x525002 x525003 x526000 x526001)) else (laws_FnWordsTold.j6 k x26 x27 false x525000 x525001 x525002 x525003 x526000 x526001))
def laws_FnWordsTold.j6 : Nat → Int → Int → Bool → Int → Int → Int → Int → Int → Int → Option (Bool)
  | 0, _, _, _, _, _, _, _, _, _ => none
  | k + 1, x26, x27, x221, x525000, x525001, x525002, x525003, x526000, x526001 => if x221 = true then ((impl_InverseMatrix.f x525000 x525001 x525002 x525003).bind fun bt539 => ((impl_MoveFraction.f k bt539.1 bt539.2.1 bt539.2.2.1 bt539.2.2.2.1 x26 x27).bind fun bt545 => ((impl_IsFraction.f k x26 x27).bind fun t548 => (if t548 = true then (if bt539.2.2.2.2 = true then (if bt545.2.2 = true then (if bt545.1 = x526000 then (if bt545.2.1 = x526001 then (some true) else (some false)) else (some false)) else (some false)) else (some false)) else (some false))))) else (some true)
def laws_FnWordsTold.j1 : Nat → List Int → ByteArray → Bool → Int → Int → Int → Int → Option (Bool)
  | 0, _, _, _, _, _, _, _ => none
  | k + 1, x1, x5, x95, x483000, x483001, x483002, x483003 => if x95 = true then (some false) else (if 0 ≤ (wrap64 ((x5.size : Int) / 2)) then (if (wrap64 ((x5.size : Int) / 2)) ≤ (x5.size : Int) then ((impl_MatrixOfWord.f k (x5.extract 0 ((wrap64 ((x5.size : Int) / 2)) : Int).toNat)).bind fun bt491 => ((impl_MatrixOfWord.f k (x5.extract ((wrap64 ((x5.size : Int) / 2)) : Int).toNat x5.size)).bind fun bt497 => ((impl_TimesMatrix.f k bt491.1 bt491.2.1 bt491.2.2.1 bt491.2.2.2.1 bt497.1 bt497.2.1 bt497.2.2.1 bt497.2.2.2.1).bind fun bt503 => (if bt491.2.2.2.2 = true then (if bt497.2.2.2.2 = true then (if bt503.2.2.2.2 = true then (if (!(bt503.1 == x483000) || (!(bt503.2.1 == x483001) || (!(bt503.2.2.1 == x483002) || (!(bt503.2.2.2.1 == x483003))))) = true then (some false) else (laws_FnWordsTold.j2 k x1)) else (some false)) else (some false)) else (some false))))) else (none)) else (none))
end
def laws_FnWordsTold.f (k : Nat) (l0 : List Int) (l1 : List Int) : Option (Bool) := (laws_big.f l0 l1).bind fun t475 => (if t475 = true then (some true) else ((spec_DrawMatrixOfWord.f k l0).bind fun t476 => ((impl_MatrixOfWord.f k t476).bind fun bt477 => ((spec_MatrixOfWord.f k t476).bind fun bt483 => (if (bt477.2.2.2.2 != bt483.2.2.2.2) = true then (laws_FnWordsTold.j0 k l1 t476 bt477.2.2.2.2 true bt477.1 bt477.2.1 bt477.2.2.1 bt477.2.2.2.1) else (laws_FnWordsTold.j0 k l1 t476 bt477.2.2.2.2 (!(bt477.1 == bt483.1) || (!(bt477.2.1 == bt483.2.1) || (!(bt477.2.2.1 == bt483.2.2.1) || (!(bt477.2.2.2.1 == bt483.2.2.2.1))))) bt477.1 bt477.2.1 bt477.2.2.1 bt477.2.2.2.1))))))
theorem laws_FnWordsTold.mono_l : ∀ k, (∀ y0 y1 y2 y3 y4 y5 y6 y7, LeO (laws_FnWordsTold.j0 k y0 y1 y2 y3 y4 y5 y6 y7) (laws_FnWordsTold.j0 (k + 1) y0 y1 y2 y3 y4 y5 y6 y7)) ∧ (∀ y0, LeO (laws_FnWordsTold.j2 k y0) (laws_FnWordsTold.j2 (k + 1) y0)) ∧ (∀ y0 y1 y2 y3 y4 y5 y6 y7 y8 y9 y10 y11 y12 y13 y14 y15, LeO (laws_FnWordsTold.j3 k y0 y1 y2 y3 y4 y5 y6 y7 y8 y9 y10 y11 y12 y13 y14 y15) (laws_FnWordsTold.j3 (k + 1) y0 y1 y2 y3 y4 y5 y6 y7 y8 y9 y10 y11 y12 y13 y14 y15)) ∧ (∀ y0 y1 y2 y3 y4 y5 y6 y7 y8, LeO (laws_FnWordsTold.j4 k y0 y1 y2 y3 y4 y5 y6 y7 y8) (laws_FnWordsTold.j4 (k + 1) y0 y1 y2 y3 y4 y5 y6 y7 y8)) ∧ (∀ y0 y1 y2 y3 y4 y5 y6 y7 y8, LeO (laws_FnWordsTold.j5 k y0 y1 y2 y3 y4 y5 y6 y7 y8) (laws_FnWordsTold.j5 (k + 1) y0 y1 y2 y3 y4 y5 y6 y7 y8)) ∧ (∀ y0 y1 y2 y3 y4 y5 y6 y7 y8, LeO (laws_FnWordsTold.j6 k y0 y1 y2 y3 y4 y5 y6 y7 y8) (laws_FnWordsTold.j6 (k + 1) y0 y1 y2 y3 y4 y5 y6 y7 y8)) ∧ (∀ y0 y1 y2 y3 y4 y5 y6, LeO (laws_FnWordsTold.j1 k y0 y1 y2 y3 y4 y5 y6) (laws_FnWordsTold.j1 (k + 1) y0 y1 y2 y3 y4 y5 y6))
  | 0 => ⟨fun _ _ _ _ _ _ _ _ r h => by simp [laws_FnWordsTold.j0] at h, fun _ r h => by simp [laws_FnWordsTold.j2] at h, fun _ _ _ _ _ _ _ _ _ _ _ _ _ _ _ _ r h => by simp [laws_FnWordsTold.j3] at h, fun _ _ _ _ _ _ _ _ _ r h => by simp [laws_FnWordsTold.j4] at h, fun _ _ _ _ _ _ _ _ _ r h => by simp [laws_FnWordsTold.j5] at h, fun _ _ _ _ _ _ _ _ _ r h => by simp [laws_FnWordsTold.j6] at h, fun _ _ _ _ _ _ _ r h => by simp [laws_FnWordsTold.j1] at h⟩
  | k + 1 => by
    obtain ⟨ih0, ih1, ih2, ih3, ih4, ih5, ih6⟩ := laws_FnWordsTold.mono_l k
    refine ⟨?_, ?_, ?_, ?_, ?_, ?_, ?_⟩
    · intro y0 y1 y2 y3 y4 y5 y6 y7
      unfold laws_FnWordsTold.j0
      repeat' first
      | (with_reducible exact ih0 _ _ _ _ _ _ _ _)
      | (with_reducible exact ih1 _)
      | (with_reducible exact ih2 _ _ _ _ _ _ _ _ _ _ _ _ _ _ _ _)
      | (with_reducible exact ih3 _ _ _ _ _ _ _ _ _)
      | (with_reducible exact ih4 _ _ _ _ _ _ _ _ _)
      | (with_reducible exact ih5 _ _ _ _ _ _ _ _ _)
      | (with_reducible exact ih6 _ _ _ _ _ _ _)
      | (with_reducible exact impl_IsFraction.mono _ _ _)
      | (with_reducible exact impl_MatrixOfWord.mono _ _)
      | (with_reducible exact impl_MoveFraction.mono _ _ _ _ _ _ _)
      | (with_reducible exact impl_TimesMatrix.mono _ _ _ _ _ _ _ _ _)
      | (with_reducible exact impl_WordOfMatrix.mono _ _ _ _ _)
      | (with_reducible exact spec_DrawMatrixOfWord.mono _ _)
      | (with_reducible exact spec_DrawMoveFraction.mono _ _)
      | (with_reducible exact spec_DrawWordOfMatrix.mono _ _)
      | (with_reducible exact spec_MatrixOfWord.mono _ _)
      | (with_reducible exact spec_MoveFraction.mono _ _ _ _ _ _ _)
      | (with_reducible exact spec_WordOfMatrix.mono _ _ _ _ _)
      | (with_reducible exact LeO.refl _)
      | (with_reducible exact LeO.none _)
      | (with_reducible refine LeO.ite ?_ ?_)
      | (with_reducible refine LeO.bind ?_ (fun _ => ?_))
      | exact ih0 _ _ _ _ _ _ _ _
      | exact ih1 _
      | exact ih2 _ _ _ _ _ _ _ _ _ _ _ _ _ _ _ _
      | exact ih3 _ _ _ _ _ _ _ _ _
      | exact ih4 _ _ _ _ _ _ _ _ _
      | exact ih5 _ _ _ _ _ _ _ _ _
      | exact ih6 _ _ _ _ _ _ _
      | exact impl_IsFraction.mono _ _ _
      | exact impl_MatrixOfWord.mono _ _
      | exact impl_MoveFraction.mono _ _ _ _ _ _ _
      | exact impl_TimesMatrix.mono _ _ _ _ _ _ _ _ _
      | exact impl_WordOfMatrix.mono _ _ _ _ _
      | exact spec_DrawMatrixOfWord.mono _ _
      | exact spec_DrawMoveFraction.mono _ _
      | exact spec_DrawWordOfMatrix.mono _ _
      | exact spec_MatrixOfWord.mono _ _
      | exact spec_MoveFraction.mono _ _ _ _ _ _ _
      | exact spec_WordOfMatrix.mono _ _ _ _ _
      | exact LeO.none _
      | refine LeO.ite ?_ ?_
      | refine LeO.bind ?_ (fun _ => ?_)
    · intro y0
      unfold laws_FnWordsTold.j2
      repeat' first
      | (with_reducible exact ih0 _ _ _ _ _ _ _ _)
      | (with_reducible exact ih1 _)
      | (with_reducible exact ih2 _ _ _ _ _ _ _ _ _ _ _ _ _ _ _ _)
      | (with_reducible exact ih3 _ _ _ _ _ _ _ _ _)
      | (with_reducible exact ih4 _ _ _ _ _ _ _ _ _)
      | (with_reducible exact ih5 _ _ _ _ _ _ _ _ _)
      | (with_reducible exact ih6 _ _ _ _ _ _ _)
      | (with_reducible exact impl_IsFraction.mono _ _ _)
      | (with_reducible exact impl_MatrixOfWord.mono _ _)
      | (with_reducible exact impl_MoveFraction.mono _ _ _ _ _ _ _)
      | (with_reducible exact impl_TimesMatrix.mono _ _ _ _ _ _ _ _ _)
      | (with_reducible exact impl_WordOfMatrix.mono _ _ _ _ _)
      | (with_reducible exact spec_DrawMatrixOfWord.mono _ _)
      | (with_reducible exact spec_DrawMoveFraction.mono _ _)
      | (with_reducible exact spec_DrawWordOfMatrix.mono _ _)
      | (with_reducible exact spec_MatrixOfWord.mono _ _)
      | (with_reducible exact spec_MoveFraction.mono _ _ _ _ _ _ _)
      | (with_reducible exact spec_WordOfMatrix.mono _ _ _ _ _)
      | (with_reducible exact LeO.refl _)
      | (with_reducible exact LeO.none _)
      | (with_reducible refine LeO.ite ?_ ?_)
      | (with_reducible refine LeO.bind ?_ (fun _ => ?_))
      | exact ih0 _ _ _ _ _ _ _ _
      | exact ih1 _
      | exact ih2 _ _ _ _ _ _ _ _ _ _ _ _ _ _ _ _
      | exact ih3 _ _ _ _ _ _ _ _ _
      | exact ih4 _ _ _ _ _ _ _ _ _
      | exact ih5 _ _ _ _ _ _ _ _ _
      | exact ih6 _ _ _ _ _ _ _
      | exact impl_IsFraction.mono _ _ _
      | exact impl_MatrixOfWord.mono _ _
      | exact impl_MoveFraction.mono _ _ _ _ _ _ _
      | exact impl_TimesMatrix.mono _ _ _ _ _ _ _ _ _
      | exact impl_WordOfMatrix.mono _ _ _ _ _
      | exact spec_DrawMatrixOfWord.mono _ _
      | exact spec_DrawMoveFraction.mono _ _
      | exact spec_DrawWordOfMatrix.mono _ _
      | exact spec_MatrixOfWord.mono _ _
      | exact spec_MoveFraction.mono _ _ _ _ _ _ _
      | exact spec_WordOfMatrix.mono _ _ _ _ _
      | exact LeO.none _
      | refine LeO.ite ?_ ?_
      | refine LeO.bind ?_ (fun _ => ?_)
    · intro y0 y1 y2 y3 y4 y5 y6 y7 y8 y9 y10 y11 y12 y13 y14 y15
      unfold laws_FnWordsTold.j3
      repeat' first
      | (with_reducible exact ih0 _ _ _ _ _ _ _ _)
      | (with_reducible exact ih1 _)
      | (with_reducible exact ih2 _ _ _ _ _ _ _ _ _ _ _ _ _ _ _ _)
      | (with_reducible exact ih3 _ _ _ _ _ _ _ _ _)
      | (with_reducible exact ih4 _ _ _ _ _ _ _ _ _)
      | (with_reducible exact ih5 _ _ _ _ _ _ _ _ _)
      | (with_reducible exact ih6 _ _ _ _ _ _ _)
      | (with_reducible exact impl_IsFraction.mono _ _ _)
      | (with_reducible exact impl_MatrixOfWord.mono _ _)
      | (with_reducible exact impl_MoveFraction.mono _ _ _ _ _ _ _)
      | (with_reducible exact impl_TimesMatrix.mono _ _ _ _ _ _ _ _ _)
      | (with_reducible exact impl_WordOfMatrix.mono _ _ _ _ _)
      | (with_reducible exact spec_DrawMatrixOfWord.mono _ _)
      | (with_reducible exact spec_DrawMoveFraction.mono _ _)
      | (with_reducible exact spec_DrawWordOfMatrix.mono _ _)
      | (with_reducible exact spec_MatrixOfWord.mono _ _)
      | (with_reducible exact spec_MoveFraction.mono _ _ _ _ _ _ _)
      | (with_reducible exact spec_WordOfMatrix.mono _ _ _ _ _)
      | (with_reducible exact LeO.refl _)
      | (with_reducible exact LeO.none _)
      | (with_reducible refine LeO.ite ?_ ?_)
      | (with_reducible refine LeO.bind ?_ (fun _ => ?_))
      | exact ih0 _ _ _ _ _ _ _ _
      | exact ih1 _
      | exact ih2 _ _ _ _ _ _ _ _ _ _ _ _ _ _ _ _
      | exact ih3 _ _ _ _ _ _ _ _ _
      | exact ih4 _ _ _ _ _ _ _ _ _
      | exact ih5 _ _ _ _ _ _ _ _ _
      | exact ih6 _ _ _ _ _ _ _
      | exact impl_IsFraction.mono _ _ _
      | exact impl_MatrixOfWord.mono _ _
      | exact impl_MoveFraction.mono _ _ _ _ _ _ _
      | exact impl_TimesMatrix.mono _ _ _ _ _ _ _ _ _
      | exact impl_WordOfMatrix.mono _ _ _ _ _
      | exact spec_DrawMatrixOfWord.mono _ _
      | exact spec_DrawMoveFraction.mono _ _
      | exact spec_DrawWordOfMatrix.mono _ _
      | exact spec_MatrixOfWord.mono _ _
      | exact spec_MoveFraction.mono _ _ _ _ _ _ _
      | exact spec_WordOfMatrix.mono _ _ _ _ _
      | exact LeO.none _
      | refine LeO.ite ?_ ?_
      | refine LeO.bind ?_ (fun _ => ?_)
    · intro y0 y1 y2 y3 y4 y5 y6 y7 y8
      unfold laws_FnWordsTold.j4
      repeat' first
      | (with_reducible exact ih0 _ _ _ _ _ _ _ _)
      | (with_reducible exact ih1 _)
      | (with_reducible exact ih2 _ _ _ _ _ _ _ _ _ _ _ _ _ _ _ _)
      | (with_reducible exact ih3 _ _ _ _ _ _ _ _ _)
      | (with_reducible exact ih4 _ _ _ _ _ _ _ _ _)
      | (with_reducible exact ih5 _ _ _ _ _ _ _ _ _)
      | (with_reducible exact ih6 _ _ _ _ _ _ _)
      | (with_reducible exact impl_IsFraction.mono _ _ _)
      | (with_reducible exact impl_MatrixOfWord.mono _ _)
      | (with_reducible exact impl_MoveFraction.mono _ _ _ _ _ _ _)
      | (with_reducible exact impl_TimesMatrix.mono _ _ _ _ _ _ _ _ _)
      | (with_reducible exact impl_WordOfMatrix.mono _ _ _ _ _)
      | (with_reducible exact spec_DrawMatrixOfWord.mono _ _)
      | (with_reducible exact spec_DrawMoveFraction.mono _ _)
      | (with_reducible exact spec_DrawWordOfMatrix.mono _ _)
      | (with_reducible exact spec_MatrixOfWord.mono _ _)
      | (with_reducible exact spec_MoveFraction.mono _ _ _ _ _ _ _)
      | (with_reducible exact spec_WordOfMatrix.mono _ _ _ _ _)
      | (with_reducible exact LeO.refl _)
      | (with_reducible exact LeO.none _)
      | (with_reducible refine LeO.ite ?_ ?_)
      | (with_reducible refine LeO.bind ?_ (fun _ => ?_))
      | exact ih0 _ _ _ _ _ _ _ _
      | exact ih1 _
      | exact ih2 _ _ _ _ _ _ _ _ _ _ _ _ _ _ _ _
      | exact ih3 _ _ _ _ _ _ _ _ _
      | exact ih4 _ _ _ _ _ _ _ _ _
      | exact ih5 _ _ _ _ _ _ _ _ _
      | exact ih6 _ _ _ _ _ _ _
      | exact impl_IsFraction.mono _ _ _
      | exact impl_MatrixOfWord.mono _ _
      | exact impl_MoveFraction.mono _ _ _ _ _ _ _
      | exact impl_TimesMatrix.mono _ _ _ _ _ _ _ _ _
      | exact impl_WordOfMatrix.mono _ _ _ _ _
      | exact spec_DrawMatrixOfWord.mono _ _
      | exact spec_DrawMoveFraction.mono _ _
      | exact spec_DrawWordOfMatrix.mono _ _
      | exact spec_MatrixOfWord.mono _ _
      | exact spec_MoveFraction.mono _ _ _ _ _ _ _
      | exact spec_WordOfMatrix.mono _ _ _ _ _
      | exact LeO.none _
      | refine LeO.ite ?_ ?_
      | refine LeO.bind ?_ (fun _ => ?_)
    · intro y0 y1 y2 y3 y4 y5 y6 y7 y8
      unfold laws_FnWordsTold.j5
      repeat' first
      | (with_reducible exact ih0 _ _ _ _ _ _ _ _)
      | (with_reducible exact ih1 _)
      | (with_reducible exact ih2 _ _ _ _ _ _ _ _ _ _ _ _ _ _ _ _)
      | (with_reducible exact ih3 _ _ _ _ _ _ _ _ _)
      | (with_reducible exact ih4 _ _ _ _ _ _ _ _ _)
      | (with_reducible exact ih5 _ _ _ _ _ _ _ _ _)
      | (with_reducible exact ih6 _ _ _ _ _ _ _)
      | (with_reducible exact impl_IsFraction.mono _ _ _)
      | (with_reducible exact impl_MatrixOfWord.mono _ _)
      | (with_reducible exact impl_MoveFraction.mono _ _ _ _ _ _ _)
      | (with_reducible exact impl_TimesMatrix.mono _ _ _ _ _ _ _ _ _)
      | (with_reducible exact impl_WordOfMatrix.mono _ _ _ _ _)
      | (with_reducible exact spec_DrawMatrixOfWord.mono _ _)
      | (with_reducible exact spec_DrawMoveFraction.mono _ _)
      | (with_reducible exact spec_DrawWordOfMatrix.mono _ _)
      | (with_reducible exact spec_MatrixOfWord.mono _ _)
      | (with_reducible exact spec_MoveFraction.mono _ _ _ _ _ _ _)
      | (with_reducible exact spec_WordOfMatrix.mono _ _ _ _ _)
      | (with_reducible exact LeO.refl _)
      | (with_reducible exact LeO.none _)
      | (with_reducible refine LeO.ite ?_ ?_)
      | (with_reducible refine LeO.bind ?_ (fun _ => ?_))
      | exact ih0 _ _ _ _ _ _ _ _
      | exact ih1 _
      | exact ih2 _ _ _ _ _ _ _ _ _ _ _ _ _ _ _ _
      | exact ih3 _ _ _ _ _ _ _ _ _
      | exact ih4 _ _ _ _ _ _ _ _ _
      | exact ih5 _ _ _ _ _ _ _ _ _
      | exact ih6 _ _ _ _ _ _ _
      | exact impl_IsFraction.mono _ _ _
      | exact impl_MatrixOfWord.mono _ _
      | exact impl_MoveFraction.mono _ _ _ _ _ _ _
      | exact impl_TimesMatrix.mono _ _ _ _ _ _ _ _ _
      | exact impl_WordOfMatrix.mono _ _ _ _ _
      | exact spec_DrawMatrixOfWord.mono _ _
      | exact spec_DrawMoveFraction.mono _ _
      | exact spec_DrawWordOfMatrix.mono _ _
      | exact spec_MatrixOfWord.mono _ _
      | exact spec_MoveFraction.mono _ _ _ _ _ _ _
      | exact spec_WordOfMatrix.mono _ _ _ _ _
      | exact LeO.none _
      | refine LeO.ite ?_ ?_
      | refine LeO.bind ?_ (fun _ => ?_)
    · intro y0 y1 y2 y3 y4 y5 y6 y7 y8
      unfold laws_FnWordsTold.j6
      repeat' first
      | (with_reducible exact ih0 _ _ _ _ _ _ _ _)
      | (with_reducible exact ih1 _)
      | (with_reducible exact ih2 _ _ _ _ _ _ _ _ _ _ _ _ _ _ _ _)
      | (with_reducible exact ih3 _ _ _ _ _ _ _ _ _)
      | (with_reducible exact ih4 _ _ _ _ _ _ _ _ _)
      | (with_reducible exact ih5 _ _ _ _ _ _ _ _ _)
      | (with_reducible exact ih6 _ _ _ _ _ _ _)
      | (with_reducible exact impl_IsFraction.mono _ _ _)
      | (with_reducible exact impl_MatrixOfWord.mono _ _)
      | (with_reducible exact impl_MoveFraction.mono _ _ _ _ _ _ _)
      | (with_reducible exact impl_TimesMatrix.mono _ _ _ _ _ _ _ _ _)
      | (with_reducible exact impl_WordOfMatrix.mono _ _ _ _ _)
      | (with_reducible exact spec_DrawMatrixOfWord.mono _ _)
      | (with_reducible exact spec_DrawMoveFraction.mono _ _)
      | (with_reducible exact spec_DrawWordOfMatrix.mono _ _)
      | (with_reducible exact spec_MatrixOfWord.mono _ _)
      | (with_reducible exact spec_MoveFraction.mono _ _ _ _ _ _ _)
      | (with_reducible exact spec_WordOfMatrix.mono _ _ _ _ _)
      | (with_reducible exact LeO.refl _)
      | (with_reducible exact LeO.none _)
      | (with_reducible refine LeO.ite ?_ ?_)
      | (with_reducible refine LeO.bind ?_ (fun _ => ?_))
      | exact ih0 _ _ _ _ _ _ _ _
      | exact ih1 _
      | exact ih2 _ _ _ _ _ _ _ _ _ _ _ _ _ _ _ _
      | exact ih3 _ _ _ _ _ _ _ _ _
      | exact ih4 _ _ _ _ _ _ _ _ _
      | exact ih5 _ _ _ _ _ _ _ _ _
      | exact ih6 _ _ _ _ _ _ _
      | exact impl_IsFraction.mono _ _ _
      | exact impl_MatrixOfWord.mono _ _
      | exact impl_MoveFraction.mono _ _ _ _ _ _ _
      | exact impl_TimesMatrix.mono _ _ _ _ _ _ _ _ _
      | exact impl_WordOfMatrix.mono _ _ _ _ _
      | exact spec_DrawMatrixOfWord.mono _ _
      | exact spec_DrawMoveFraction.mono _ _
      | exact spec_DrawWordOfMatrix.mono _ _
      | exact spec_MatrixOfWord.mono _ _
      | exact spec_MoveFraction.mono _ _ _ _ _ _ _
      | exact spec_WordOfMatrix.mono _ _ _ _ _
      | exact LeO.none _
      | refine LeO.ite ?_ ?_
      | refine LeO.bind ?_ (fun _ => ?_)
    · intro y0 y1 y2 y3 y4 y5 y6
      unfold laws_FnWordsTold.j1
      repeat' first
      | (with_reducible exact ih0 _ _ _ _ _ _ _ _)
      | (with_reducible exact ih1 _)
      | (with_reducible exact ih2 _ _ _ _ _ _ _ _ _ _ _ _ _ _ _ _)
      | (with_reducible exact ih3 _ _ _ _ _ _ _ _ _)
      | (with_reducible exact ih4 _ _ _ _ _ _ _ _ _)
      | (with_reducible exact ih5 _ _ _ _ _ _ _ _ _)
      | (with_reducible exact ih6 _ _ _ _ _ _ _)
      | (with_reducible exact impl_IsFraction.mono _ _ _)
      | (with_reducible exact impl_MatrixOfWord.mono _ _)
      | (with_reducible exact impl_MoveFraction.mono _ _ _ _ _ _ _)
      | (with_reducible exact impl_TimesMatrix.mono _ _ _ _ _ _ _ _ _)
      | (with_reducible exact impl_WordOfMatrix.mono _ _ _ _ _)
      | (with_reducible exact spec_DrawMatrixOfWord.mono _ _)
      | (with_reducible exact spec_DrawMoveFraction.mono _ _)
      | (with_reducible exact spec_DrawWordOfMatrix.mono _ _)
      | (with_reducible exact spec_MatrixOfWord.mono _ _)
      | (with_reducible exact spec_MoveFraction.mono _ _ _ _ _ _ _)
      | (with_reducible exact spec_WordOfMatrix.mono _ _ _ _ _)
      | (with_reducible exact LeO.refl _)
      | (with_reducible exact LeO.none _)
      | (with_reducible refine LeO.ite ?_ ?_)
      | (with_reducible refine LeO.bind ?_ (fun _ => ?_))
      | exact ih0 _ _ _ _ _ _ _ _
      | exact ih1 _
      | exact ih2 _ _ _ _ _ _ _ _ _ _ _ _ _ _ _ _
      | exact ih3 _ _ _ _ _ _ _ _ _
      | exact ih4 _ _ _ _ _ _ _ _ _
      | exact ih5 _ _ _ _ _ _ _ _ _
      | exact ih6 _ _ _ _ _ _ _
      | exact impl_IsFraction.mono _ _ _
      | exact impl_MatrixOfWord.mono _ _
      | exact impl_MoveFraction.mono _ _ _ _ _ _ _
      | exact impl_TimesMatrix.mono _ _ _ _ _ _ _ _ _
      | exact impl_WordOfMatrix.mono _ _ _ _ _
      | exact spec_DrawMatrixOfWord.mono _ _
      | exact spec_DrawMoveFraction.mono _ _
      | exact spec_DrawWordOfMatrix.mono _ _
      | exact spec_MatrixOfWord.mono _ _
      | exact spec_MoveFraction.mono _ _ _ _ _ _ _
      | exact spec_WordOfMatrix.mono _ _ _ _ _
      | exact LeO.none _
      | refine LeO.ite ?_ ?_
      | refine LeO.bind ?_ (fun _ => ?_)
theorem laws_FnWordsTold.mono : ∀ a0 a1 k, LeO (laws_FnWordsTold.f k a0 a1) (laws_FnWordsTold.f (k + 1) a0 a1) := by
  intro a0 a1 k
  obtain ⟨ih0, ih1, ih2, ih3, ih4, ih5, ih6⟩ := laws_FnWordsTold.mono_l k
  unfold laws_FnWordsTold.f
  repeat' first
      | (with_reducible exact ih0 _ _ _ _ _ _ _ _)
      | (with_reducible exact ih1 _)
      | (with_reducible exact ih2 _ _ _ _ _ _ _ _ _ _ _ _ _ _ _ _)
      | (with_reducible exact ih3 _ _ _ _ _ _ _ _ _)
      | (with_reducible exact ih4 _ _ _ _ _ _ _ _ _)
      | (with_reducible exact ih5 _ _ _ _ _ _ _ _ _)
      | (with_reducible exact ih6 _ _ _ _ _ _ _)
      | (with_reducible exact impl_IsFraction.mono _ _ _)
      | (with_reducible exact impl_MatrixOfWord.mono _ _)
      | (with_reducible exact impl_MoveFraction.mono _ _ _ _ _ _ _)
      | (with_reducible exact impl_TimesMatrix.mono _ _ _ _ _ _ _ _ _)
      | (with_reducible exact impl_WordOfMatrix.mono _ _ _ _ _)
      | (with_reducible exact spec_DrawMatrixOfWord.mono _ _)
      | (with_reducible exact spec_DrawMoveFraction.mono _ _)
      | (with_reducible exact spec_DrawWordOfMatrix.mono _ _)
      | (with_reducible exact spec_MatrixOfWord.mono _ _)
      | (with_reducible exact spec_MoveFraction.mono _ _ _ _ _ _ _)
      | (with_reducible exact spec_WordOfMatrix.mono _ _ _ _ _)
      | (with_reducible exact LeO.refl _)
      | (with_reducible exact LeO.none _)
      | (with_reducible refine LeO.ite ?_ ?_)
      | (with_reducible refine LeO.bind ?_ (fun _ => ?_))
      | exact ih0 _ _ _ _ _ _ _ _
      | exact ih1 _
      | exact ih2 _ _ _ _ _ _ _ _ _ _ _ _ _ _ _ _
      | exact ih3 _ _ _ _ _ _ _ _ _
      | exact ih4 _ _ _ _ _ _ _ _ _
      | exact ih5 _ _ _ _ _ _ _ _ _
      | exact ih6 _ _ _ _ _ _ _
      | exact impl_IsFraction.mono _ _ _
      | exact impl_MatrixOfWord.mono _ _
      | exact impl_MoveFraction.mono _ _ _ _ _ _ _
      | exact impl_TimesMatrix.mono _ _ _ _ _ _ _ _ _
      | exact impl_WordOfMatrix.mono _ _ _ _ _
      | exact spec_DrawMatrixOfWord.mono _ _
      | exact spec_DrawMoveFraction.mono _ _
      | exact spec_DrawWordOfMatrix.mono _ _
      | exact spec_MatrixOfWord.mono _ _
      | exact spec_MoveFraction.mono _ _ _ _ _ _ _
      | exact spec_WordOfMatrix.mono _ _ _ _ _
      | exact LeO.none _
      | refine LeO.ite ?_ ?_
      | refine LeO.bind ?_ (fun _ => ?_)
set_option maxHeartbeats 8000000 in
set_option maxRecDepth 100000 in
theorem laws_FnWordsTold.calls (k : Nat) (A0 : Option Addr) (c0 : Nat) (l0 : List Int) (A1 : Option Addr) (c1 : Nat) (l1 : List Int) (r : Bool) (w : World) (hr0 : Kd.C (Kd.int .u8) w A0 l0.length l0) (hc0 : l0.length ≤ c0) (hr1 : Kd.C (Kd.int .u8) w A1 l1.length l1) (hc1 : l1.length ≤ c1) (hrt : r = true) (h : laws_FnWordsTold.f k l0 l1 = some r) :
    Calls Tryd.prog 4 #[.slice A0 l0.length c0, .slice A1 l1.length c1] w fun e w' => e = .returned (.bool r) ∧ Below w.heap.size w w' := by
  have hu36 := Tryd.underlying36
  have hu43 := Tryd.underlying43
  have HR0 := Aside0.mk hr0
  have HC0 := Aside0.mk hc0
  clear hr0 hc0
  have HR1 := Aside0.mk hr1
  have HC1 := Aside0.mk hc1
  clear hr1 hc1
  have HB := Aside0.mk (Below.refl w.heap.size w)
  have H := h
  clear h
  unfold laws_FnWordsTold.f at H
  replace H := Option.bind_eq_some_iff.mp H
  obtain ⟨t475, A30, H⟩ := H
  have A3 := Aside0.mk A30
  clear A30
  by_cases c4 : t475 = true
  · subst c4
    rw [if_pos rfl] at H
    as_aux_lemma =>
      obtain rfl := Option.some.inj H
      clear hrt
      go_enter Tryd.func4, Tryd.ntmps4
      go_wp2_with (first | ((with_reducible refine gate_callee (f := 11) rfl ?_); refine goesL_ (some 42) rfl rfl Tryd.func11 (by kernel_rfl) rfl #[.slice A0 l0.length c0, .slice A1 l1.length c1] rfl (by (try simp only [List.map_toArray, List.map_cons, List.map_nil]); first | done | rfl | (simp only [List.length_drop, List.length_take]; rfl)) ?_; (with_reducible refine (laws_big.calls _ _ l0 _ _ l1 true _ ?side1 ?side2 ?side3 ?side4 A3.out).mono ?_); (case side1 => repeat (first | exact HR0.out | (with_reducible refine Kd.C_alloc ?_ _) | (with_reducible refine Kd.C_drewN ?_ _) | (with_reducible refine Kd.C_drew ?_))); (case side2 => exact HC0.out); (case side3 => repeat (first | exact HR1.out | (with_reducible refine Kd.C_alloc ?_ _) | (with_reducible refine Kd.C_drewN ?_ _) | (with_reducible refine Kd.C_drew ?_))); (case side4 => exact HC1.out); rintro e w' ⟨rfl, ⟨nd, rfl⟩⟩; refine ⟨_, rfl, ?_⟩))
      go_ret
      exact ⟨by first | rfl | (simp [errW_none, errW_some] <;> rfl) | (simp [*, errW_none, errW_some] <;> rfl), by repeat (first | (with_reducible first | exact HB.out | apply below_alloc | apply pw_below_drewN | apply below_drew1) | exact HB.out)⟩
  · replace c4 := Bool.eq_false_iff.mpr c4
    subst c4
    rw [if_neg (show ¬ (false = true) by decide)] at H
    replace H := Option.bind_eq_some_iff.mp H
    obtain ⟨t476, A50, H⟩ := H
    have A5 := Aside0.mk A50
    clear A50
    replace H := Option.bind_eq_some_iff.mp H
    obtain ⟨⟨t477, t478, t479, t480, t481⟩, A60, H⟩ := H
    try dsimp only at H
    have A6 := Aside0.mk A60
    clear A60
    replace H := Option.bind_eq_some_iff.mp H
    obtain ⟨⟨t483, t484, t485, t486, t487⟩, A70, H⟩ := H
    try dsimp only at H
    have A7 := Aside0.mk A70
    clear A70
    have HC8 := Aside0.mk H
    clear H
    go_enter Tryd.func4, Tryd.ntmps4
    go_upto_region 6 with (first | ((with_reducible refine gate_callee (f := 11) rfl ?_); refine goesL_ (some 42) rfl rfl Tryd.func11 (by kernel_rfl) rfl #[.slice A0 l0.length c0, .slice A1 l1.length c1] rfl (by (try simp only [List.map_toArray, List.map_cons, List.map_nil]); first | done | rfl | (simp only [List.length_drop, List.length_take]; rfl)) ?_; (with_reducible refine (laws_big.calls _ _ l0 _ _ l1 false _ ?side1 ?side2 ?side3 ?side4 A3.out).mono ?_); (case side1 => repeat (first | exact HR0.out | (with_reducible refine Kd.C_alloc ?_ _) | (with_reducible refine Kd.C_drewN ?_ _) | (with_reducible refine Kd.C_drew ?_))); (case side2 => exact HC0.out); (case side3 => repeat (first | exact HR1.out | (with_reducible refine Kd.C_alloc ?_ _) | (with_reducible refine Kd.C_drewN ?_ _) | (with_reducible refine Kd.C_drew ?_))); (case side4 => exact HC1.out); rintro e w' ⟨rfl, ⟨nd, rfl⟩⟩; refine ⟨_, rfl, ?_⟩) | ((with_reducible refine gate_callee (f := 12) rfl ?_); refine goesL_ (some 44) rfl rfl Tryd.func12 (by kernel_rfl) rfl #[.slice A0 l0.length c0] rfl (by (try simp only [List.map_toArray, List.map_cons, List.map_nil]); first | done | rfl | (simp only [List.length_drop, List.length_take]; rfl)) ?_; (with_reducible refine (spec_DrawMatrixOfWord.calls k _ _ l0 t476 _ ?side1 ?side2 A5.out).mono ?_); (case side1 => repeat (first | exact HR0.out | (with_reducible refine Kd.C_alloc ?_ _) | (with_reducible refine Kd.C_drewN ?_ _) | (with_reducible refine Kd.C_drew ?_))); (case side2 => exact HC0.out); rintro e w9 ⟨rfl, hb⟩; refine ⟨_, rfl, ?_⟩; have n0_ := Aside0.mk (below_step (by repeat (first | (with_reducible first | exact HB.out | apply below_alloc | apply pw_below_drewN | apply below_drew1) | exact HB.out)) hb); clear HB; have HB := n0_; clear n0_; (try clear hb); (try clear hb2); (try clear hk); (try clear hi)) | ((with_reducible refine gate_callee (f := 13) rfl ?_); refine goesL_ (some 47) rfl rfl Tryd.func13 (by kernel_rfl) rfl #[.string t476] rfl (by (try simp only [List.map_toArray, List.map_cons, List.map_nil]); first | done | rfl | (simp only [List.length_drop, List.length_take]; rfl)) ?_; (with_reducible refine (impl_MatrixOfWord.calls k t476 t477 t478 t479 t480 t481 _ A6.out).mono ?_); rintro e w10 ⟨rfl, hb⟩; refine ⟨_, rfl, ?_⟩; have n0_ := Aside0.mk (below_step (by repeat (first | (with_reducible first | exact HB.out | apply below_alloc | apply pw_below_drewN | apply below_drew1) | exact HB.out)) hb); clear HB; have HB := n0_; clear n0_; (try clear hb); (try clear hb2); (try clear hk); (try clear hi)) | ((with_reducible refine gate_dst (N := 6) rfl ?_); refine box_event ?hg (N := 6) ?hd (cs := #[.int .i64 0, .int .i64 0, .int .i64 0, .int .i64 0]) (t := 36) ?hr ?_; (case hd => rfl); (case hg => rfl); (case hr => first | (go_simp; done) | (go_simp; rfl)); intro gb482 hg w11 hbox hb; have n0_ := Aside0.mk (below_step (by repeat (first | (with_reducible first | exact HB.out | apply below_alloc | apply pw_below_drewN | apply below_drew1) | exact HB.out)) hb); have n1_ := Aside0.mk (hbox); have n2_ := Aside0.mk ((by rw [hg]; exact (below_size (by repeat (first | (with_reducible first | exact HB.out | apply below_alloc | apply pw_below_drewN | apply below_drew1) | exact HB.out))) : w.heap.size ≤ gb482)); have n3_ := Aside0.mk ((by rw [hg]; exact (below_size (by repeat (first | (with_reducible first | exact HB.out | apply below_alloc | apply pw_below_drewN | apply below_drew1) | exact HB.out))) : w.heap.size ≤ gb482)); clear HB; have HB := n0_; have BK482 := n1_; have GW482 := n2_; have GE482 := n3_; clear n0_ n1_ n2_ n3_; clear hb hbox hg; have hcz12_0 : w11.cell? ⟨gb482, 0, none⟩ = some (.int .i64 0) := (blk_cell BK482.out 0).trans rfl; have hcz12_1 : w11.cell? ⟨gb482, 1, none⟩ = some (.int .i64 0) := (blk_cell BK482.out 1).trans rfl; have hcz12_2 : w11.cell? ⟨gb482, 2, none⟩ = some (.int .i64 0) := (blk_cell BK482.out 2).trans rfl; have hcz12_3 : w11.cell? ⟨gb482, 3, none⟩ = some (.int .i64 0) := (blk_cell BK482.out 3).trans rfl; have hfz12_0 := blk_frozen BK482.out 0; have hfz12_1 := blk_frozen BK482.out 1; have hfz12_2 := blk_frozen BK482.out 2; have hfz12_3 := blk_frozen BK482.out 3) | ((with_reducible refine gate_callee (f := 14) rfl ?_); refine goesL_ (some 52) rfl rfl Tryd.func14 (by kernel_rfl) rfl #[.string t476] rfl (by (try simp only [List.map_toArray, List.map_cons, List.map_nil]); first | done | rfl | (simp only [List.length_drop, List.length_take]; rfl)) ?_; (with_reducible refine (spec_MatrixOfWord.calls k t476 t483 t484 t485 t486 t487 _ A7.out).mono ?_); rintro e w13 ⟨rfl, hb⟩; refine ⟨_, rfl, ?_⟩; have n0_ := Aside0.mk (blk_below (g := gb482) (o := .cells #[.int .i64 t477, .int .i64 t478, .int .i64 t479, .int .i64 t480] 36 (0, 0)) (by (with_reducible repeat (first | refine blk_drewN ?_ _ | refine blk_drew ?_ | refine blk_alloc ?_ _)); refine blk_put (cs := #[.int .i64 t477, .int .i64 t478, .int .i64 t479, .int .i64 0]) ?_ 3 _ rfl; (with_reducible repeat (first | refine blk_drewN ?_ _ | refine blk_drew ?_ | refine blk_alloc ?_ _)); refine blk_put (cs := #[.int .i64 t477, .int .i64 t478, .int .i64 0, .int .i64 0]) ?_ 2 _ rfl; (with_reducible repeat (first | refine blk_drewN ?_ _ | refine blk_drew ?_ | refine blk_alloc ?_ _)); refine blk_put (cs := #[.int .i64 t477, .int .i64 0, .int .i64 0, .int .i64 0]) ?_ 1 _ rfl; (with_reducible repeat (first | refine blk_drewN ?_ _ | refine blk_drew ?_ | refine blk_alloc ?_ _)); refine blk_put (cs := #[.int .i64 0, .int .i64 0, .int .i64 0, .int .i64 0]) ?_ 0 _ rfl; (with_reducible repeat (first | refine blk_drewN ?_ _ | refine blk_drew ?_ | refine blk_alloc ?_ _)); exact BK482.out) hb); have n1_ := Aside0.mk (below_step (by repeat (first | (with_reducible first | exact HB.out | apply below_alloc | apply pw_below_drewN | apply below_drew1 | refine below_set ?_ GE482.out) | exact HB.out)) hb); clear BK482; clear HB; have BK482 := n0_; have HB := n1_; clear n0_ n1_; (try clear hb); (try clear hb2); (try clear hk); (try clear hi)) | ((with_reducible refine gate_dst (N := 8) rfl ?_); refine box_event ?hg (N := 8) ?hd (cs := #[.int .i64 0, .int .i64 0, .int .i64 0, .int .i64 0]) (t := 36) ?hr ?_; (case hd => rfl); (case hg => rfl); (case hr => first | (go_simp; done) | (go_simp; rfl)); intro gb488 hg w14 hbox hb; have n0_ := Aside0.mk (blk_below (g := gb482) (o := .cells #[.int .i64 t477, .int .i64 t478, .int .i64 t479, .int .i64 t480] 36 (0, 0)) (by (with_reducible repeat (first | refine blk_drewN ?_ _ | refine blk_drew ?_ | refine blk_alloc ?_ _)); exact BK482.out) hb); have n1_ := Aside0.mk (below_step (by repeat (first | (with_reducible first | exact HB.out | apply below_alloc | apply pw_below_drewN | apply below_drew1 | refine below_set ?_ GE482.out) | exact HB.out)) hb); have n2_ := Aside0.mk (hbox); have n3_ := Aside0.mk ((by rw [hg]; exact (below_size (by repeat (first | (with_reducible first | exact HB.out | apply below_alloc | apply pw_below_drewN | apply below_drew1 | refine below_set ?_ GE482.out) | exact HB.out))) : w.heap.size ≤ gb488)); have n4_ := Aside0.mk ((by rw [hg]; exact (below_size (by repeat (first | (with_reducible first | exact HB.out | apply below_alloc | apply pw_below_drewN | apply below_drew1 | refine below_set ?_ GE482.out) | exact HB.out))) : w.heap.size ≤ gb488)); have n5_ := Aside0.mk ((by rw [hg]; exact Nat.ne_of_lt (blk_lt (g := gb482) (o := .cells #[.int .i64 t477, .int .i64 t478, .int .i64 t479, .int .i64 t480] 36 (0, 0)) (by (with_reducible repeat (first | refine blk_drewN ?_ _ | refine blk_drew ?_ | refine blk_alloc ?_ _)); exact BK482.out)) : gb482 ≠ gb488)); have n6_ := Aside0.mk ((by rw [hg]; exact Nat.ne_of_gt (blk_lt (g := gb482) (o := .cells #[.int .i64 t477, .int .i64 t478, .int .i64 t479, .int .i64 t480] 36 (0, 0)) (by (with_reducible repeat (first | refine blk_drewN ?_ _ | refine blk_drew ?_ | refine blk_alloc ?_ _)); exact BK482.out)) : gb488 ≠ gb482)); clear BK482; clear HB; have BK482 := n0_; have HB := n1_; have BK488 := n2_; have GW488 := n3_; have GE488 := n4_; have NB482_488 := n5_; have NB488_482 := n6_; clear n0_ n1_ n2_ n3_ n4_ n5_ n6_; clear hb hbox hg; have hnb15 := NB488_482.out; have hnc15 := NB482_488.out; have hcz16_0 : w14.cell? ⟨gb488, 0, none⟩ = some (.int .i64 0) := (blk_cell BK488.out 0).trans rfl; have hcz16_1 : w14.cell? ⟨gb488, 1, none⟩ = some (.int .i64 0) := (blk_cell BK488.out 1).trans rfl; have hcz16_2 : w14.cell? ⟨gb488, 2, none⟩ = some (.int .i64 0) := (blk_cell BK488.out 2).trans rfl; have hcz16_3 : w14.cell? ⟨gb488, 3, none⟩ = some (.int .i64 0) := (blk_cell BK488.out 3).trans rfl; have hfz16_0 := blk_frozen BK488.out 0; have hfz16_1 := blk_frozen BK488.out 1; have hfz16_2 := blk_frozen BK488.out 2; have hfz16_3 := blk_frozen BK488.out 3))
    (try simp only [Act.put, List.setIfInBounds_toArray, List.set_cons_zero, List.set_cons_succ])
    go_cut [62] (fun v62 wc => ∃ (kq : Nat) (x62_7 : Bool), v62 = .bool x62_7 ∧ Aside0 (laws_FnWordsTold.j0 kq l1 t476 t481 x62_7 t477 t478 t479 t480 = some r) ∧ Aside0 (kq ≤ k) ∧ Aside0 (wc.heap[gb482]? = some (.cells #[.int .i64 t477, .int .i64 t478, .int .i64 t479, .int .i64 t480] 36 (0, 0))) ∧ Aside0 (wc.heap[gb488]? = some (.cells #[.int .i64 t483, .int .i64 t484, .int .i64 t485, .int .i64 t486] 36 (0, 0))) ∧ Aside0 (Below w.heap.size w wc))
    case first =>
      have H := HC8.out
      clear HC8
      by_cases c17 : (t481 != t487) = true
      · rw [if_pos c17] at H
        have c17b0 : (t481 != t487) = true := c17
        (try (have c17b1 : decide (t481 = t487) = false := by simpa using c17))
        (try (have c17b2 : (t481 == t487) = false := by simpa using c17))
        (try (have c17b3 : ¬ (t481 = t487) := by simpa using c17))
        clear c17
        (first | rw [c17b0] | (simp only [i64_w, i32_w]; rw [c17b0]) | skip)
        as_aux_lemma =>
          have H' := Aside0.mk H
          clear H
          go_wp2
          go_meet
          case rel => exact ⟨_, (true), (by first | rfl | (simp; done) | (simp [*]; done)), H', ⟨by first | omega | exact Nat.le_refl _⟩, ⟨by (with_reducible repeat (first | refine blk_drewN ?_ _ | refine blk_drew ?_ | refine blk_alloc ?_ _)); refine blk_far ?_ NB482_488.out _; (with_reducible repeat (first | refine blk_drewN ?_ _ | refine blk_drew ?_ | refine blk_alloc ?_ _)); refine blk_far ?_ NB482_488.out _; (with_reducible repeat (first | refine blk_drewN ?_ _ | refine blk_drew ?_ | refine blk_alloc ?_ _)); refine blk_far ?_ NB482_488.out _; (with_reducible repeat (first | refine blk_drewN ?_ _ | refine blk_drew ?_ | refine blk_alloc ?_ _)); refine blk_far ?_ NB482_488.out _; (with_reducible repeat (first | refine blk_drewN ?_ _ | refine blk_drew ?_ | refine blk_alloc ?_ _)); exact BK482.out⟩, ⟨by (with_reducible repeat (first | refine blk_drewN ?_ _ | refine blk_drew ?_ | refine blk_alloc ?_ _)); refine blk_put (cs := #[.int .i64 t483, .int .i64 t484, .int .i64 t485, .int .i64 0]) ?_ 3 _ rfl; (with_reducible repeat (first | refine blk_drewN ?_ _ | refine blk_drew ?_ | refine blk_alloc ?_ _)); refine blk_put (cs := #[.int .i64 t483, .int .i64 t484, .int .i64 0, .int .i64 0]) ?_ 2 _ rfl; (with_reducible repeat (first | refine blk_drewN ?_ _ | refine blk_drew ?_ | refine blk_alloc ?_ _)); refine blk_put (cs := #[.int .i64 t483, .int .i64 0, .int .i64 0, .int .i64 0]) ?_ 1 _ rfl; (with_reducible repeat (first | refine blk_drewN ?_ _ | refine blk_drew ?_ | refine blk_alloc ?_ _)); refine blk_put (cs := #[.int .i64 0, .int .i64 0, .int .i64 0, .int .i64 0]) ?_ 0 _ rfl; (with_reducible repeat (first | refine blk_drewN ?_ _ | refine blk_drew ?_ | refine blk_alloc ?_ _)); exact BK488.out⟩, ⟨by repeat (first | (with_reducible first | exact HB.out | apply below_alloc | apply pw_below_drewN | apply below_drew1 | refine below_set ?_ GE482.out | refine below_set ?_ GE488.out) | exact HB.out)⟩⟩
      · rw [if_neg c17] at H
        have c17b0 : (t481 != t487) = false := by simpa using c17
        (try (have c17b1 : decide (t481 = t487) = true := by simpa using c17))
        (try (have c17b2 : (t481 == t487) = true := by simpa using c17))
        clear c17
        (first | rw [c17b0] | (simp only [i64_w, i32_w]; rw [c17b0]) | skip)
        as_aux_lemma =>
          have H' := Aside0.mk H
          clear H
          have hnb18 := NB482_488.out
          have hnc18 := NB488_482.out
          have hcz19_0 : w14.cell? ⟨gb482, 0, none⟩ = some (.int .i64 t477) := (blk_cell BK482.out 0).trans rfl
          have hcz19_1 : w14.cell? ⟨gb482, 1, none⟩ = some (.int .i64 t478) := (blk_cell BK482.out 1).trans rfl
          have hcz19_2 : w14.cell? ⟨gb482, 2, none⟩ = some (.int .i64 t479) := (blk_cell BK482.out 2).trans rfl
          have hcz19_3 : w14.cell? ⟨gb482, 3, none⟩ = some (.int .i64 t480) := (blk_cell BK482.out 3).trans rfl
          have hfz19_0 := blk_frozen BK482.out 0
          have hfz19_1 := blk_frozen BK482.out 1
          have hfz19_2 := blk_frozen BK482.out 2
          have hfz19_3 := blk_frozen BK482.out 3
          have hcz20_0 : w14.cell? ⟨gb488, 0, none⟩ = some (.int .i64 0) := (blk_cell BK488.out 0).trans rfl
          have hcz20_1 : w14.cell? ⟨gb488, 1, none⟩ = some (.int .i64 0) := (blk_cell BK488.out 1).trans rfl
          have hcz20_2 : w14.cell? ⟨gb488, 2, none⟩ = some (.int .i64 0) := (blk_cell BK488.out 2).trans rfl
          have hcz20_3 : w14.cell? ⟨gb488, 3, none⟩ = some (.int .i64 0) := (blk_cell BK488.out 3).trans rfl
          have hfz20_0 := blk_frozen BK488.out 0
          have hfz20_1 := blk_frozen BK488.out 1
          have hfz20_2 := blk_frozen BK488.out 2
          have hfz20_3 := blk_frozen BK488.out 3
          go_wp2
          go_meet
          case rel => exact ⟨_, ((!(t477 == t483) || (!(t478 == t484) || (!(t479 == t485) || (!(t480 == t486)))))), (by first | rfl | (simp; done) | (simp [*]; done)), H', ⟨by first | omega | exact Nat.le_refl _⟩, ⟨by (with_reducible repeat (first | refine blk_drewN ?_ _ | refine blk_drew ?_ | refine blk_alloc ?_ _)); refine blk_far ?_ NB482_488.out _; (with_reducible repeat (first | refine blk_drewN ?_ _ | refine blk_drew ?_ | refine blk_alloc ?_ _)); refine blk_far ?_ NB482_488.out _; (with_reducible repeat (first | refine blk_drewN ?_ _ | refine blk_drew ?_ | refine blk_alloc ?_ _)); refine blk_far ?_ NB482_488.out _; (with_reducible repeat (first | refine blk_drewN ?_ _ | refine blk_drew ?_ | refine blk_alloc ?_ _)); refine blk_far ?_ NB482_488.out _; (with_reducible repeat (first | refine blk_drewN ?_ _ | refine blk_drew ?_ | refine blk_alloc ?_ _)); exact BK482.out⟩, ⟨by (with_reducible repeat (first | refine blk_drewN ?_ _ | refine blk_drew ?_ | refine blk_alloc ?_ _)); refine blk_put (cs := #[.int .i64 t483, .int .i64 t484, .int .i64 t485, .int .i64 0]) ?_ 3 _ rfl; (with_reducible repeat (first | refine blk_drewN ?_ _ | refine blk_drew ?_ | refine blk_alloc ?_ _)); refine blk_put (cs := #[.int .i64 t483, .int .i64 t484, .int .i64 0, .int .i64 0]) ?_ 2 _ rfl; (with_reducible repeat (first | refine blk_drewN ?_ _ | refine blk_drew ?_ | refine blk_alloc ?_ _)); refine blk_put (cs := #[.int .i64 t483, .int .i64 0, .int .i64 0, .int .i64 0]) ?_ 1 _ rfl; (with_reducible repeat (first | refine blk_drewN ?_ _ | refine blk_drew ?_ | refine blk_alloc ?_ _)); refine blk_put (cs := #[.int .i64 0, .int .i64 0, .int .i64 0, .int .i64 0]) ?_ 0 _ rfl; (with_reducible repeat (first | refine blk_drewN ?_ _ | refine blk_drew ?_ | refine blk_alloc ?_ _)); exact BK488.out⟩, ⟨by repeat (first | (with_reducible first | exact HB.out | apply below_alloc | apply pw_below_drewN | apply below_drew1 | refine below_set ?_ GE482.out | refine below_set ?_ GE488.out) | exact HB.out)⟩⟩
    case rest =>
      clear HC8
      try clear c1
      try clear p2
      try clear c4
      try clear c11
      try clear c12
      try clear c13
      try clear c14
      try clear c15
      try clear c17
      try clear c17b0
      try clear c17b1
      try clear c17b2
      try clear c18
      try clear hcz12_0
      try clear hcz12_1
      try clear hcz12_2
      try clear hcz12_3
      try clear hcz16_0
      try clear hcz16_1
      try clear hcz16_2
      try clear hcz16_3
      try clear hcz19_0
      try clear hcz19_1
      try clear hcz19_2
      try clear hcz19_3
      try clear hcz20_0
      try clear hcz20_1
      try clear hcz20_2
      try clear hcz20_3
      try clear hfz12_0
      try clear hfz12_1
      try clear hfz12_2
      try clear hfz12_3
      try clear hfz16_0
      try clear hfz16_1
      try clear hfz16_2
      try clear hfz16_3
      try clear hfz19_0
      try clear hfz19_1
      try clear hfz19_2
      try clear hfz19_3
      try clear hfz20_0
      try clear hfz20_1
      try clear hfz20_2
      try clear hfz20_3
      obtain ⟨kq, x62_7, rfl, HA, HJ7, BK482, BK488, HB⟩ := hcut
      cases kq with
      | zero => exact absurd HA.out (by simp [laws_FnWordsTold.j0])
      | succ kj7 =>
        have H := HA.out
        clear HA
        simp only [laws_FnWordsTold.j0] at H
        by_cases c21 : x62_7 = true
        · subst c21
          rw [if_pos rfl] at H
          obtain rfl := Option.some.inj H
          cases hrt
        · replace c21 := Bool.eq_false_iff.mpr c21
          subst c21
          rw [if_neg (show ¬ (false = true) by decide)] at H
          have HC22 := Aside0.mk H
          clear H
          go_upto_if 63 with (fail)
          go_cut [] (fun wc => ∃ (kq : Nat), Aside0 (laws_FnWordsTold.j2 kq l1 = some r) ∧ Aside0 (kq ≤ kj7) ∧ Aside0 (wc.heap[gb482]? = some (.cells #[.int .i64 t477, .int .i64 t478, .int .i64 t479, .int .i64 t480] 36 (0, 0))) ∧ Aside0 (wc.heap[gb488]? = some (.cells #[.int .i64 t483, .int .i64 t484, .int .i64 t485, .int .i64 t486] 36 (0, 0))) ∧ Aside0 (Below w.heap.size w wc))
          case first =>
            have H := HC22.out
            clear HC22
            by_cases c23 : t481 = true
            · subst c23
              rw [if_pos rfl] at H
              replace H := Option.bind_eq_some_iff.mp H
              obtain ⟨⟨t489, t490⟩, A240, H⟩ := H
              try dsimp only at H
              have A24 := Aside0.mk A240
              clear A240
              have HC25 := Aside0.mk H
              clear H
              have hnb26 := NB482_488.out
              have hnc26 := NB488_482.out
              have hcz27_0 : wc.cell? ⟨gb482, 0, none⟩ = some (.int .i64 t477) := (blk_cell BK482.out 0).trans rfl
              have hcz27_1 : wc.cell? ⟨gb482, 1, none⟩ = some (.int .i64 t478) := (blk_cell BK482.out 1).trans rfl
              have hcz27_2 : wc.cell? ⟨gb482, 2, none⟩ = some (.int .i64 t479) := (blk_cell BK482.out 2).trans rfl
              have hcz27_3 : wc.cell? ⟨gb482, 3, none⟩ = some (.int .i64 t480) := (blk_cell BK482.out 3).trans rfl
              have hfz27_0 := blk_frozen BK482.out 0
              have hfz27_1 := blk_frozen BK482.out 1
              have hfz27_2 := blk_frozen BK482.out 2
              have hfz27_3 := blk_frozen BK482.out 3
              go_upto_region 10 with (first | ((with_reducible refine gate_callee (f := 15) rfl ?_); refine goesL_ (some 66) rfl rfl Tryd.func15 (by kernel_rfl) rfl #[.agg #[.int .i64 t477, .int .i64 t478, .int .i64 t479, .int .i64 t480]] rfl (by (try simp only [List.map_toArray, List.map_cons, List.map_nil]); first | done | rfl | (simp only [List.length_drop, List.length_take]; rfl)) ?_; (with_reducible refine (impl_WordOfMatrix.calls kj7 t477 t478 t479 t480 t489 t490 _ A24.out).mono ?_); rintro e w28 ⟨rfl, hb⟩; refine ⟨_, rfl, ?_⟩; have n0_ := Aside0.mk (blk_below (g := gb482) (o := .cells #[.int .i64 t477, .int .i64 t478, .int .i64 t479, .int .i64 t480] 36 (0, 0)) (by (with_reducible repeat (first | refine blk_drewN ?_ _ | refine blk_drew ?_ | refine blk_alloc ?_ _)); exact BK482.out) hb); have n1_ := Aside0.mk (blk_below (g := gb488) (o := .cells #[.int .i64 t483, .int .i64 t484, .int .i64 t485, .int .i64 t486] 36 (0, 0)) (by (with_reducible repeat (first | refine blk_drewN ?_ _ | refine blk_drew ?_ | refine blk_alloc ?_ _)); exact BK488.out) hb); have n2_ := Aside0.mk (below_step (by repeat (first | (with_reducible first | exact HB.out | apply below_alloc | apply pw_below_drewN | apply below_drew1 | refine below_set ?_ GE482.out | refine below_set ?_ GE488.out) | exact HB.out)) hb); clear BK482; clear BK488; clear HB; have BK482 := n0_; have BK488 := n1_; have HB := n2_; clear n0_ n1_ n2_; (try clear hb); (try clear hb2); (try clear hk); (try clear hi)))
              (try simp only [Act.put, List.setIfInBounds_toArray, List.set_cons_zero, List.set_cons_succ])
              go_cut [95] (fun v95 wc => ∃ (kq : Nat) (x95_24 : Bool), v95 = .bool x95_24 ∧ Aside0 (laws_FnWordsTold.j1 kq l1 t476 x95_24 t477 t478 t479 t480 = some r) ∧ Aside0 (kq ≤ kj7) ∧ Aside0 (wc.heap[gb482]? = some (.cells #[.int .i64 t477, .int .i64 t478, .int .i64 t479, .int .i64 t480] 36 (0, 0))) ∧ Aside0 (wc.heap[gb488]? = some (.cells #[.int .i64 t483, .int .i64 t484, .int .i64 t485, .int .i64 t486] 36 (0, 0))) ∧ Aside0 (Below w.heap.size w wc))
              case first =>
                have H := HC25.out
                clear HC25
                by_cases c29 : t490 = true
                · subst c29
                  rw [if_pos rfl] at H
                  by_cases c30 : t489.toList = t476.toList
                  · rw [if_pos c30] at H
                    have c30b0 : (t489.toList == t476.toList) = true := beq_iff_eq.mpr c30
                    have c30b1 : (t489.toList != t476.toList) = false := bne_eq_false_iff_eq.mpr c30
                    clear c30
                    (first | rw [c30b0] | (simp only [i64_w, i32_w]; rw [c30b0]) | skip)
                    by_cases c31 : t477 < 0
                    · rw [if_pos c31] at H
                      have c31b0 : decide (t477 < 0) = true := decide_eq_true c31
                      clear c31
                      as_aux_lemma =>
                        have H' := Aside0.mk H
                        clear H
                        have hnb32 := NB482_488.out
                        have hnc32 := NB488_482.out
                        have hcz33_0 : w28.cell? ⟨gb482, 0, none⟩ = some (.int .i64 t477) := (blk_cell BK482.out 0).trans rfl
                        have hcz33_1 : w28.cell? ⟨gb482, 1, none⟩ = some (.int .i64 t478) := (blk_cell BK482.out 1).trans rfl
                        have hcz33_2 : w28.cell? ⟨gb482, 2, none⟩ = some (.int .i64 t479) := (blk_cell BK482.out 2).trans rfl
                        have hcz33_3 : w28.cell? ⟨gb482, 3, none⟩ = some (.int .i64 t480) := (blk_cell BK482.out 3).trans rfl
                        have hfz33_0 := blk_frozen BK482.out 0
                        have hfz33_1 := blk_frozen BK482.out 1
                        have hfz33_2 := blk_frozen BK482.out 2
                        have hfz33_3 := blk_frozen BK482.out 3
                        go_wp2
                        go_meet
                        case rel => exact ⟨_, (true), (by first | rfl | (simp; done) | (simp [*]; done)), H', ⟨by have := HJ7.out; first | omega | exact Nat.le_refl _⟩, ⟨by (with_reducible repeat (first | refine blk_drewN ?_ _ | refine blk_drew ?_ | refine blk_alloc ?_ _)); exact BK482.out⟩, ⟨by (with_reducible repeat (first | refine blk_drewN ?_ _ | refine blk_drew ?_ | refine blk_alloc ?_ _)); exact BK488.out⟩, ⟨by repeat (first | (with_reducible first | exact HB.out | apply below_alloc | apply pw_below_drewN | apply below_drew1 | refine below_set ?_ GE482.out | refine below_set ?_ GE488.out) | exact HB.out)⟩⟩
                    · rw [if_neg c31] at H
                      have c31b0 : decide (t477 < 0) = false := decide_eq_false c31
                      clear c31
                      by_cases c34 : t478 < 0
                      · rw [if_pos c34] at H
                        have c34b0 : decide (t478 < 0) = true := decide_eq_true c34
                        clear c34
                        as_aux_lemma =>
                          have H' := Aside0.mk H
                          clear H
                          have hnb35 := NB482_488.out
                          have hnc35 := NB488_482.out
                          have hcz36_0 : w28.cell? ⟨gb482, 0, none⟩ = some (.int .i64 t477) := (blk_cell BK482.out 0).trans rfl
                          have hcz36_1 : w28.cell? ⟨gb482, 1, none⟩ = some (.int .i64 t478) := (blk_cell BK482.out 1).trans rfl
                          have hcz36_2 : w28.cell? ⟨gb482, 2, none⟩ = some (.int .i64 t479) := (blk_cell BK482.out 2).trans rfl
                          have hcz36_3 : w28.cell? ⟨gb482, 3, none⟩ = some (.int .i64 t480) := (blk_cell BK482.out 3).trans rfl
                          have hfz36_0 := blk_frozen BK482.out 0
                          have hfz36_1 := blk_frozen BK482.out 1
                          have hfz36_2 := blk_frozen BK482.out 2
                          have hfz36_3 := blk_frozen BK482.out 3
                          go_wp2
                          go_meet
                          case rel => exact ⟨_, (true), (by first | rfl | (simp; done) | (simp [*]; done)), H', ⟨by have := HJ7.out; first | omega | exact Nat.le_refl _⟩, ⟨by (with_reducible repeat (first | refine blk_drewN ?_ _ | refine blk_drew ?_ | refine blk_alloc ?_ _)); exact BK482.out⟩, ⟨by (with_reducible repeat (first | refine blk_drewN ?_ _ | refine blk_drew ?_ | refine blk_alloc ?_ _)); exact BK488.out⟩, ⟨by repeat (first | (with_reducible first | exact HB.out | apply below_alloc | apply pw_below_drewN | apply below_drew1 | refine below_set ?_ GE482.out | refine below_set ?_ GE488.out) | exact HB.out)⟩⟩
                      · rw [if_neg c34] at H
                        have c34b0 : decide (t478 < 0) = false := decide_eq_false c34
                        clear c34
                        by_cases c37 : t479 < 0
                        · rw [if_pos c37] at H
                          have c37b0 : decide (t479 < 0) = true := decide_eq_true c37
                          clear c37
                          as_aux_lemma =>
                            have H' := Aside0.mk H
                            clear H
                            have hnb38 := NB482_488.out
                            have hnc38 := NB488_482.out
                            have hcz39_0 : w28.cell? ⟨gb482, 0, none⟩ = some (.int .i64 t477) := (blk_cell BK482.out 0).trans rfl
                            have hcz39_1 : w28.cell? ⟨gb482, 1, none⟩ = some (.int .i64 t478) := (blk_cell BK482.out 1).trans rfl
                            have hcz39_2 : w28.cell? ⟨gb482, 2, none⟩ = some (.int .i64 t479) := (blk_cell BK482.out 2).trans rfl
                            have hcz39_3 : w28.cell? ⟨gb482, 3, none⟩ = some (.int .i64 t480) := (blk_cell BK482.out 3).trans rfl
                            have hfz39_0 := blk_frozen BK482.out 0
                            have hfz39_1 := blk_frozen BK482.out 1
                            have hfz39_2 := blk_frozen BK482.out 2
                            have hfz39_3 := blk_frozen BK482.out 3
                            go_wp2
                            go_meet
                            case rel => exact ⟨_, (true), (by first | rfl | (simp; done) | (simp [*]; done)), H', ⟨by have := HJ7.out; first | omega | exact Nat.le_refl _⟩, ⟨by (with_reducible repeat (first | refine blk_drewN ?_ _ | refine blk_drew ?_ | refine blk_alloc ?_ _)); exact BK482.out⟩, ⟨by (with_reducible repeat (first | refine blk_drewN ?_ _ | refine blk_drew ?_ | refine blk_alloc ?_ _)); exact BK488.out⟩, ⟨by repeat (first | (with_reducible first | exact HB.out | apply below_alloc | apply pw_below_drewN | apply below_drew1 | refine below_set ?_ GE482.out | refine below_set ?_ GE488.out) | exact HB.out)⟩⟩
                        · rw [if_neg c37] at H
                          have c37b0 : decide (t479 < 0) = false := decide_eq_false c37
                          clear c37
                          as_aux_lemma =>
                            have H' := Aside0.mk H
                            clear H
                            have hnb40 := NB482_488.out
                            have hnc40 := NB488_482.out
                            have hcz41_0 : w28.cell? ⟨gb482, 0, none⟩ = some (.int .i64 t477) := (blk_cell BK482.out 0).trans rfl
                            have hcz41_1 : w28.cell? ⟨gb482, 1, none⟩ = some (.int .i64 t478) := (blk_cell BK482.out 1).trans rfl
                            have hcz41_2 : w28.cell? ⟨gb482, 2, none⟩ = some (.int .i64 t479) := (blk_cell BK482.out 2).trans rfl
                            have hcz41_3 : w28.cell? ⟨gb482, 3, none⟩ = some (.int .i64 t480) := (blk_cell BK482.out 3).trans rfl
                            have hfz41_0 := blk_frozen BK482.out 0
                            have hfz41_1 := blk_frozen BK482.out 1
                            have hfz41_2 := blk_frozen BK482.out 2
                            have hfz41_3 := blk_frozen BK482.out 3
                            go_wp2
                            go_meet
                            case rel => exact ⟨_, (decide (t480 < 0)), (by first | rfl | (simp; done) | (simp [*]; done)), H', ⟨by have := HJ7.out; first | omega | exact Nat.le_refl _⟩, ⟨by (with_reducible repeat (first | refine blk_drewN ?_ _ | refine blk_drew ?_ | refine blk_alloc ?_ _)); exact BK482.out⟩, ⟨by (with_reducible repeat (first | refine blk_drewN ?_ _ | refine blk_drew ?_ | refine blk_alloc ?_ _)); exact BK488.out⟩, ⟨by repeat (first | (with_reducible first | exact HB.out | apply below_alloc | apply pw_below_drewN | apply below_drew1 | refine below_set ?_ GE482.out | refine below_set ?_ GE488.out) | exact HB.out)⟩⟩
                  · rw [if_neg c30] at H
                    have c30b0 : (t489.toList == t476.toList) = false := beq_eq_false_iff_ne.mpr c30
                    have c30b1 : (t489.toList != t476.toList) = true := bne_iff_ne.mpr c30
                    (first | rw [c30b0] | (simp only [i64_w, i32_w]; rw [c30b0]) | skip)
                    as_aux_lemma =>
                      have H' := Aside0.mk H
                      clear H
                      go_wp2
                      go_meet
                      case rel => exact ⟨_, (true), (by first | rfl | (simp; done) | (simp [*]; done)), H', ⟨by have := HJ7.out; first | omega | exact Nat.le_refl _⟩, ⟨by (with_reducible repeat (first | refine blk_drewN ?_ _ | refine blk_drew ?_ | refine blk_alloc ?_ _)); exact BK482.out⟩, ⟨by (with_reducible repeat (first | refine blk_drewN ?_ _ | refine blk_drew ?_ | refine blk_alloc ?_ _)); exact BK488.out⟩, ⟨by repeat (first | (with_reducible first | exact HB.out | apply below_alloc | apply pw_below_drewN | apply below_drew1 | refine below_set ?_ GE482.out | refine below_set ?_ GE488.out) | exact HB.out)⟩⟩
                · replace c29 := Bool.eq_false_iff.mpr c29
                  subst c29
                  rw [if_neg (show ¬ (false = true) by decide)] at H
                  as_aux_lemma =>
                    have H' := Aside0.mk H
                    clear H
                    go_wp2
                    go_meet
                    case rel => exact ⟨_, (true), (by first | rfl | (simp; done) | (simp [*]; done)), H', ⟨by have := HJ7.out; first | omega | exact Nat.le_refl _⟩, ⟨by (with_reducible repeat (first | refine blk_drewN ?_ _ | refine blk_drew ?_ | refine blk_alloc ?_ _)); exact BK482.out⟩, ⟨by (with_reducible repeat (first | refine blk_drewN ?_ _ | refine blk_drew ?_ | refine blk_alloc ?_ _)); exact BK488.out⟩, ⟨by repeat (first | (with_reducible first | exact HB.out | apply below_alloc | apply pw_below_drewN | apply below_drew1 | refine below_set ?_ GE482.out | refine below_set ?_ GE488.out) | exact HB.out)⟩⟩
              case rest =>
                clear HC25
                try clear c1
                try clear c2
                try clear p2
                try clear c3
                try clear c4
                try clear c11
                try clear c12
                try clear c13
                try clear c14
                try clear c15
                try clear c17
                try clear c17b0
                try clear c17b1
                try clear c17b2
                try clear c18
                try clear c21
                try clear c23
                try clear c26
                try clear c29
                try clear c30
                try clear c30b0
                try clear c30b1
                try clear c31
                try clear c31b0
                try clear c32
                try clear c34
                try clear c34b0
                try clear c35
                try clear c37
                try clear c37b0
                try clear c38
                try clear c40
                try clear hcz12_0
                try clear hcz12_1
                try clear hcz12_2
                try clear hcz12_3
                try clear hcz16_0
                try clear hcz16_1
                try clear hcz16_2
                try clear hcz16_3
                try clear hcz19_0
                try clear hcz19_1
                try clear hcz19_2
                try clear hcz19_3
                try clear hcz20_0
                try clear hcz20_1
                try clear hcz20_2
                try clear hcz20_3
                try clear hcz27_0
                try clear hcz27_1
                try clear hcz27_2
                try clear hcz27_3
                try clear hcz33_0
                try clear hcz33_1
                try clear hcz33_2
                try clear hcz33_3
                try clear hcz36_0
                try clear hcz36_1
                try clear hcz36_2
                try clear hcz36_3
                try clear hcz39_0
                try clear hcz39_1
                try clear hcz39_2
                try clear hcz39_3
                try clear hcz41_0
                try clear hcz41_1
                try clear hcz41_2
                try clear hcz41_3
                try clear hfz12_0
                try clear hfz12_1
                try clear hfz12_2
                try clear hfz12_3
                try clear hfz16_0
                try clear hfz16_1
                try clear hfz16_2
                try clear hfz16_3
                try clear hfz19_0
                try clear hfz19_1
                try clear hfz19_2
                try clear hfz19_3
                try clear hfz20_0
                try clear hfz20_1
                try clear hfz20_2
                try clear hfz20_3
                try clear hfz27_0
                try clear hfz27_1
                try clear hfz27_2
                try clear hfz27_3
                try clear hfz33_0
                try clear hfz33_1
                try clear hfz33_2
                try clear hfz33_3
                try clear hfz36_0
                try clear hfz36_1
                try clear hfz36_2
                try clear hfz36_3
                try clear hfz39_0
                try clear hfz39_1
                try clear hfz39_2
                try clear hfz39_3
                try clear hfz41_0
                try clear hfz41_1
                try clear hfz41_2
                try clear hfz41_3
                try clear p2
                obtain ⟨kq, x95_24, rfl, HA, HJ24, BK482, BK488, HB⟩ := hcut
                cases kq with
                | zero => exact absurd HA.out (by simp [laws_FnWordsTold.j1])
                | succ kj24 =>
                  have H := HA.out
                  clear HA
                  simp only [laws_FnWordsTold.j1] at H
                  by_cases c42 : x95_24 = true
                  · subst c42
                    rw [if_pos rfl] at H
                    obtain rfl := Option.some.inj H
                    cases hrt
                  · replace c42 := Bool.eq_false_iff.mpr c42
                    subst c42
                    rw [if_neg (show ¬ (false = true) by decide)] at H
                    obtain ⟨ji43, hji43⟩ : ∃ j_ : Int, (wrap64 ((t476.size : Int) / 2)) = j_ := ⟨_, rfl⟩
                    replace H : (if 0 ≤ (ji43) then (if (ji43) ≤ (t476.size : Int) then ((impl_MatrixOfWord.f kj24 (t476.extract 0 ((ji43) : Int).toNat)).bind fun bt491 => ((impl_MatrixOfWord.f kj24 (t476.extract ((ji43) : Int).toNat t476.size)).bind fun bt497 => ((impl_TimesMatrix.f kj24 bt491.1 bt491.2.1 bt491.2.2.1 bt491.2.2.2.1 bt497.1 bt497.2.1 bt497.2.2.1 bt497.2.2.2.1).bind fun bt503 => (if bt491.2.2.2.2 = true then (if bt497.2.2.2.2 = true then (if bt503.2.2.2.2 = true then (if (!(bt503.1 == t477) || (!(bt503.2.1 == t478) || (!(bt503.2.2.1 == t479) || (!(bt503.2.2.2.1 == t480))))) = true then (some false) else (laws_FnWordsTold.j2 kj24 l1)) else (some false)) else (some false)) else (some false))))) else (none)) else (none)) = some r := by first | (rw [hji43] at H; exact H) | (simp only [hji43] at H ⊢; exact H)
                    have hji43w : (IntKind.i64.wrap ((t476.size : Int) / 2)) = ji43 := (i64_w _).trans hji43
                    by_cases c44 : 0 ≤ (ji43)
                    · rw [if_pos c44] at H
                      have c44b0 := eq_true c44
                      have c44b1 : decide (0 ≤ (ji43)) = true := decide_eq_true c44
                      clear c44
                      by_cases c45 : (ji43) ≤ (t476.size : Int)
                      · rw [if_pos c45] at H
                        have c45b0 := eq_true c45
                        have c45b1 : decide ((ji43) ≤ (t476.size : Int)) = true := decide_eq_true c45
                        clear c45
                        replace H := Option.bind_eq_some_iff.mp H
                        obtain ⟨⟨t491, t492, t493, t494, t495⟩, A460, H⟩ := H
                        try dsimp only at H
                        have A46 := Aside0.mk A460
                        clear A460
                        have c47b0 := eq_true (of_decide_eq_true (by first | (with_reducible assumption) | assumption) : 0 ≤ (ji43))
                        have c48b0 := eq_true (of_decide_eq_true (by first | (with_reducible assumption) | assumption) : (ji43) ≤ (t476.size : Int))
                        replace H := Option.bind_eq_some_iff.mp H
                        obtain ⟨⟨t497, t498, t499, t500, t501⟩, A490, H⟩ := H
                        try dsimp only at H
                        have A49 := Aside0.mk A490
                        clear A490
                        replace H := Option.bind_eq_some_iff.mp H
                        obtain ⟨⟨t503, t504, t505, t506, t507⟩, A500, H⟩ := H
                        try dsimp only at H
                        have A50 := Aside0.mk A500
                        clear A500
                        by_cases c51 : t495 = true
                        · subst c51
                          rw [if_pos rfl] at H
                          by_cases c52 : t501 = true
                          · subst c52
                            rw [if_pos rfl] at H
                            by_cases c53 : t507 = true
                            · subst c53
                              rw [if_pos rfl] at H
                              by_cases c54 : (!(t503 == t477) || (!(t504 == t478) || (!(t505 == t479) || (!(t506 == t480))))) = true
                              · rw [if_pos c54] at H
                                have c54b0 : (!(t503 == t477) || (!(t504 == t478) || (!(t505 == t479) || (!(t506 == t480))))) = true := c54
                                clear c54
                                obtain rfl := Option.some.inj H
                                cases hrt
                              · rw [if_neg c54] at H
                                have c54b0 : (!(t503 == t477) || (!(t504 == t478) || (!(t505 == t479) || (!(t506 == t480))))) = false := by simpa using c54
                                clear c54
                                as_aux_lemma =>
                                  have H' := Aside0.mk H
                                  clear H
                                  go_wp2_with (first | ((with_reducible refine gate_callee (f := 13) rfl ?_); refine goesL_ (some 103) rfl rfl Tryd.func13 (by kernel_rfl) rfl #[.string (t476.extract 0 ((ji43) : Int).toNat)] rfl (by (try simp only [List.map_toArray, List.map_cons, List.map_nil]); first | done | (simp only [hji43]; rfl) | rfl | (simp only [List.length_drop, List.length_take]; rfl)) ?_; (with_reducible refine (impl_MatrixOfWord.calls kj24 (t476.extract 0 ((ji43) : Int).toNat) t491 t492 t493 t494 true _ A46.out).mono ?_); rintro e w55 ⟨rfl, hb⟩; refine ⟨_, rfl, ?_⟩; have n0_ := Aside0.mk (blk_below (g := gb482) (o := .cells #[.int .i64 t477, .int .i64 t478, .int .i64 t479, .int .i64 t480] 36 (0, 0)) (by (with_reducible repeat (first | refine blk_drewN ?_ _ | refine blk_drew ?_ | refine blk_alloc ?_ _)); exact BK482.out) hb); have n1_ := Aside0.mk (blk_below (g := gb488) (o := .cells #[.int .i64 t483, .int .i64 t484, .int .i64 t485, .int .i64 t486] 36 (0, 0)) (by (with_reducible repeat (first | refine blk_drewN ?_ _ | refine blk_drew ?_ | refine blk_alloc ?_ _)); exact BK488.out) hb); have n2_ := Aside0.mk (below_step (by repeat (first | (with_reducible first | exact HB.out | apply below_alloc | apply pw_below_drewN | apply below_drew1 | refine below_set ?_ GE482.out | refine below_set ?_ GE488.out) | exact HB.out)) hb); clear BK482; clear BK488; clear HB; have BK482 := n0_; have BK488 := n1_; have HB := n2_; clear n0_ n1_ n2_; (try clear hb); (try clear hb2); (try clear hk); (try clear hi)) | ((with_reducible refine gate_dst (N := 13) rfl ?_); refine box_event ?hg (N := 13) ?hd (cs := #[.int .i64 0, .int .i64 0, .int .i64 0, .int .i64 0]) (t := 36) ?hr ?_; (case hd => rfl); (case hg => rfl); (case hr => first | (go_simp; done) | (go_simp; rfl)); intro gb496 hg w56 hbox hb; have n0_ := Aside0.mk (blk_below (g := gb482) (o := .cells #[.int .i64 t477, .int .i64 t478, .int .i64 t479, .int .i64 t480] 36 (0, 0)) (by (with_reducible repeat (first | refine blk_drewN ?_ _ | refine blk_drew ?_ | refine blk_alloc ?_ _)); exact BK482.out) hb); have n1_ := Aside0.mk (blk_below (g := gb488) (o := .cells #[.int .i64 t483, .int .i64 t484, .int .i64 t485, .int .i64 t486] 36 (0, 0)) (by (with_reducible repeat (first | refine blk_drewN ?_ _ | refine blk_drew ?_ | refine blk_alloc ?_ _)); exact BK488.out) hb); have n2_ := Aside0.mk (below_step (by repeat (first | (with_reducible first | exact HB.out | apply below_alloc | apply pw_below_drewN | apply below_drew1 | refine below_set ?_ GE482.out | refine below_set ?_ GE488.out) | exact HB.out)) hb); have n3_ := Aside0.mk (hbox); have n4_ := Aside0.mk ((by rw [hg]; exact (below_size (by repeat (first | (with_reducible first | exact HB.out | apply below_alloc | apply pw_below_drewN | apply below_drew1 | refine below_set ?_ GE482.out | refine below_set ?_ GE488.out) | exact HB.out))) : w.heap.size ≤ gb496)); have n5_ := Aside0.mk ((by rw [hg]; exact (below_size (by repeat (first | (with_reducible first | exact HB.out | apply below_alloc | apply pw_below_drewN | apply below_drew1 | refine below_set ?_ GE482.out | refine below_set ?_ GE488.out) | exact HB.out))) : w.heap.size ≤ gb496)); have n6_ := Aside0.mk ((by rw [hg]; exact Nat.ne_of_lt (blk_lt (g := gb482) (o := .cells #[.int .i64 t477, .int .i64 t478, .int .i64 t479, .int .i64 t480] 36 (0, 0)) (by (with_reducible repeat (first | refine blk_drewN ?_ _ | refine blk_drew ?_ | refine blk_alloc ?_ _)); exact BK482.out)) : gb482 ≠ gb496)); have n7_ := Aside0.mk ((by rw [hg]; exact Nat.ne_of_gt (blk_lt (g := gb482) (o := .cells #[.int .i64 t477, .int .i64 t478, .int .i64 t479, .int .i64 t480] 36 (0, 0)) (by (with_reducible repeat (first | refine blk_drewN ?_ _ | refine blk_drew ?_ | refine blk_alloc ?_ _)); exact BK482.out)) : gb496 ≠ gb482)); have n8_ := Aside0.mk ((by rw [hg]; exact Nat.ne_of_lt (blk_lt (g := gb488) (o := .cells #[.int .i64 t483, .int .i64 t484, .int .i64 t485, .int .i64 t486] 36 (0, 0)) (by (with_reducible repeat (first | refine blk_drewN ?_ _ | refine blk_drew ?_ | refine blk_alloc ?_ _)); exact BK488.out)) : gb488 ≠ gb496)); have n9_ := Aside0.mk ((by rw [hg]; exact Nat.ne_of_gt (blk_lt (g := gb488) (o := .cells #[.int .i64 t483, .int .i64 t484, .int .i64 t485, .int .i64 t486] 36 (0, 0)) (by (with_reducible repeat (first | refine blk_drewN ?_ _ | refine blk_drew ?_ | refine blk_alloc ?_ _)); exact BK488.out)) : gb496 ≠ gb488)); clear BK482; clear BK488; clear HB; have BK482 := n0_; have BK488 := n1_; have HB := n2_; have BK496 := n3_; have GW496 := n4_; have GE496 := n5_; have NB482_496 := n6_; have NB496_482 := n7_; have NB488_496 := n8_; have NB496_488 := n9_; clear n0_ n1_ n2_ n3_ n4_ n5_ n6_ n7_ n8_ n9_; clear hb hbox hg; have hnb57 := NB496_482.out; have hnc57 := NB482_496.out; have hnb58 := NB496_488.out; have hnc58 := NB488_496.out; have hcz59_0 : w56.cell? ⟨gb496, 0, none⟩ = some (.int .i64 0) := (blk_cell BK496.out 0).trans rfl; have hcz59_1 : w56.cell? ⟨gb496, 1, none⟩ = some (.int .i64 0) := (blk_cell BK496.out 1).trans rfl; have hcz59_2 : w56.cell? ⟨gb496, 2, none⟩ = some (.int .i64 0) := (blk_cell BK496.out 2).trans rfl; have hcz59_3 : w56.cell? ⟨gb496, 3, none⟩ = some (.int .i64 0) := (blk_cell BK496.out 3).trans rfl; have hfz59_0 := blk_frozen BK496.out 0; have hfz59_1 := blk_frozen BK496.out 1; have hfz59_2 := blk_frozen BK496.out 2; have hfz59_3 := blk_frozen BK496.out 3) | ((with_reducible refine gate_callee (f := 13) rfl ?_); refine goesL_ (some 110) rfl rfl Tryd.func13 (by kernel_rfl) rfl #[.string (t476.extract ((ji43) : Int).toNat t476.size)] rfl (by (try simp only [List.map_toArray, List.map_cons, List.map_nil]); first | done | (simp only [hji43]; rfl) | rfl | (simp only [List.length_drop, List.length_take]; rfl)) ?_; (with_reducible refine (impl_MatrixOfWord.calls kj24 (t476.extract ((ji43) : Int).toNat t476.size) t497 t498 t499 t500 true _ A49.out).mono ?_); rintro e w60 ⟨rfl, hb⟩; refine ⟨_, rfl, ?_⟩; have n0_ := Aside0.mk (blk_below (g := gb482) (o := .cells #[.int .i64 t477, .int .i64 t478, .int .i64 t479, .int .i64 t480] 36 (0, 0)) (by (with_reducible repeat (first | refine blk_drewN ?_ _ | refine blk_drew ?_ | refine blk_alloc ?_ _)); refine blk_far ?_ NB482_496.out _; (with_reducible repeat (first | refine blk_drewN ?_ _ | refine blk_drew ?_ | refine blk_alloc ?_ _)); refine blk_far ?_ NB482_496.out _; (with_reducible repeat (first | refine blk_drewN ?_ _ | refine blk_drew ?_ | refine blk_alloc ?_ _)); refine blk_far ?_ NB482_496.out _; (with_reducible repeat (first | refine blk_drewN ?_ _ | refine blk_drew ?_ | refine blk_alloc ?_ _)); refine blk_far ?_ NB482_496.out _; (with_reducible repeat (first | refine blk_drewN ?_ _ | refine blk_drew ?_ | refine blk_alloc ?_ _)); exact BK482.out) hb); have n1_ := Aside0.mk (blk_below (g := gb488) (o := .cells #[.int .i64 t483, .int .i64 t484, .int .i64 t485, .int .i64 t486] 36 (0, 0)) (by (with_reducible repeat (first | refine blk_drewN ?_ _ | refine blk_drew ?_ | refine blk_alloc ?_ _)); refine blk_far ?_ NB488_496.out _; (with_reducible repeat (first | refine blk_drewN ?_ _ | refine blk_drew ?_ | refine blk_alloc ?_ _)); refine blk_far ?_ NB488_496.out _; (with_reducible repeat (first | refine blk_drewN ?_ _ | refine blk_drew ?_ | refine blk_alloc ?_ _)); refine blk_far ?_ NB488_496.out _; (with_reducible repeat (first | refine blk_drewN ?_ _ | refine blk_drew ?_ | refine blk_alloc ?_ _)); refine blk_far ?_ NB488_496.out _; (with_reducible repeat (first | refine blk_drewN ?_ _ | refine blk_drew ?_ | refine blk_alloc ?_ _)); exact BK488.out) hb); have n2_ := Aside0.mk (blk_below (g := gb496) (o := .cells #[.int .i64 t491, .int .i64 t492, .int .i64 t493, .int .i64 t494] 36 (0, 0)) (by (with_reducible repeat (first | refine blk_drewN ?_ _ | refine blk_drew ?_ | refine blk_alloc ?_ _)); refine blk_put (cs := #[.int .i64 t491, .int .i64 t492, .int .i64 t493, .int .i64 0]) ?_ 3 _ rfl; (with_reducible repeat (first | refine blk_drewN ?_ _ | refine blk_drew ?_ | refine blk_alloc ?_ _)); refine blk_put (cs := #[.int .i64 t491, .int .i64 t492, .int .i64 0, .int .i64 0]) ?_ 2 _ rfl; (with_reducible repeat (first | refine blk_drewN ?_ _ | refine blk_drew ?_ | refine blk_alloc ?_ _)); refine blk_put (cs := #[.int .i64 t491, .int .i64 0, .int .i64 0, .int .i64 0]) ?_ 1 _ rfl; (with_reducible repeat (first | refine blk_drewN ?_ _ | refine blk_drew ?_ | refine blk_alloc ?_ _)); refine blk_put (cs := #[.int .i64 0, .int .i64 0, .int .i64 0, .int .i64 0]) ?_ 0 _ rfl; (with_reducible repeat (first | refine blk_drewN ?_ _ | refine blk_drew ?_ | refine blk_alloc ?_ _)); exact BK496.out) hb); have n3_ := Aside0.mk (below_step (by repeat (first | (with_reducible first | exact HB.out | apply below_alloc | apply pw_below_drewN | apply below_drew1 | refine below_set ?_ GE482.out | refine below_set ?_ GE488.out | refine below_set ?_ GE496.out) | exact HB.out)) hb); clear BK482; clear BK488; clear BK496; clear HB; have BK482 := n0_; have BK488 := n1_; have BK496 := n2_; have HB := n3_; clear n0_ n1_ n2_ n3_; (try clear hb); (try clear hb2); (try clear hk); (try clear hi)) | ((with_reducible refine gate_dst (N := 15) rfl ?_); refine box_event ?hg (N := 15) ?hd (cs := #[.int .i64 0, .int .i64 0, .int .i64 0, .int .i64 0]) (t := 36) ?hr ?_; (case hd => rfl); (case hg => rfl); (case hr => first | (go_simp; done) | (go_simp; rfl)); intro gb502 hg w61 hbox hb; have n0_ := Aside0.mk (blk_below (g := gb482) (o := .cells #[.int .i64 t477, .int .i64 t478, .int .i64 t479, .int .i64 t480] 36 (0, 0)) (by (with_reducible repeat (first | refine blk_drewN ?_ _ | refine blk_drew ?_ | refine blk_alloc ?_ _)); exact BK482.out) hb); have n1_ := Aside0.mk (blk_below (g := gb488) (o := .cells #[.int .i64 t483, .int .i64 t484, .int .i64 t485, .int .i64 t486] 36 (0, 0)) (by (with_reducible repeat (first | refine blk_drewN ?_ _ | refine blk_drew ?_ | refine blk_alloc ?_ _)); exact BK488.out) hb); have n2_ := Aside0.mk (blk_below (g := gb496) (o := .cells #[.int .i64 t491, .int .i64 t492, .int .i64 t493, .int .i64 t494] 36 (0, 0)) (by (with_reducible repeat (first | refine blk_drewN ?_ _ | refine blk_drew ?_ | refine blk_alloc ?_ _)); exact BK496.out) hb); have n3_ := Aside0.mk (below_step (by repeat (first | (with_reducible first | exact HB.out | apply below_alloc | apply pw_below_drewN | apply below_drew1 | refine below_set ?_ GE482.out | refine below_set ?_ GE488.out | refine below_set ?_ GE496.out) | exact HB.out)) hb); have n4_ := Aside0.mk (hbox); have n5_ := Aside0.mk ((by rw [hg]; exact (below_size (by repeat (first | (with_reducible first | exact HB.out | apply below_alloc | apply pw_below_drewN | apply below_drew1 | refine below_set ?_ GE482.out | refine below_set ?_ GE488.out | refine below_set ?_ GE496.out) | exact HB.out))) : w.heap.size ≤ gb502)); have n6_ := Aside0.mk ((by rw [hg]; exact (below_size (by repeat (first | (with_reducible first | exact HB.out | apply below_alloc | apply pw_below_drewN | apply below_drew1 | refine below_set ?_ GE482.out | refine below_set ?_ GE488.out | refine below_set ?_ GE496.out) | exact HB.out))) : w.heap.size ≤ gb502)); have n7_ := Aside0.mk ((by rw [hg]; exact Nat.ne_of_lt (blk_lt (g := gb482) (o := .cells #[.int .i64 t477, .int .i64 t478, .int .i64 t479, .int .i64 t480] 36 (0, 0)) (by (with_reducible repeat (first | refine blk_drewN ?_ _ | refine blk_drew ?_ | refine blk_alloc ?_ _)); exact BK482.out)) : gb482 ≠ gb502)); have n8_ := Aside0.mk ((by rw [hg]; exact Nat.ne_of_gt (blk_lt (g := gb482) (o := .cells #[.int .i64 t477, .int .i64 t478, .int .i64 t479, .int .i64 t480] 36 (0, 0)) (by (with_reducible repeat (first | refine blk_drewN ?_ _ | refine blk_drew ?_ | refine blk_alloc ?_ _)); exact BK482.out)) : gb502 ≠ gb482)); have n9_ := Aside0.mk ((by rw [hg]; exact Nat.ne_of_lt (blk_lt (g := gb488) (o := .cells #[.int .i64 t483, .int .i64 t484, .int .i64 t485, .int .i64 t486] 36 (0, 0)) (by (with_reducible repeat (first | refine blk_drewN ?_ _ | refine blk_drew ?_ | refine blk_alloc ?_ _)); exact BK488.out)) : gb488 ≠ gb502)); have n10_ := Aside0.mk ((by rw [hg]; exact Nat.ne_of_gt (blk_lt (g := gb488) (o := .cells #[.int .i64 t483, .int .i64 t484, .int .i64 t485, .int .i64 t486] 36 (0, 0)) (by (with_reducible repeat (first | refine blk_drewN ?_ _ | refine blk_drew ?_ | refine blk_alloc ?_ _)); exact BK488.out)) : gb502 ≠ gb488)); have n11_ := Aside0.mk ((by rw [hg]; exact Nat.ne_of_lt (blk_lt (g := gb496) (o := .cells #[.int .i64 t491, .int .i64 t492, .int .i64 t493, .int .i64 t494] 36 (0, 0)) (by (with_reducible repeat (first | refine blk_drewN ?_ _ | refine blk_drew ?_ | refine blk_alloc ?_ _)); exact BK496.out)) : gb496 ≠ gb502)); have n12_ := Aside0.mk ((by rw [hg]; exact Nat.ne_of_gt (blk_lt (g := gb496) (o := .cells #[.int .i64 t491, .int .i64 t492, .int .i64 t493, .int .i64 t494] 36 (0, 0)) (by (with_reducible repeat (first | refine blk_drewN ?_ _ | refine blk_drew ?_ | refine blk_alloc ?_ _)); exact BK496.out)) : gb502 ≠ gb496)); clear BK482; clear BK488; clear BK496; clear HB; have BK482 := n0_; have BK488 := n1_; have BK496 := n2_; have HB := n3_; have BK502 := n4_; have GW502 := n5_; have GE502 := n6_; have NB482_502 := n7_; have NB502_482 := n8_; have NB488_502 := n9_; have NB502_488 := n10_; have NB496_502 := n11_; have NB502_496 := n12_; clear n0_ n1_ n2_ n3_ n4_ n5_ n6_ n7_ n8_ n9_ n10_ n11_ n12_; clear hb hbox hg; have hnb62 := NB502_482.out; have hnc62 := NB482_502.out; have hnb63 := NB502_488.out; have hnc63 := NB488_502.out; have hnb64 := NB502_496.out; have hnc64 := NB496_502.out; have hcz65_0 : w61.cell? ⟨gb502, 0, none⟩ = some (.int .i64 0) := (blk_cell BK502.out 0).trans rfl; have hcz65_1 : w61.cell? ⟨gb502, 1, none⟩ = some (.int .i64 0) := (blk_cell BK502.out 1).trans rfl; have hcz65_2 : w61.cell? ⟨gb502, 2, none⟩ = some (.int .i64 0) := (blk_cell BK502.out 2).trans rfl; have hcz65_3 : w61.cell? ⟨gb502, 3, none⟩ = some (.int .i64 0) := (blk_cell BK502.out 3).trans rfl; have hfz65_0 := blk_frozen BK502.out 0; have hfz65_1 := blk_frozen BK502.out 1; have hfz65_2 := blk_frozen BK502.out 2; have hfz65_3 := blk_frozen BK502.out 3; have hcz66_0 : w61.cell? ⟨gb496, 0, none⟩ = some (.int .i64 t491) := (blk_cell BK496.out 0).trans rfl; have hcz66_1 : w61.cell? ⟨gb496, 1, none⟩ = some (.int .i64 t492) := (blk_cell BK496.out 1).trans rfl; have hcz66_2 : w61.cell? ⟨gb496, 2, none⟩ = some (.int .i64 t493) := (blk_cell BK496.out 2).trans rfl; have hcz66_3 : w61.cell? ⟨gb496, 3, none⟩ = some (.int .i64 t494) := (blk_cell BK496.out 3).trans rfl; have hfz66_0 := blk_frozen BK496.out 0; have hfz66_1 := blk_frozen BK496.out 1; have hfz66_2 := blk_frozen BK496.out 2; have hfz66_3 := blk_frozen BK496.out 3) | ((with_reducible refine gate_callee (f := 16) rfl ?_); refine goesL_ (some 116) rfl rfl Tryd.func16 (by kernel_rfl) rfl #[.agg #[.int .i64 t491, .int .i64 t492, .int .i64 t493, .int .i64 t494], .agg #[.int .i64 t497, .int .i64 t498, .int .i64 t499, .int .i64 t500]] rfl (by (try simp only [List.map_toArray, List.map_cons, List.map_nil]); first | done | rfl | (simp only [List.length_drop, List.length_take]; rfl)) ?_; (with_reducible refine (impl_TimesMatrix.calls kj24 t491 t492 t493 t494 t497 t498 t499 t500 t503 t504 t505 t506 true _ A50.out).mono ?_); rintro e w67 ⟨rfl, hb⟩; refine ⟨_, rfl, ?_⟩; have n0_ := Aside0.mk (blk_below (g := gb482) (o := .cells #[.int .i64 t477, .int .i64 t478, .int .i64 t479, .int .i64 t480] 36 (0, 0)) (by (with_reducible repeat (first | refine blk_drewN ?_ _ | refine blk_drew ?_ | refine blk_alloc ?_ _)); refine blk_far ?_ NB482_502.out _; (with_reducible repeat (first | refine blk_drewN ?_ _ | refine blk_drew ?_ | refine blk_alloc ?_ _)); refine blk_far ?_ NB482_502.out _; (with_reducible repeat (first | refine blk_drewN ?_ _ | refine blk_drew ?_ | refine blk_alloc ?_ _)); refine blk_far ?_ NB482_502.out _; (with_reducible repeat (first | refine blk_drewN ?_ _ | refine blk_drew ?_ | refine blk_alloc ?_ _)); refine blk_far ?_ NB482_502.out _; (with_reducible repeat (first | refine blk_drewN ?_ _ | refine blk_drew ?_ | refine blk_alloc ?_ _)); exact BK482.out) hb); have n1_ := Aside0.mk (blk_below (g := gb488) (o := .cells #[.int .i64 t483, .int .i64 t484, .int .i64 t485, .int .i64 t486] 36 (0, 0)) (by (with_reducible repeat (first | refine blk_drewN ?_ _ | refine blk_drew ?_ | refine blk_alloc ?_ _)); refine blk_far ?_ NB488_502.out _; (with_reducible repeat (first | refine blk_drewN ?_ _ | refine blk_drew ?_ | refine blk_alloc ?_ _)); refine blk_far ?_ NB488_502.out _; (with_reducible repeat (first | refine blk_drewN ?_ _ | refine blk_drew ?_ | refine blk_alloc ?_ _)); refine blk_far ?_ NB488_502.out _; (with_reducible repeat (first | refine blk_drewN ?_ _ | refine blk_drew ?_ | refine blk_alloc ?_ _)); refine blk_far ?_ NB488_502.out _; (with_reducible repeat (first | refine blk_drewN ?_ _ | refine blk_drew ?_ | refine blk_alloc ?_ _)); exact BK488.out) hb); have n2_ := Aside0.mk (blk_below (g := gb496) (o := .cells #[.int .i64 t491, .int .i64 t492, .int .i64 t493, .int .i64 t494] 36 (0, 0)) (by (with_reducible repeat (first | refine blk_drewN ?_ _ | refine blk_drew ?_ | refine blk_alloc ?_ _)); refine blk_far ?_ NB496_502.out _; (with_reducible repeat (first | refine blk_drewN ?_ _ | refine blk_drew ?_ | refine blk_alloc ?_ _)); refine blk_far ?_ NB496_502.out _; (with_reducible repeat (first | refine blk_drewN ?_ _ | refine blk_drew ?_ | refine blk_alloc ?_ _)); refine blk_far ?_ NB496_502.out _; (with_reducible repeat (first | refine blk_drewN ?_ _ | refine blk_drew ?_ | refine blk_alloc ?_ _)); refine blk_far ?_ NB496_502.out _; (with_reducible repeat (first | refine blk_drewN ?_ _ | refine blk_drew ?_ | refine blk_alloc ?_ _)); exact BK496.out) hb); have n3_ := Aside0.mk (blk_below (g := gb502) (o := .cells #[.int .i64 t497, .int .i64 t498, .int .i64 t499, .int .i64 t500] 36 (0, 0)) (by (with_reducible repeat (first | refine blk_drewN ?_ _ | refine blk_drew ?_ | refine blk_alloc ?_ _)); refine blk_put (cs := #[.int .i64 t497, .int .i64 t498, .int .i64 t499, .int .i64 0]) ?_ 3 _ rfl; (with_reducible repeat (first | refine blk_drewN ?_ _ | refine blk_drew ?_ | refine blk_alloc ?_ _)); refine blk_put (cs := #[.int .i64 t497, .int .i64 t498, .int .i64 0, .int .i64 0]) ?_ 2 _ rfl; (with_reducible repeat (first | refine blk_drewN ?_ _ | refine blk_drew ?_ | refine blk_alloc ?_ _)); refine blk_put (cs := #[.int .i64 t497, .int .i64 0, .int .i64 0, .int .i64 0]) ?_ 1 _ rfl; (with_reducible repeat (first | refine blk_drewN ?_ _ | refine blk_drew ?_ | refine blk_alloc ?_ _)); refine blk_put (cs := #[.int .i64 0, .int .i64 0, .int .i64 0, .int .i64 0]) ?_ 0 _ rfl; (with_reducible repeat (first | refine blk_drewN ?_ _ | refine blk_drew ?_ | refine blk_alloc ?_ _)); exact BK502.out) hb); have n4_ := Aside0.mk (below_step (by repeat (first | (with_reducible first | exact HB.out | apply below_alloc | apply pw_below_drewN | apply below_drew1 | refine below_set ?_ GE482.out | refine below_set ?_ GE488.out | refine below_set ?_ GE496.out | refine below_set ?_ GE502.out) | exact HB.out)) hb); clear BK482; clear BK488; clear BK496; clear BK502; clear HB; have BK482 := n0_; have BK488 := n1_; have BK496 := n2_; have BK502 := n3_; have HB := n4_; clear n0_ n1_ n2_ n3_ n4_; (try clear hb); (try clear hb2); (try clear hk); (try clear hi)) | ((with_reducible refine gate_dst (N := 17) rfl ?_); refine box_event ?hg (N := 17) ?hd (cs := #[.int .i64 0, .int .i64 0, .int .i64 0, .int .i64 0]) (t := 36) ?hr ?_; (case hd => rfl); (case hg => rfl); (case hr => first | (go_simp; done) | (go_simp; rfl)); intro gb508 hg w68 hbox hb; have n0_ := Aside0.mk (blk_below (g := gb482) (o := .cells #[.int .i64 t477, .int .i64 t478, .int .i64 t479, .int .i64 t480] 36 (0, 0)) (by (with_reducible repeat (first | refine blk_drewN ?_ _ | refine blk_drew ?_ | refine blk_alloc ?_ _)); exact BK482.out) hb); have n1_ := Aside0.mk (blk_below (g := gb488) (o := .cells #[.int .i64 t483, .int .i64 t484, .int .i64 t485, .int .i64 t486] 36 (0, 0)) (by (with_reducible repeat (first | refine blk_drewN ?_ _ | refine blk_drew ?_ | refine blk_alloc ?_ _)); exact BK488.out) hb); have n2_ := Aside0.mk (blk_below (g := gb496) (o := .cells #[.int .i64 t491, .int .i64 t492, .int .i64 t493, .int .i64 t494] 36 (0, 0)) (by (with_reducible repeat (first | refine blk_drewN ?_ _ | refine blk_drew ?_ | refine blk_alloc ?_ _)); exact BK496.out) hb); have n3_ := Aside0.mk (blk_below (g := gb502) (o := .cells #[.int .i64 t497, .int .i64 t498, .int .i64 t499, .int .i64 t500] 36 (0, 0)) (by (with_reducible repeat (first | refine blk_drewN ?_ _ | refine blk_drew ?_ | refine blk_alloc ?_ _)); exact BK502.out) hb); have n4_ := Aside0.mk (below_step (by repeat (first | (with_reducible first | exact HB.out | apply below_alloc | apply pw_below_drewN | apply below_drew1 | refine below_set ?_ GE482.out | refine below_set ?_ GE488.out | refine below_set ?_ GE496.out | refine below_set ?_ GE502.out) | exact HB.out)) hb); have n5_ := Aside0.mk (hbox); have n6_ := Aside0.mk ((by rw [hg]; exact (below_size (by repeat (first | (with_reducible first | exact HB.out | apply below_alloc | apply pw_below_drewN | apply below_drew1 | refine below_set ?_ GE482.out | refine below_set ?_ GE488.out | refine below_set ?_ GE496.out | refine below_set ?_ GE502.out) | exact HB.out))) : w.heap.size ≤ gb508)); have n7_ := Aside0.mk ((by rw [hg]; exact (below_size (by repeat (first | (with_reducible first | exact HB.out | apply below_alloc | apply pw_below_drewN | apply below_drew1 | refine below_set ?_ GE482.out | refine below_set ?_ GE488.out | refine below_set ?_ GE496.out | refine below_set ?_ GE502.out) | exact HB.out))) : w.heap.size ≤ gb508)); have n8_ := Aside0.mk ((by rw [hg]; exact Nat.ne_of_lt (blk_lt (g := gb482) (o := .cells #[.int .i64 t477, .int .i64 t478, .int .i64 t479, .int .i64 t480] 36 (0, 0)) (by (with_reducible repeat (first | refine blk_drewN ?_ _ | refine blk_drew ?_ | refine blk_alloc ?_ _)); exact BK482.out)) : gb482 ≠ gb508)); have n9_ := Aside0.mk ((by rw [hg]; exact Nat.ne_of_gt (blk_lt (g := gb482) (o := .cells #[.int .i64 t477, .int .i64 t478, .int .i64 t479, .int .i64 t480] 36 (0, 0)) (by (with_reducible repeat (first | refine blk_drewN ?_ _ | refine blk_drew ?_ | refine blk_alloc ?_ _)); exact BK482.out)) : gb508 ≠ gb482)); have n10_ := Aside0.mk ((by rw [hg]; exact Nat.ne_of_lt (blk_lt (g := gb488) (o := .cells #[.int .i64 t483, .int .i64 t484, .int .i64 t485, .int .i64 t486] 36 (0, 0)) (by (with_reducible repeat (first | refine blk_drewN ?_ _ | refine blk_drew ?_ | refine blk_alloc ?_ _)); exact BK488.out)) : gb488 ≠ gb508)); have n11_ := Aside0.mk ((by rw [hg]; exact Nat.ne_of_gt (blk_lt (g := gb488) (o := .cells #[.int .i64 t483, .int .i64 t484, .int .i64 t485, .int .i64 t486] 36 (0, 0)) (by (with_reducible repeat (first | refine blk_drewN ?_ _ | refine blk_drew ?_ | refine blk_alloc ?_ _)); exact BK488.out)) : gb508 ≠ gb488)); have n12_ := Aside0.mk ((by rw [hg]; exact Nat.ne_of_lt (blk_lt (g := gb496) (o := .cells #[.int .i64 t491, .int .i64 t492, .int .i64 t493, .int .i64 t494] 36 (0, 0)) (by (with_reducible repeat (first | refine blk_drewN ?_ _ | refine blk_drew ?_ | refine blk_alloc ?_ _)); exact BK496.out)) : gb496 ≠ gb508)); have n13_ := Aside0.mk ((by rw [hg]; exact Nat.ne_of_gt (blk_lt (g := gb496) (o := .cells #[.int .i64 t491, .int .i64 t492, .int .i64 t493, .int .i64 t494] 36 (0, 0)) (by (with_reducible repeat (first | refine blk_drewN ?_ _ | refine blk_drew ?_ | refine blk_alloc ?_ _)); exact BK496.out)) : gb508 ≠ gb496)); have n14_ := Aside0.mk ((by rw [hg]; exact Nat.ne_of_lt (blk_lt (g := gb502) (o := .cells #[.int .i64 t497, .int .i64 t498, .int .i64 t499, .int .i64 t500] 36 (0, 0)) (by (with_reducible repeat (first | refine blk_drewN ?_ _ | refine blk_drew ?_ | refine blk_alloc ?_ _)); exact BK502.out)) : gb502 ≠ gb508)); have n15_ := Aside0.mk ((by rw [hg]; exact Nat.ne_of_gt (blk_lt (g := gb502) (o := .cells #[.int .i64 t497, .int .i64 t498, .int .i64 t499, .int .i64 t500] 36 (0, 0)) (by (with_reducible repeat (first | refine blk_drewN ?_ _ | refine blk_drew ?_ | refine blk_alloc ?_ _)); exact BK502.out)) : gb508 ≠ gb502)); clear BK482; clear BK488; clear BK496; clear BK502; clear HB; have BK482 := n0_; have BK488 := n1_; have BK496 := n2_; have BK502 := n3_; have HB := n4_; have BK508 := n5_; have GW508 := n6_; have GE508 := n7_; have NB482_508 := n8_; have NB508_482 := n9_; have NB488_508 := n10_; have NB508_488 := n11_; have NB496_508 := n12_; have NB508_496 := n13_; have NB502_508 := n14_; have NB508_502 := n15_; clear n0_ n1_ n2_ n3_ n4_ n5_ n6_ n7_ n8_ n9_ n10_ n11_ n12_ n13_ n14_ n15_; clear hb hbox hg; have hnb69 := NB508_482.out; have hnc69 := NB482_508.out; have hnb70 := NB508_488.out; have hnc70 := NB488_508.out; have hnb71 := NB508_496.out; have hnc71 := NB496_508.out; have hnb72 := NB508_502.out; have hnc72 := NB502_508.out; have hcz73_0 : w68.cell? ⟨gb508, 0, none⟩ = some (.int .i64 0) := (blk_cell BK508.out 0).trans rfl; have hcz73_1 : w68.cell? ⟨gb508, 1, none⟩ = some (.int .i64 0) := (blk_cell BK508.out 1).trans rfl; have hcz73_2 : w68.cell? ⟨gb508, 2, none⟩ = some (.int .i64 0) := (blk_cell BK508.out 2).trans rfl; have hcz73_3 : w68.cell? ⟨gb508, 3, none⟩ = some (.int .i64 0) := (blk_cell BK508.out 3).trans rfl; have hfz73_0 := blk_frozen BK508.out 0; have hfz73_1 := blk_frozen BK508.out 1; have hfz73_2 := blk_frozen BK508.out 2; have hfz73_3 := blk_frozen BK508.out 3; have hnb74 := NB482_488.out; have hnc74 := NB488_482.out; have hcz75_0 : w68.cell? ⟨gb482, 0, none⟩ = some (.int .i64 t477) := (blk_cell BK482.out 0).trans rfl; have hcz75_1 : w68.cell? ⟨gb482, 1, none⟩ = some (.int .i64 t478) := (blk_cell BK482.out 1).trans rfl; have hcz75_2 : w68.cell? ⟨gb482, 2, none⟩ = some (.int .i64 t479) := (blk_cell BK482.out 2).trans rfl; have hcz75_3 : w68.cell? ⟨gb482, 3, none⟩ = some (.int .i64 t480) := (blk_cell BK482.out 3).trans rfl; have hfz75_0 := blk_frozen BK482.out 0; have hfz75_1 := blk_frozen BK482.out 1; have hfz75_2 := blk_frozen BK482.out 2; have hfz75_3 := blk_frozen BK482.out 3))
                                  go_meet
                                  case rel => exact ⟨_, H', ⟨by have := HJ7.out; have := HJ24.out; first | omega | exact Nat.le_refl _⟩, ⟨by (with_reducible repeat (first | refine blk_drewN ?_ _ | refine blk_drew ?_ | refine blk_alloc ?_ _)); refine blk_far ?_ NB482_508.out _; (with_reducible repeat (first | refine blk_drewN ?_ _ | refine blk_drew ?_ | refine blk_alloc ?_ _)); refine blk_far ?_ NB482_508.out _; (with_reducible repeat (first | refine blk_drewN ?_ _ | refine blk_drew ?_ | refine blk_alloc ?_ _)); refine blk_far ?_ NB482_508.out _; (with_reducible repeat (first | refine blk_drewN ?_ _ | refine blk_drew ?_ | refine blk_alloc ?_ _)); refine blk_far ?_ NB482_508.out _; (with_reducible repeat (first | refine blk_drewN ?_ _ | refine blk_drew ?_ | refine blk_alloc ?_ _)); exact BK482.out⟩, ⟨by (with_reducible repeat (first | refine blk_drewN ?_ _ | refine blk_drew ?_ | refine blk_alloc ?_ _)); refine blk_far ?_ NB488_508.out _; (with_reducible repeat (first | refine blk_drewN ?_ _ | refine blk_drew ?_ | refine blk_alloc ?_ _)); refine blk_far ?_ NB488_508.out _; (with_reducible repeat (first | refine blk_drewN ?_ _ | refine blk_drew ?_ | refine blk_alloc ?_ _)); refine blk_far ?_ NB488_508.out _; (with_reducible repeat (first | refine blk_drewN ?_ _ | refine blk_drew ?_ | refine blk_alloc ?_ _)); refine blk_far ?_ NB488_508.out _; (with_reducible repeat (first | refine blk_drewN ?_ _ | refine blk_drew ?_ | refine blk_alloc ?_ _)); exact BK488.out⟩, ⟨by repeat (first | (with_reducible first | exact HB.out | apply below_alloc | apply pw_below_drewN | apply below_drew1 | refine below_set ?_ GE482.out | refine below_set ?_ GE488.out | refine below_set ?_ GE496.out | refine below_set ?_ GE502.out | refine below_set ?_ GE508.out) | exact HB.out)⟩⟩
                            · replace c53 := Bool.eq_false_iff.mpr c53
                              subst c53
                              rw [if_neg (show ¬ (false = true) by decide)] at H
                              obtain rfl := Option.some.inj H
                              cases hrt
                          · replace c52 := Bool.eq_false_iff.mpr c52
                            subst c52
                            rw [if_neg (show ¬ (false = true) by decide)] at H
                            obtain rfl := Option.some.inj H
                            cases hrt
                        · replace c51 := Bool.eq_false_iff.mpr c51
                          subst c51
                          rw [if_neg (show ¬ (false = true) by decide)] at H
                          obtain rfl := Option.some.inj H
                          cases hrt
                      · rw [if_neg c45] at H
                        exact absurd H (by simp)
                    · rw [if_neg c44] at H
                      exact absurd H (by simp)
            · replace c23 := Bool.eq_false_iff.mpr c23
              subst c23
              rw [if_neg (show ¬ (false = true) by decide)] at H
              as_aux_lemma =>
                have H' := Aside0.mk H
                clear H
                go_wp2
                go_meet
                case rel => exact ⟨_, H', ⟨by have := HJ7.out; first | omega | exact Nat.le_refl _⟩, ⟨by (with_reducible repeat (first | refine blk_drewN ?_ _ | refine blk_drew ?_ | refine blk_alloc ?_ _)); exact BK482.out⟩, ⟨by (with_reducible repeat (first | refine blk_drewN ?_ _ | refine blk_drew ?_ | refine blk_alloc ?_ _)); exact BK488.out⟩, ⟨by repeat (first | (with_reducible first | exact HB.out | apply below_alloc | apply pw_below_drewN | apply below_drew1 | refine below_set ?_ GE482.out | refine below_set ?_ GE488.out) | exact HB.out)⟩⟩
          case rest =>
            clear HC22
            try clear c1
            try clear c2
            try clear p2
            try clear c3
            try clear c4
            try clear c5
            try clear c6
            try clear p6
            try clear c7
            try clear c11
            try clear c12
            try clear c13
            try clear c14
            try clear c15
            try clear c16
            try clear c17
            try clear c17b0
            try clear c17b1
            try clear c17b2
            try clear c18
            try clear c21
            try clear c23
            try clear c26
            try clear c29
            try clear c30
            try clear c30b0
            try clear c30b1
            try clear c31
            try clear c31b0
            try clear c32
            try clear c34
            try clear c34b0
            try clear c35
            try clear c37
            try clear c37b0
            try clear c38
            try clear c40
            try clear c42
            try clear c44
            try clear c44b0
            try clear c44b1
            try clear c45
            try clear c45b0
            try clear c45b1
            try clear c47
            try clear c47b0
            try clear c48
            try clear c48b0
            try clear c51
            try clear c52
            try clear c53
            try clear c54
            try clear c54b0
            try clear c57
            try clear c58
            try clear c62
            try clear c63
            try clear c64
            try clear p64
            try clear c69
            try clear c70
            try clear c71
            try clear c72
            try clear c74
            try clear hcz12_0
            try clear hcz12_1
            try clear hcz12_2
            try clear hcz12_3
            try clear hcz16_0
            try clear hcz16_1
            try clear hcz16_2
            try clear hcz16_3
            try clear hcz19_0
            try clear hcz19_1
            try clear hcz19_2
            try clear hcz19_3
            try clear hcz20_0
            try clear hcz20_1
            try clear hcz20_2
            try clear hcz20_3
            try clear hcz27_0
            try clear hcz27_1
            try clear hcz27_2
            try clear hcz27_3
            try clear hcz33_0
            try clear hcz33_1
            try clear hcz33_2
            try clear hcz33_3
            try clear hcz36_0
            try clear hcz36_1
            try clear hcz36_2
            try clear hcz36_3
            try clear hcz39_0
            try clear hcz39_1
            try clear hcz39_2
            try clear hcz39_3
            try clear hcz41_0
            try clear hcz41_1
            try clear hcz41_2
            try clear hcz41_3
            try clear hcz59_0
            try clear hcz59_1
            try clear hcz59_2
            try clear hcz59_3
            try clear hcz65_0
            try clear hcz65_1
            try clear hcz65_2
            try clear hcz65_3
            try clear hcz66_0
            try clear hcz66_1
            try clear hcz66_2
            try clear hcz66_3
            try clear hcz73_0
            try clear hcz73_1
            try clear hcz73_2
            try clear hcz73_3
            try clear hcz75_0
            try clear hcz75_1
            try clear hcz75_2
            try clear hcz75_3
            try clear hfz12_0
            try clear hfz12_1
            try clear hfz12_2
            try clear hfz12_3
            try clear hfz16_0
            try clear hfz16_1
            try clear hfz16_2
            try clear hfz16_3
            try clear hfz19_0
            try clear hfz19_1
            try clear hfz19_2
            try clear hfz19_3
            try clear hfz20_0
            try clear hfz20_1
            try clear hfz20_2
            try clear hfz20_3
            try clear hfz27_0
            try clear hfz27_1
            try clear hfz27_2
            try clear hfz27_3
            try clear hfz33_0
            try clear hfz33_1
            try clear hfz33_2
            try clear hfz33_3
            try clear hfz36_0
            try clear hfz36_1
            try clear hfz36_2
            try clear hfz36_3
            try clear hfz39_0
            try clear hfz39_1
            try clear hfz39_2
            try clear hfz39_3
            try clear hfz41_0
            try clear hfz41_1
            try clear hfz41_2
            try clear hfz41_3
            try clear hfz59_0
            try clear hfz59_1
            try clear hfz59_2
            try clear hfz59_3
            try clear hfz65_0
            try clear hfz65_1
            try clear hfz65_2
            try clear hfz65_3
            try clear hfz66_0
            try clear hfz66_1
            try clear hfz66_2
            try clear hfz66_3
            try clear hfz73_0
            try clear hfz73_1
            try clear hfz73_2
            try clear hfz73_3
            try clear hfz75_0
            try clear hfz75_1
            try clear hfz75_2
            try clear hfz75_3
            try clear p2
            obtain ⟨kq, HA, HJ21, BK482, BK488, HB⟩ := hcut
            cases kq with
            | zero => exact absurd HA.out (by simp [laws_FnWordsTold.j2])
            | succ kj21 =>
              have H := HA.out
              clear HA
              simp only [laws_FnWordsTold.j2] at H
              replace H := Option.bind_eq_some_iff.mp H
              obtain ⟨⟨t509, t510, t511, t512⟩, A760, H⟩ := H
              try dsimp only at H
              have A76 := Aside0.mk A760
              clear A760
              replace H := Option.bind_eq_some_iff.mp H
              obtain ⟨⟨t514, t515⟩, A770, H⟩ := H
              try dsimp only at H
              have A77 := Aside0.mk A770
              clear A770
              replace H := Option.bind_eq_some_iff.mp H
              obtain ⟨⟨t516, t517⟩, A780, H⟩ := H
              try dsimp only at H
              have A78 := Aside0.mk A780
              clear A780
              replace H := Option.bind_eq_some_iff.mp H
              obtain ⟨⟨t518, t519, t520, t521, t522, t523⟩, A790, H⟩ := H
              try dsimp only at H
              have A79 := Aside0.mk A790
              clear A790
              replace H := Option.bind_eq_some_iff.mp H
              obtain ⟨⟨t526, t527, t528⟩, A800, H⟩ := H
              try dsimp only at H
              have A80 := Aside0.mk A800
              clear A800
              replace H := Option.bind_eq_some_iff.mp H
              obtain ⟨⟨t529, t530, t531⟩, A810, H⟩ := H
              try dsimp only at H
              have A81 := Aside0.mk A810
              clear A810
              have HC82 := Aside0.mk H
              clear H
              go_upto_region 24 with (first | ((with_reducible refine gate_callee (f := 17) rfl ?_); refine goesL_ (some 135) rfl rfl Tryd.func17 (by kernel_rfl) rfl #[.slice A1 l1.length c1] rfl (by (try simp only [List.map_toArray, List.map_cons, List.map_nil]); first | done | rfl | (simp only [List.length_drop, List.length_take]; rfl)) ?_; (with_reducible refine (spec_DrawWordOfMatrix.calls kj21 _ _ l1 t509 t510 t511 t512 _ ?side1 ?side2 A76.out).mono ?_); (case side1 => repeat (first | exact (Kd.C_below HR1.out HB.out) | (with_reducible refine Kd.C_alloc ?_ _) | (with_reducible refine Kd.C_drewN ?_ _) | (with_reducible refine Kd.C_drew ?_))); (case side2 => exact HC1.out); rintro e w83 ⟨rfl, hb⟩; refine ⟨_, rfl, ?_⟩; have n0_ := Aside0.mk (blk_below (g := gb482) (o := .cells #[.int .i64 t477, .int .i64 t478, .int .i64 t479, .int .i64 t480] 36 (0, 0)) (by (with_reducible repeat (first | refine blk_drewN ?_ _ | refine blk_drew ?_ | refine blk_alloc ?_ _)); exact BK482.out) hb); have n1_ := Aside0.mk (blk_below (g := gb488) (o := .cells #[.int .i64 t483, .int .i64 t484, .int .i64 t485, .int .i64 t486] 36 (0, 0)) (by (with_reducible repeat (first | refine blk_drewN ?_ _ | refine blk_drew ?_ | refine blk_alloc ?_ _)); exact BK488.out) hb); have n2_ := Aside0.mk (below_step (by repeat (first | (with_reducible first | exact HB.out | apply below_alloc | apply pw_below_drewN | apply below_drew1 | refine below_set ?_ GE482.out | refine below_set ?_ GE488.out) | exact HB.out)) hb); clear BK482; clear BK488; clear HB; have BK482 := n0_; have BK488 := n1_; have HB := n2_; clear n0_ n1_ n2_; (try clear hb); (try clear hb2); (try clear hk); (try clear hi)) | ((with_reducible refine gate_dst (N := 19) rfl ?_); refine box_event ?hg (N := 19) ?hd (cs := #[.int .i64 0, .int .i64 0, .int .i64 0, .int .i64 0]) (t := 36) ?hr ?_; (case hd => rfl); (case hg => rfl); (case hr => first | (go_simp; done) | (go_simp; rfl)); intro gb513 hg w84 hbox hb; have n0_ := Aside0.mk (blk_below (g := gb482) (o := .cells #[.int .i64 t477, .int .i64 t478, .int .i64 t479, .int .i64 t480] 36 (0, 0)) (by (with_reducible repeat (first | refine blk_drewN ?_ _ | refine blk_drew ?_ | refine blk_alloc ?_ _)); exact BK482.out) hb); have n1_ := Aside0.mk (blk_below (g := gb488) (o := .cells #[.int .i64 t483, .int .i64 t484, .int .i64 t485, .int .i64 t486] 36 (0, 0)) (by (with_reducible repeat (first | refine blk_drewN ?_ _ | refine blk_drew ?_ | refine blk_alloc ?_ _)); exact BK488.out) hb); have n2_ := Aside0.mk (below_step (by repeat (first | (with_reducible first | exact HB.out | apply below_alloc | apply pw_below_drewN | apply below_drew1 | refine below_set ?_ GE482.out | refine below_set ?_ GE488.out) | exact HB.out)) hb); have n3_ := Aside0.mk (hbox); have n4_ := Aside0.mk ((by rw [hg]; exact (below_size (by repeat (first | (with_reducible first | exact HB.out | apply below_alloc | apply pw_below_drewN | apply below_drew1 | refine below_set ?_ GE482.out | refine below_set ?_ GE488.out) | exact HB.out))) : w.heap.size ≤ gb513)); have n5_ := Aside0.mk ((by rw [hg]; exact (below_size (by repeat (first | (with_reducible first | exact HB.out | apply below_alloc | apply pw_below_drewN | apply below_drew1 | refine below_set ?_ GE482.out | refine below_set ?_ GE488.out) | exact HB.out))) : w.heap.size ≤ gb513)); have n6_ := Aside0.mk ((by rw [hg]; exact Nat.ne_of_lt (blk_lt (g := gb482) (o := .cells #[.int .i64 t477, .int .i64 t478, .int .i64 t479, .int .i64 t480] 36 (0, 0)) (by (with_reducible repeat (first | refine blk_drewN ?_ _ | refine blk_drew ?_ | refine blk_alloc ?_ _)); exact BK482.out)) : gb482 ≠ gb513)); have n7_ := Aside0.mk ((by rw [hg]; exact Nat.ne_of_gt (blk_lt (g := gb482) (o := .cells #[.int .i64 t477, .int .i64 t478, .int .i64 t479, .int .i64 t480] 36 (0, 0)) (by (with_reducible repeat (first | refine blk_drewN ?_ _ | refine blk_drew ?_ | refine blk_alloc ?_ _)); exact BK482.out)) : gb513 ≠ gb482)); have n8_ := Aside0.mk ((by rw [hg]; exact Nat.ne_of_lt (blk_lt (g := gb488) (o := .cells #[.int .i64 t483, .int .i64 t484, .int .i64 t485, .int .i64 t486] 36 (0, 0)) (by (with_reducible repeat (first | refine blk_drewN ?_ _ | refine blk_drew ?_ | refine blk_alloc ?_ _)); exact BK488.out)) : gb488 ≠ gb513)); have n9_ := Aside0.mk ((by rw [hg]; exact Nat.ne_of_gt (blk_lt (g := gb488) (o := .cells #[.int .i64 t483, .int .i64 t484, .int .i64 t485, .int .i64 t486] 36 (0, 0)) (by (with_reducible repeat (first | refine blk_drewN ?_ _ | refine blk_drew ?_ | refine blk_alloc ?_ _)); exact BK488.out)) : gb513 ≠ gb488)); clear BK482; clear BK488; clear HB; have BK482 := n0_; have BK488 := n1_; have HB := n2_; have BK513 := n3_; have GW513 := n4_; have GE513 := n5_; have NB482_513 := n6_; have NB513_482 := n7_; have NB488_513 := n8_; have NB513_488 := n9_; clear n0_ n1_ n2_ n3_ n4_ n5_ n6_ n7_ n8_ n9_; clear hb hbox hg; have hnb85 := NB513_482.out; have hnc85 := NB482_513.out; have hnb86 := NB513_488.out; have hnc86 := NB488_513.out; have hcz87_0 : w84.cell? ⟨gb513, 0, none⟩ = some (.int .i64 0) := (blk_cell BK513.out 0).trans rfl; have hcz87_1 : w84.cell? ⟨gb513, 1, none⟩ = some (.int .i64 0) := (blk_cell BK513.out 1).trans rfl; have hcz87_2 : w84.cell? ⟨gb513, 2, none⟩ = some (.int .i64 0) := (blk_cell BK513.out 2).trans rfl; have hcz87_3 : w84.cell? ⟨gb513, 3, none⟩ = some (.int .i64 0) := (blk_cell BK513.out 3).trans rfl; have hfz87_0 := blk_frozen BK513.out 0; have hfz87_1 := blk_frozen BK513.out 1; have hfz87_2 := blk_frozen BK513.out 2; have hfz87_3 := blk_frozen BK513.out 3) | ((with_reducible refine gate_callee (f := 15) rfl ?_); refine goesL_ (some 138) rfl rfl Tryd.func15 (by kernel_rfl) rfl #[.agg #[.int .i64 t509, .int .i64 t510, .int .i64 t511, .int .i64 t512]] rfl (by (try simp only [List.map_toArray, List.map_cons, List.map_nil]); first | done | rfl | (simp only [List.length_drop, List.length_take]; rfl)) ?_; (with_reducible refine (impl_WordOfMatrix.calls kj21 t509 t510 t511 t512 t514 t515 _ A77.out).mono ?_); rintro e w88 ⟨rfl, hb⟩; refine ⟨_, rfl, ?_⟩; have n0_ := Aside0.mk (blk_below (g := gb482) (o := .cells #[.int .i64 t477, .int .i64 t478, .int .i64 t479, .int .i64 t480] 36 (0, 0)) (by (with_reducible repeat (first | refine blk_drewN ?_ _ | refine blk_drew ?_ | refine blk_alloc ?_ _)); refine blk_far ?_ NB482_513.out _; (with_reducible repeat (first | refine blk_drewN ?_ _ | refine blk_drew ?_ | refine blk_alloc ?_ _)); refine blk_far ?_ NB482_513.out _; (with_reducible repeat (first | refine blk_drewN ?_ _ | refine blk_drew ?_ | refine blk_alloc ?_ _)); refine blk_far ?_ NB482_513.out _; (with_reducible repeat (first | refine blk_drewN ?_ _ | refine blk_drew ?_ | refine blk_alloc ?_ _)); refine blk_far ?_ NB482_513.out _; (with_reducible repeat (first | refine blk_drewN ?_ _ | refine blk_drew ?_ | refine blk_alloc ?_ _)); exact BK482.out) hb); have n1_ := Aside0.mk (blk_below (g := gb488) (o := .cells #[.int .i64 t483, .int .i64 t484, .int .i64 t485, .int .i64 t486] 36 (0, 0)) (by (with_reducible repeat (first | refine blk_drewN ?_ _ | refine blk_drew ?_ | refine blk_alloc ?_ _)); refine blk_far ?_ NB488_513.out _; (with_reducible repeat (first | refine blk_drewN ?_ _ | refine blk_drew ?_ | refine blk_alloc ?_ _)); refine blk_far ?_ NB488_513.out _; (with_reducible repeat (first | refine blk_drewN ?_ _ | refine blk_drew ?_ | refine blk_alloc ?_ _)); refine blk_far ?_ NB488_513.out _; (with_reducible repeat (first | refine blk_drewN ?_ _ | refine blk_drew ?_ | refine blk_alloc ?_ _)); refine blk_far ?_ NB488_513.out _; (with_reducible repeat (first | refine blk_drewN ?_ _ | refine blk_drew ?_ | refine blk_alloc ?_ _)); exact BK488.out) hb); have n2_ := Aside0.mk (blk_below (g := gb513) (o := .cells #[.int .i64 t509, .int .i64 t510, .int .i64 t511, .int .i64 t512] 36 (0, 0)) (by (with_reducible repeat (first | refine blk_drewN ?_ _ | refine blk_drew ?_ | refine blk_alloc ?_ _)); refine blk_put (cs := #[.int .i64 t509, .int .i64 t510, .int .i64 t511, .int .i64 0]) ?_ 3 _ rfl; (with_reducible repeat (first | refine blk_drewN ?_ _ | refine blk_drew ?_ | refine blk_alloc ?_ _)); refine blk_put (cs := #[.int .i64 t509, .int .i64 t510, .int .i64 0, .int .i64 0]) ?_ 2 _ rfl; (with_reducible repeat (first | refine blk_drewN ?_ _ | refine blk_drew ?_ | refine blk_alloc ?_ _)); refine blk_put (cs := #[.int .i64 t509, .int .i64 0, .int .i64 0, .int .i64 0]) ?_ 1 _ rfl; (with_reducible repeat (first | refine blk_drewN ?_ _ | refine blk_drew ?_ | refine blk_alloc ?_ _)); refine blk_put (cs := #[.int .i64 0, .int .i64 0, .int .i64 0, .int .i64 0]) ?_ 0 _ rfl; (with_reducible repeat (first | refine blk_drewN ?_ _ | refine blk_drew ?_ | refine blk_alloc ?_ _)); exact BK513.out) hb); have n3_ := Aside0.mk (below_step (by repeat (first | (with_reducible first | exact HB.out | apply below_alloc | apply pw_below_drewN | apply below_drew1 | refine below_set ?_ GE482.out | refine below_set ?_ GE488.out | refine below_set ?_ GE513.out) | exact HB.out)) hb); clear BK482; clear BK488; clear BK513; clear HB; have BK482 := n0_; have BK488 := n1_; have BK513 := n2_; have HB := n3_; clear n0_ n1_ n2_ n3_; (try clear hb); (try clear hb2); (try clear hk); (try clear hi); have hcz89_0 : w88.cell? ⟨gb513, 0, none⟩ = some (.int .i64 t509) := (blk_cell BK513.out 0).trans rfl; have hcz89_1 : w88.cell? ⟨gb513, 1, none⟩ = some (.int .i64 t510) := (blk_cell BK513.out 1).trans rfl; have hcz89_2 : w88.cell? ⟨gb513, 2, none⟩ = some (.int .i64 t511) := (blk_cell BK513.out 2).trans rfl; have hcz89_3 : w88.cell? ⟨gb513, 3, none⟩ = some (.int .i64 t512) := (blk_cell BK513.out 3).trans rfl; have hfz89_0 := blk_frozen BK513.out 0; have hfz89_1 := blk_frozen BK513.out 1; have hfz89_2 := blk_frozen BK513.out 2; have hfz89_3 := blk_frozen BK513.out 3) | ((with_reducible refine gate_callee (f := 18) rfl ?_); refine goesL_ (some 143) rfl rfl Tryd.func18 (by kernel_rfl) rfl #[.agg #[.int .i64 t509, .int .i64 t510, .int .i64 t511, .int .i64 t512]] rfl (by (try simp only [List.map_toArray, List.map_cons, List.map_nil]); first | done | rfl | (simp only [List.length_drop, List.length_take]; rfl)) ?_; (with_reducible refine (spec_WordOfMatrix.calls kj21 t509 t510 t511 t512 t516 t517 _ A78.out).mono ?_); rintro e w90 ⟨rfl, hb⟩; refine ⟨_, rfl, ?_⟩; have n0_ := Aside0.mk (blk_below (g := gb482) (o := .cells #[.int .i64 t477, .int .i64 t478, .int .i64 t479, .int .i64 t480] 36 (0, 0)) (by (with_reducible repeat (first | refine blk_drewN ?_ _ | refine blk_drew ?_ | refine blk_alloc ?_ _)); exact BK482.out) hb); have n1_ := Aside0.mk (blk_below (g := gb488) (o := .cells #[.int .i64 t483, .int .i64 t484, .int .i64 t485, .int .i64 t486] 36 (0, 0)) (by (with_reducible repeat (first | refine blk_drewN ?_ _ | refine blk_drew ?_ | refine blk_alloc ?_ _)); exact BK488.out) hb); have n2_ := Aside0.mk (blk_below (g := gb513) (o := .cells #[.int .i64 t509, .int .i64 t510, .int .i64 t511, .int .i64 t512] 36 (0, 0)) (by (with_reducible repeat (first | refine blk_drewN ?_ _ | refine blk_drew ?_ | refine blk_alloc ?_ _)); exact BK513.out) hb); have n3_ := Aside0.mk (below_step (by repeat (first | (with_reducible first | exact HB.out | apply below_alloc | apply pw_below_drewN | apply below_drew1 | refine below_set ?_ GE482.out | refine below_set ?_ GE488.out | refine below_set ?_ GE513.out) | exact HB.out)) hb); clear BK482; clear BK488; clear BK513; clear HB; have BK482 := n0_; have BK488 := n1_; have BK513 := n2_; have HB := n3_; clear n0_ n1_ n2_ n3_; (try clear hb); (try clear hb2); (try clear hk); (try clear hi)) | ((with_reducible refine gate_callee (f := 19) rfl ?_); refine goesL_ (some 148) rfl rfl Tryd.func19 (by kernel_rfl) rfl #[.slice A1 l1.length c1] rfl (by (try simp only [List.map_toArray, List.map_cons, List.map_nil]); first | done | rfl | (simp only [List.length_drop, List.length_take]; rfl)) ?_; (with_reducible refine (spec_DrawMoveFraction.calls kj21 _ _ l1 t518 t519 t520 t521 t522 t523 _ ?side1 ?side2 A79.out).mono ?_); (case side1 => repeat (first | exact (Kd.C_below HR1.out HB.out) | (with_reducible refine Kd.C_alloc ?_ _) | (with_reducible refine Kd.C_drewN ?_ _) | (with_reducible refine Kd.C_drew ?_))); (case side2 => exact HC1.out); rintro e w91 ⟨rfl, hb⟩; refine ⟨_, rfl, ?_⟩; have n0_ := Aside0.mk (blk_below (g := gb482) (o := .cells #[.int .i64 t477, .int .i64 t478, .int .i64 t479, .int .i64 t480] 36 (0, 0)) (by (with_reducible repeat (first | refine blk_drewN ?_ _ | refine blk_drew ?_ | refine blk_alloc ?_ _)); exact BK482.out) hb); have n1_ := Aside0.mk (blk_below (g := gb488) (o := .cells #[.int .i64 t483, .int .i64 t484, .int .i64 t485, .int .i64 t486] 36 (0, 0)) (by (with_reducible repeat (first | refine blk_drewN ?_ _ | refine blk_drew ?_ | refine blk_alloc ?_ _)); exact BK488.out) hb); have n2_ := Aside0.mk (blk_below (g := gb513) (o := .cells #[.int .i64 t509, .int .i64 t510, .int .i64 t511, .int .i64 t512] 36 (0, 0)) (by (with_reducible repeat (first | refine blk_drewN ?_ _ | refine blk_drew ?_ | refine blk_alloc ?_ _)); exact BK513.out) hb); have n3_ := Aside0.mk (below_step (by repeat (first | (with_reducible first | exact HB.out | apply below_alloc | apply pw_below_drewN | apply below_drew1 | refine below_set ?_ GE482.out | refine below_set ?_ GE488.out | refine below_set ?_ GE513.out) | exact HB.out)) hb); clear BK482; clear BK488; clear BK513; clear HB; have BK482 := n0_; have BK488 := n1_; have BK513 := n2_; have HB := n3_; clear n0_ n1_ n2_ n3_; (try clear hb); (try clear hb2); (try clear hk); (try clear hi)) | ((with_reducible refine gate_dst (N := 24) rfl ?_); refine box_event ?hg (N := 24) ?hd (cs := #[.int .i64 0, .int .i64 0, .int .i64 0, .int .i64 0]) (t := 36) ?hr ?_; (case hd => rfl); (case hg => rfl); (case hr => first | (go_simp; done) | (go_simp; rfl)); intro gb524 hg w92 hbox hb; have n0_ := Aside0.mk (blk_below (g := gb482) (o := .cells #[.int .i64 t477, .int .i64 t478, .int .i64 t479, .int .i64 t480] 36 (0, 0)) (by (with_reducible repeat (first | refine blk_drewN ?_ _ | refine blk_drew ?_ | refine blk_alloc ?_ _)); exact BK482.out) hb); have n1_ := Aside0.mk (blk_below (g := gb488) (o := .cells #[.int .i64 t483, .int .i64 t484, .int .i64 t485, .int .i64 t486] 36 (0, 0)) (by (with_reducible repeat (first | refine blk_drewN ?_ _ | refine blk_drew ?_ | refine blk_alloc ?_ _)); exact BK488.out) hb); have n2_ := Aside0.mk (blk_below (g := gb513) (o := .cells #[.int .i64 t509, .int .i64 t510, .int .i64 t511, .int .i64 t512] 36 (0, 0)) (by (with_reducible repeat (first | refine blk_drewN ?_ _ | refine blk_drew ?_ | refine blk_alloc ?_ _)); exact BK513.out) hb); have n3_ := Aside0.mk (below_step (by repeat (first | (with_reducible first | exact HB.out | apply below_alloc | apply pw_below_drewN | apply below_drew1 | refine below_set ?_ GE482.out | refine below_set ?_ GE488.out | refine below_set ?_ GE513.out) | exact HB.out)) hb); have n4_ := Aside0.mk (hbox); have n5_ := Aside0.mk ((by rw [hg]; exact (below_size (by repeat (first | (with_reducible first | exact HB.out | apply below_alloc | apply pw_below_drewN | apply below_drew1 | refine below_set ?_ GE482.out | refine below_set ?_ GE488.out | refine below_set ?_ GE513.out) | exact HB.out))) : w.heap.size ≤ gb524)); have n6_ := Aside0.mk ((by rw [hg]; exact (below_size (by repeat (first | (with_reducible first | exact HB.out | apply below_alloc | apply pw_below_drewN | apply below_drew1 | refine below_set ?_ GE482.out | refine below_set ?_ GE488.out | refine below_set ?_ GE513.out) | exact HB.out))) : w.heap.size ≤ gb524)); have n7_ := Aside0.mk ((by rw [hg]; exact Nat.ne_of_lt (blk_lt (g := gb482) (o := .cells #[.int .i64 t477, .int .i64 t478, .int .i64 t479, .int .i64 t480] 36 (0, 0)) (by (with_reducible repeat (first | refine blk_drewN ?_ _ | refine blk_drew ?_ | refine blk_alloc ?_ _)); exact BK482.out)) : gb482 ≠ gb524)); have n8_ := Aside0.mk ((by rw [hg]; exact Nat.ne_of_gt (blk_lt (g := gb482) (o := .cells #[.int .i64 t477, .int .i64 t478, .int .i64 t479, .int .i64 t480] 36 (0, 0)) (by (with_reducible repeat (first | refine blk_drewN ?_ _ | refine blk_drew ?_ | refine blk_alloc ?_ _)); exact BK482.out)) : gb524 ≠ gb482)); have n9_ := Aside0.mk ((by rw [hg]; exact Nat.ne_of_lt (blk_lt (g := gb488) (o := .cells #[.int .i64 t483, .int .i64 t484, .int .i64 t485, .int .i64 t486] 36 (0, 0)) (by (with_reducible repeat (first | refine blk_drewN ?_ _ | refine blk_drew ?_ | refine blk_alloc ?_ _)); exact BK488.out)) : gb488 ≠ gb524)); have n10_ := Aside0.mk ((by rw [hg]; exact Nat.ne_of_gt (blk_lt (g := gb488) (o := .cells #[.int .i64 t483, .int .i64 t484, .int .i64 t485, .int .i64 t486] 36 (0, 0)) (by (with_reducible repeat (first | refine blk_drewN ?_ _ | refine blk_drew ?_ | refine blk_alloc ?_ _)); exact BK488.out)) : gb524 ≠ gb488)); have n11_ := Aside0.mk ((by rw [hg]; exact Nat.ne_of_lt (blk_lt (g := gb513) (o := .cells #[.int .i64 t509, .int .i64 t510, .int .i64 t511, .int .i64 t512] 36 (0, 0)) (by (with_reducible repeat (first | refine blk_drewN ?_ _ | refine blk_drew ?_ | refine blk_alloc ?_ _)); exact BK513.out)) : gb513 ≠ gb524)); have n12_ := Aside0.mk ((by rw [hg]; exact Nat.ne_of_gt (blk_lt (g := gb513) (o := .cells #[.int .i64 t509, .int .i64 t510, .int .i64 t511, .int .i64 t512] 36 (0, 0)) (by (with_reducible repeat (first | refine blk_drewN ?_ _ | refine blk_drew ?_ | refine blk_alloc ?_ _)); exact BK513.out)) : gb524 ≠ gb513)); clear BK482; clear BK488; clear BK513; clear HB; have BK482 := n0_; have BK488 := n1_; have BK513 := n2_; have HB := n3_; have BK524 := n4_; have GW524 := n5_; have GE524 := n6_; have NB482_524 := n7_; have NB524_482 := n8_; have NB488_524 := n9_; have NB524_488 := n10_; have NB513_524 := n11_; have NB524_513 := n12_; clear n0_ n1_ n2_ n3_ n4_ n5_ n6_ n7_ n8_ n9_ n10_ n11_ n12_; clear hb hbox hg) | ((with_reducible refine gate_dst (N := 25) rfl ?_); refine box_event ?hg (N := 25) ?hd (cs := #[.int .i64 0, .int .i64 0]) (t := 43) ?hr ?_; (case hd => rfl); (case hg => rfl); (case hr => first | (go_simp; done) | (go_simp; rfl)); intro gb525 hg w93 hbox hb; have n0_ := Aside0.mk (blk_below (g := gb482) (o := .cells #[.int .i64 t477, .int .i64 t478, .int .i64 t479, .int .i64 t480] 36 (0, 0)) (by (with_reducible repeat (first | refine blk_drewN ?_ _ | refine blk_drew ?_ | refine blk_alloc ?_ _)); exact BK482.out) hb); have n1_ := Aside0.mk (blk_below (g := gb488) (o := .cells #[.int .i64 t483, .int .i64 t484, .int .i64 t485, .int .i64 t486] 36 (0, 0)) (by (with_reducible repeat (first | refine blk_drewN ?_ _ | refine blk_drew ?_ | refine blk_alloc ?_ _)); exact BK488.out) hb); have n2_ := Aside0.mk (blk_below (g := gb513) (o := .cells #[.int .i64 t509, .int .i64 t510, .int .i64 t511, .int .i64 t512] 36 (0, 0)) (by (with_reducible repeat (first | refine blk_drewN ?_ _ | refine blk_drew ?_ | refine blk_alloc ?_ _)); exact BK513.out) hb); have n3_ := Aside0.mk (blk_below (g := gb524) (o := .cells #[.int .i64 0, .int .i64 0, .int .i64 0, .int .i64 0] 36 (0, 0)) (by (with_reducible repeat (first | refine blk_drewN ?_ _ | refine blk_drew ?_ | refine blk_alloc ?_ _)); exact BK524.out) hb); have n4_ := Aside0.mk (below_step (by repeat (first | (with_reducible first | exact HB.out | apply below_alloc | apply pw_below_drewN | apply below_drew1 | refine below_set ?_ GE482.out | refine below_set ?_ GE488.out | refine below_set ?_ GE513.out | refine below_set ?_ GE524.out) | exact HB.out)) hb); have n5_ := Aside0.mk (hbox); have n6_ := Aside0.mk ((by rw [hg]; exact (below_size (by repeat (first | (with_reducible first | exact HB.out | apply below_alloc | apply pw_below_drewN | apply below_drew1 | refine below_set ?_ GE482.out | refine below_set ?_ GE488.out | refine below_set ?_ GE513.out | refine below_set ?_ GE524.out) | exact HB.out))) : w.heap.size ≤ gb525)); have n7_ := Aside0.mk ((by rw [hg]; exact (below_size (by repeat (first | (with_reducible first | exact HB.out | apply below_alloc | apply pw_below_drewN | apply below_drew1 | refine below_set ?_ GE482.out | refine below_set ?_ GE488.out | refine below_set ?_ GE513.out | refine below_set ?_ GE524.out) | exact HB.out))) : w.heap.size ≤ gb525)); have n8_ := Aside0.mk ((by rw [hg]; exact Nat.ne_of_lt (blk_lt (g := gb482) (o := .cells #[.int .i64 t477, .int .i64 t478, .int .i64 t479, .int .i64 t480] 36 (0, 0)) (by (with_reducible repeat (first | refine blk_drewN ?_ _ | refine blk_drew ?_ | refine blk_alloc ?_ _)); exact BK482.out)) : gb482 ≠ gb525)); have n9_ := Aside0.mk ((by rw [hg]; exact Nat.ne_of_gt (blk_lt (g := gb482) (o := .cells #[.int .i64 t477, .int .i64 t478, .int .i64 t479, .int .i64 t480] 36 (0, 0)) (by (with_reducible repeat (first | refine blk_drewN ?_ _ | refine blk_drew ?_ | refine blk_alloc ?_ _)); exact BK482.out)) : gb525 ≠ gb482)); have n10_ := Aside0.mk ((by rw [hg]; exact Nat.ne_of_lt (blk_lt (g := gb488) (o := .cells #[.int .i64 t483, .int .i64 t484, .int .i64 t485, .int .i64 t486] 36 (0, 0)) (by (with_reducible repeat (first | refine blk_drewN ?_ _ | refine blk_drew ?_ | refine blk_alloc ?_ _)); exact BK488.out)) : gb488 ≠ gb525)); have n11_ := Aside0.mk ((by rw [hg]; exact Nat.ne_of_gt (blk_lt (g := gb488) (o := .cells #[.int .i64 t483, .int .i64 t484, .int .i64 t485, .int .i64 t486] 36 (0, 0)) (by (with_reducible repeat (first | refine blk_drewN ?_ _ | refine blk_drew ?_ | refine blk_alloc ?_ _)); exact BK488.out)) : gb525 ≠ gb488)); have n12_ := Aside0.mk ((by rw [hg]; exact Nat.ne_of_lt (blk_lt (g := gb513) (o := .cells #[.int .i64 t509, .int .i64 t510, .int .i64 t511, .int .i64 t512] 36 (0, 0)) (by (with_reducible repeat (first | refine blk_drewN ?_ _ | refine blk_drew ?_ | refine blk_alloc ?_ _)); exact BK513.out)) : gb513 ≠ gb525)); have n13_ := Aside0.mk ((by rw [hg]; exact Nat.ne_of_gt (blk_lt (g := gb513) (o := .cells #[.int .i64 t509, .int .i64 t510, .int .i64 t511, .int .i64 t512] 36 (0, 0)) (by (with_reducible repeat (first | refine blk_drewN ?_ _ | refine blk_drew ?_ | refine blk_alloc ?_ _)); exact BK513.out)) : gb525 ≠ gb513)); have n14_ := Aside0.mk ((by rw [hg]; exact Nat.ne_of_lt (blk_lt (g := gb524) (o := .cells #[.int .i64 0, .int .i64 0, .int .i64 0, .int .i64 0] 36 (0, 0)) (by (with_reducible repeat (first | refine blk_drewN ?_ _ | refine blk_drew ?_ | refine blk_alloc ?_ _)); exact BK524.out)) : gb524 ≠ gb525)); have n15_ := Aside0.mk ((by rw [hg]; exact Nat.ne_of_gt (blk_lt (g := gb524) (o := .cells #[.int .i64 0, .int .i64 0, .int .i64 0, .int .i64 0] 36 (0, 0)) (by (with_reducible repeat (first | refine blk_drewN ?_ _ | refine blk_drew ?_ | refine blk_alloc ?_ _)); exact BK524.out)) : gb525 ≠ gb524)); clear BK482; clear BK488; clear BK513; clear BK524; clear HB; have BK482 := n0_; have BK488 := n1_; have BK513 := n2_; have BK524 := n3_; have HB := n4_; have BK525 := n5_; have GW525 := n6_; have GE525 := n7_; have NB482_525 := n8_; have NB525_482 := n9_; have NB488_525 := n10_; have NB525_488 := n11_; have NB513_525 := n12_; have NB525_513 := n13_; have NB524_525 := n14_; have NB525_524 := n15_; clear n0_ n1_ n2_ n3_ n4_ n5_ n6_ n7_ n8_ n9_ n10_ n11_ n12_ n13_ n14_ n15_; clear hb hbox hg; have hnb94 := NB524_482.out; have hnc94 := NB482_524.out; have hnb95 := NB524_488.out; have hnc95 := NB488_524.out; have hnb96 := NB524_513.out; have hnc96 := NB513_524.out; have hnb97 := NB524_525.out; have hnc97 := NB525_524.out; have hcz98_0 : w93.cell? ⟨gb524, 0, none⟩ = some (.int .i64 0) := (blk_cell BK524.out 0).trans rfl; have hcz98_1 : w93.cell? ⟨gb524, 1, none⟩ = some (.int .i64 0) := (blk_cell BK524.out 1).trans rfl; have hcz98_2 : w93.cell? ⟨gb524, 2, none⟩ = some (.int .i64 0) := (blk_cell BK524.out 2).trans rfl; have hcz98_3 : w93.cell? ⟨gb524, 3, none⟩ = some (.int .i64 0) := (blk_cell BK524.out 3).trans rfl; have hfz98_0 := blk_frozen BK524.out 0; have hfz98_1 := blk_frozen BK524.out 1; have hfz98_2 := blk_frozen BK524.out 2; have hfz98_3 := blk_frozen BK524.out 3; have hnb99 := NB525_482.out; have hnc99 := NB482_525.out; have hnb100 := NB525_488.out; have hnc100 := NB488_525.out; have hnb101 := NB525_513.out; have hnc101 := NB513_525.out; have hcz102_0 : w93.cell? ⟨gb525, 0, none⟩ = some (.int .i64 0) := (blk_cell BK525.out 0).trans rfl; have hcz102_1 : w93.cell? ⟨gb525, 1, none⟩ = some (.int .i64 0) := (blk_cell BK525.out 1).trans rfl; have hfz102_0 := blk_frozen BK525.out 0; have hfz102_1 := blk_frozen BK525.out 1) | ((with_reducible refine gate_callee (f := 20) rfl ?_); refine goesL_ (some 154) rfl rfl Tryd.func20 (by kernel_rfl) rfl #[.agg #[.int .i64 t518, .int .i64 t519, .int .i64 t520, .int .i64 t521], .agg #[.int .i64 t522, .int .i64 t523]] rfl (by (try simp only [List.map_toArray, List.map_cons, List.map_nil]); first | done | rfl | (simp only [List.length_drop, List.length_take]; rfl)) ?_; (with_reducible refine (impl_MoveFraction.calls kj21 t518 t519 t520 t521 t522 t523 t526 t527 t528 _ A80.out).mono ?_); rintro e w103 ⟨rfl, hb⟩; refine ⟨_, rfl, ?_⟩; have n0_ := Aside0.mk (blk_below (g := gb482) (o := .cells #[.int .i64 t477, .int .i64 t478, .int .i64 t479, .int .i64 t480] 36 (0, 0)) (by (with_reducible repeat (first | refine blk_drewN ?_ _ | refine blk_drew ?_ | refine blk_alloc ?_ _)); refine blk_far ?_ NB482_525.out _; (with_reducible repeat (first | refine blk_drewN ?_ _ | refine blk_drew ?_ | refine blk_alloc ?_ _)); refine blk_far ?_ NB482_525.out _; (with_reducible repeat (first | refine blk_drewN ?_ _ | refine blk_drew ?_ | refine blk_alloc ?_ _)); refine blk_far ?_ NB482_524.out _; (with_reducible repeat (first | refine blk_drewN ?_ _ | refine blk_drew ?_ | refine blk_alloc ?_ _)); refine blk_far ?_ NB482_524.out _; (with_reducible repeat (first | refine blk_drewN ?_ _ | refine blk_drew ?_ | refine blk_alloc ?_ _)); refine blk_far ?_ NB482_524.out _; (with_reducible repeat (first | refine blk_drewN ?_ _ | refine blk_drew ?_ | refine blk_alloc ?_ _)); refine blk_far ?_ NB482_524.out _; (with_reducible repeat (first | refine blk_drewN ?_ _ | refine blk_drew ?_ | refine blk_alloc ?_ _)); exact BK482.out) hb); have n1_ := Aside0.mk (blk_below (g := gb488) (o := .cells #[.int .i64 t483, .int .i64 t484, .int .i64 t485, .int .i64 t486] 36 (0, 0)) (by (with_reducible repeat (first | refine blk_drewN ?_ _ | refine blk_drew ?_ | refine blk_alloc ?_ _)); refine blk_far ?_ NB488_525.out _; (with_reducible repeat (first | refine blk_drewN ?_ _ | refine blk_drew ?_ | refine blk_alloc ?_ _)); refine blk_far ?_ NB488_525.out _; (with_reducible repeat (first | refine blk_drewN ?_ _ | refine blk_drew ?_ | refine blk_alloc ?_ _)); refine blk_far ?_ NB488_524.out _; (with_reducible repeat (first | refine blk_drewN ?_ _ | refine blk_drew ?_ | refine blk_alloc ?_ _)); refine blk_far ?_ NB488_524.out _; (with_reducible repeat (first | refine blk_drewN ?_ _ | refine blk_drew ?_ | refine blk_alloc ?_ _)); refine blk_far ?_ NB488_524.out _; (with_reducible repeat (first | refine blk_drewN ?_ _ | refine blk_drew ?_ | refine blk_alloc ?_ _)); refine blk_far ?_ NB488_524.out _; (with_reducible repeat (first | refine blk_drewN ?_ _ | refine blk_drew ?_ | refine blk_alloc ?_ _)); exact BK488.out) hb); have n2_ := Aside0.mk (blk_below (g := gb513) (o := .cells #[.int .i64 t509, .int .i64 t510, .int .i64 t511, .int .i64 t512] 36 (0, 0)) (by (with_reducible repeat (first | refine blk_drewN ?_ _ | refine blk_drew ?_ | refine blk_alloc ?_ _)); refine blk_far ?_ NB513_525.out _; (with_reducible repeat (first | refine blk_drewN ?_ _ | refine blk_drew ?_ | refine blk_alloc ?_ _)); refine blk_far ?_ NB513_525.out _; (with_reducible repeat (first | refine blk_drewN ?_ _ | refine blk_drew ?_ | refine blk_alloc ?_ _)); refine blk_far ?_ NB513_524.out _; (with_reducible repeat (first | refine blk_drewN ?_ _ | refine blk_drew ?_ | refine blk_alloc ?_ _)); refine blk_far ?_ NB513_524.out _; (with_reducible repeat (first | refine blk_drewN ?_ _ | refine blk_drew ?_ | refine blk_alloc ?_ _)); refine blk_far ?_ NB513_524.out _; (with_reducible repeat (first | refine blk_drewN ?_ _ | refine blk_drew ?_ | refine blk_alloc ?_ _)); refine blk_far ?_ NB513_524.out _; (with_reducible repeat (first | refine blk_drewN ?_ _ | refine blk_drew ?_ | refine blk_alloc ?_ _)); exact BK513.out) hb); have n3_ := Aside0.mk (blk_below (g := gb524) (o := .cells #[.int .i64 t518, .int .i64 t519, .int .i64 t520, .int .i64 t521] 36 (0, 0)) (by (with_reducible repeat (first | refine blk_drewN ?_ _ | refine blk_drew ?_ | refine blk_alloc ?_ _)); refine blk_far ?_ NB524_525.out _; (with_reducible repeat (first | refine blk_drewN ?_ _ | refine blk_drew ?_ | refine blk_alloc ?_ _)); refine blk_far ?_ NB524_525.out _; (with_reducible repeat (first | refine blk_drewN ?_ _ | refine blk_drew ?_ | refine blk_alloc ?_ _)); refine blk_put (cs := #[.int .i64 t518, .int .i64 t519, .int .i64 t520, .int .i64 0]) ?_ 3 _ rfl; (with_reducible repeat (first | refine blk_drewN ?_ _ | refine blk_drew ?_ | refine blk_alloc ?_ _)); refine blk_put (cs := #[.int .i64 t518, .int .i64 t519, .int .i64 0, .int .i64 0]) ?_ 2 _ rfl; (with_reducible repeat (first | refine blk_drewN ?_ _ | refine blk_drew ?_ | refine blk_alloc ?_ _)); refine blk_put (cs := #[.int .i64 t518, .int .i64 0, .int .i64 0, .int .i64 0]) ?_ 1 _ rfl; (with_reducible repeat (first | refine blk_drewN ?_ _ | refine blk_drew ?_ | refine blk_alloc ?_ _)); refine blk_put (cs := #[.int .i64 0, .int .i64 0, .int .i64 0, .int .i64 0]) ?_ 0 _ rfl; (with_reducible repeat (first | refine blk_drewN ?_ _ | refine blk_drew ?_ | refine blk_alloc ?_ _)); exact BK524.out) hb); have n4_ := Aside0.mk (blk_below (g := gb525) (o := .cells #[.int .i64 t522, .int .i64 t523] 43 (0, 0)) (by (with_reducible repeat (first | refine blk_drewN ?_ _ | refine blk_drew ?_ | refine blk_alloc ?_ _)); refine blk_put (cs := #[.int .i64 t522, .int .i64 0]) ?_ 1 _ rfl; (with_reducible repeat (first | refine blk_drewN ?_ _ | refine blk_drew ?_ | refine blk_alloc ?_ _)); refine blk_put (cs := #[.int .i64 0, .int .i64 0]) ?_ 0 _ rfl; (with_reducible repeat (first | refine blk_drewN ?_ _ | refine blk_drew ?_ | refine blk_alloc ?_ _)); refine blk_far ?_ NB525_524.out _; (with_reducible repeat (first | refine blk_drewN ?_ _ | refine blk_drew ?_ | refine blk_alloc ?_ _)); refine blk_far ?_ NB525_524.out _; (with_reducible repeat (first | refine blk_drewN ?_ _ | refine blk_drew ?_ | refine blk_alloc ?_ _)); refine blk_far ?_ NB525_524.out _; (with_reducible repeat (first | refine blk_drewN ?_ _ | refine blk_drew ?_ | refine blk_alloc ?_ _)); refine blk_far ?_ NB525_524.out _; (with_reducible repeat (first | refine blk_drewN ?_ _ | refine blk_drew ?_ | refine blk_alloc ?_ _)); exact BK525.out) hb); have n5_ := Aside0.mk (below_step (by repeat (first | (with_reducible first | exact HB.out | apply below_alloc | apply pw_below_drewN | apply below_drew1 | refine below_set ?_ GE482.out | refine below_set ?_ GE488.out | refine below_set ?_ GE513.out | refine below_set ?_ GE524.out | refine below_set ?_ GE525.out) | exact HB.out)) hb); clear BK482; clear BK488; clear BK513; clear BK524; clear BK525; clear HB; have BK482 := n0_; have BK488 := n1_; have BK513 := n2_; have BK524 := n3_; have BK525 := n4_; have HB := n5_; clear n0_ n1_ n2_ n3_ n4_ n5_; (try clear hb); (try clear hb2); (try clear hk); (try clear hi); have hcz104_0 : w103.cell? ⟨gb524, 0, none⟩ = some (.int .i64 t518) := (blk_cell BK524.out 0).trans rfl; have hcz104_1 : w103.cell? ⟨gb524, 1, none⟩ = some (.int .i64 t519) := (blk_cell BK524.out 1).trans rfl; have hcz104_2 : w103.cell? ⟨gb524, 2, none⟩ = some (.int .i64 t520) := (blk_cell BK524.out 2).trans rfl; have hcz104_3 : w103.cell? ⟨gb524, 3, none⟩ = some (.int .i64 t521) := (blk_cell BK524.out 3).trans rfl; have hfz104_0 := blk_frozen BK524.out 0; have hfz104_1 := blk_frozen BK524.out 1; have hfz104_2 := blk_frozen BK524.out 2; have hfz104_3 := blk_frozen BK524.out 3; have hcz105_0 : w103.cell? ⟨gb525, 0, none⟩ = some (.int .i64 t522) := (blk_cell BK525.out 0).trans rfl; have hcz105_1 : w103.cell? ⟨gb525, 1, none⟩ = some (.int .i64 t523) := (blk_cell BK525.out 1).trans rfl; have hfz105_0 := blk_frozen BK525.out 0; have hfz105_1 := blk_frozen BK525.out 1) | ((with_reducible refine gate_callee (f := 21) rfl ?_); refine goesL_ (some 161) rfl rfl Tryd.func21 (by kernel_rfl) rfl #[.agg #[.int .i64 t518, .int .i64 t519, .int .i64 t520, .int .i64 t521], .agg #[.int .i64 t522, .int .i64 t523]] rfl (by (try simp only [List.map_toArray, List.map_cons, List.map_nil]); first | done | rfl | (simp only [List.length_drop, List.length_take]; rfl)) ?_; (with_reducible refine (spec_MoveFraction.calls kj21 t518 t519 t520 t521 t522 t523 t529 t530 t531 _ A81.out).mono ?_); rintro e w106 ⟨rfl, hb⟩; refine ⟨_, rfl, ?_⟩; have n0_ := Aside0.mk (blk_below (g := gb482) (o := .cells #[.int .i64 t477, .int .i64 t478, .int .i64 t479, .int .i64 t480] 36 (0, 0)) (by (with_reducible repeat (first | refine blk_drewN ?_ _ | refine blk_drew ?_ | refine blk_alloc ?_ _)); exact BK482.out) hb); have n1_ := Aside0.mk (blk_below (g := gb488) (o := .cells #[.int .i64 t483, .int .i64 t484, .int .i64 t485, .int .i64 t486] 36 (0, 0)) (by (with_reducible repeat (first | refine blk_drewN ?_ _ | refine blk_drew ?_ | refine blk_alloc ?_ _)); exact BK488.out) hb); have n2_ := Aside0.mk (blk_below (g := gb513) (o := .cells #[.int .i64 t509, .int .i64 t510, .int .i64 t511, .int .i64 t512] 36 (0, 0)) (by (with_reducible repeat (first | refine blk_drewN ?_ _ | refine blk_drew ?_ | refine blk_alloc ?_ _)); exact BK513.out) hb); have n3_ := Aside0.mk (blk_below (g := gb524) (o := .cells #[.int .i64 t518, .int .i64 t519, .int .i64 t520, .int .i64 t521] 36 (0, 0)) (by (with_reducible repeat (first | refine blk_drewN ?_ _ | refine blk_drew ?_ | refine blk_alloc ?_ _)); exact BK524.out) hb); have n4_ := Aside0.mk (blk_below (g := gb525) (o := .cells #[.int .i64 t522, .int .i64 t523] 43 (0, 0)) (by (with_reducible repeat (first | refine blk_drewN ?_ _ | refine blk_drew ?_ | refine blk_alloc ?_ _)); exact BK525.out) hb); have n5_ := Aside0.mk (below_step (by repeat (first | (with_reducible first | exact HB.out | apply below_alloc | apply pw_below_drewN | apply below_drew1 | refine below_set ?_ GE482.out | refine below_set ?_ GE488.out | refine below_set ?_ GE513.out | refine below_set ?_ GE524.out | refine below_set ?_ GE525.out) | exact HB.out)) hb); clear BK482; clear BK488; clear BK513; clear BK524; clear BK525; clear HB; have BK482 := n0_; have BK488 := n1_; have BK513 := n2_; have BK524 := n3_; have BK525 := n4_; have HB := n5_; clear n0_ n1_ n2_ n3_ n4_ n5_; (try clear hb); (try clear hb2); (try clear hk); (try clear hi)))
              (try simp only [Act.put, List.setIfInBounds_toArray, List.set_cons_zero, List.set_cons_succ])
              go_cut [187] (fun v187 wc => ∃ (kq : Nat) (x187_81 : Bool), v187 = .bool x187_81 ∧ Aside0 (laws_FnWordsTold.j3 kq t514 t515 t526 t527 t528 x187_81 t509 t510 t511 t512 t518 t519 t520 t521 t522 t523 = some r) ∧ Aside0 (kq ≤ kj21) ∧ Aside0 (wc.heap[gb482]? = some (.cells #[.int .i64 t477, .int .i64 t478, .int .i64 t479, .int .i64 t480] 36 (0, 0))) ∧ Aside0 (wc.heap[gb488]? = some (.cells #[.int .i64 t483, .int .i64 t484, .int .i64 t485, .int .i64 t486] 36 (0, 0))) ∧ Aside0 (wc.heap[gb513]? = some (.cells #[.int .i64 t509, .int .i64 t510, .int .i64 t511, .int .i64 t512] 36 (0, 0))) ∧ Aside0 (wc.heap[gb524]? = some (.cells #[.int .i64 t518, .int .i64 t519, .int .i64 t520, .int .i64 t521] 36 (0, 0))) ∧ Aside0 (wc.heap[gb525]? = some (.cells #[.int .i64 t522, .int .i64 t523] 43 (0, 0))) ∧ Aside0 (Below w.heap.size w wc))
              case first =>
                have H := HC82.out
                clear HC82
                by_cases c107 : (t515 != t517) = true
                · rw [if_pos c107] at H
                  have c107b0 : (t515 != t517) = true := c107
                  (try (have c107b1 : decide (t515 = t517) = false := by simpa using c107))
                  (try (have c107b2 : (t515 == t517) = false := by simpa using c107))
                  (try (have c107b3 : ¬ (t515 = t517) := by simpa using c107))
                  clear c107
                  (first | rw [c107b0] | (simp only [i64_w, i32_w]; rw [c107b0]) | skip)
                  as_aux_lemma =>
                    have H' := Aside0.mk H
                    clear H
                    go_wp2
                    go_meet
                    case rel => exact ⟨_, (true), (by first | rfl | (simp; done) | (simp [*]; done)), H', ⟨by have := HJ7.out; have := HJ21.out; first | omega | exact Nat.le_refl _⟩, ⟨by (with_reducible repeat (first | refine blk_drewN ?_ _ | refine blk_drew ?_ | refine blk_alloc ?_ _)); exact BK482.out⟩, ⟨by (with_reducible repeat (first | refine blk_drewN ?_ _ | refine blk_drew ?_ | refine blk_alloc ?_ _)); exact BK488.out⟩, ⟨by (with_reducible repeat (first | refine blk_drewN ?_ _ | refine blk_drew ?_ | refine blk_alloc ?_ _)); exact BK513.out⟩, ⟨by (with_reducible repeat (first | refine blk_drewN ?_ _ | refine blk_drew ?_ | refine blk_alloc ?_ _)); exact BK524.out⟩, ⟨by (with_reducible repeat (first | refine blk_drewN ?_ _ | refine blk_drew ?_ | refine blk_alloc ?_ _)); exact BK525.out⟩, ⟨by repeat (first | (with_reducible first | exact HB.out | apply below_alloc | apply pw_below_drewN | apply below_drew1 | refine below_set ?_ GE482.out | refine below_set ?_ GE488.out | refine below_set ?_ GE513.out | refine below_set ?_ GE524.out | refine below_set ?_ GE525.out) | exact HB.out)⟩⟩
                · rw [if_neg c107] at H
                  have c107b0 : (t515 != t517) = false := by simpa using c107
                  (try (have c107b1 : decide (t515 = t517) = true := by simpa using c107))
                  (try (have c107b2 : (t515 == t517) = true := by simpa using c107))
                  clear c107
                  (first | rw [c107b0] | (simp only [i64_w, i32_w]; rw [c107b0]) | skip)
                  by_cases c108 : t514.toList = t516.toList
                  · rw [if_pos c108] at H
                    have c108b0 : (t514.toList == t516.toList) = true := beq_iff_eq.mpr c108
                    have c108b1 : (t514.toList != t516.toList) = false := bne_eq_false_iff_eq.mpr c108
                    clear c108
                    by_cases c109 : (t528 != t531) = true
                    · rw [if_pos c109] at H
                      have c109b0 : (t528 != t531) = true := c109
                      (try (have c109b1 : decide (t528 = t531) = false := by simpa using c109))
                      (try (have c109b2 : (t528 == t531) = false := by simpa using c109))
                      (try (have c109b3 : ¬ (t528 = t531) := by simpa using c109))
                      clear c109
                      as_aux_lemma =>
                        have H' := Aside0.mk H
                        clear H
                        go_wp2
                        go_meet
                        case rel => exact ⟨_, (true), (by first | rfl | (simp; done) | (simp [*]; done)), H', ⟨by have := HJ7.out; have := HJ21.out; first | omega | exact Nat.le_refl _⟩, ⟨by (with_reducible repeat (first | refine blk_drewN ?_ _ | refine blk_drew ?_ | refine blk_alloc ?_ _)); exact BK482.out⟩, ⟨by (with_reducible repeat (first | refine blk_drewN ?_ _ | refine blk_drew ?_ | refine blk_alloc ?_ _)); exact BK488.out⟩, ⟨by (with_reducible repeat (first | refine blk_drewN ?_ _ | refine blk_drew ?_ | refine blk_alloc ?_ _)); exact BK513.out⟩, ⟨by (with_reducible repeat (first | refine blk_drewN ?_ _ | refine blk_drew ?_ | refine blk_alloc ?_ _)); exact BK524.out⟩, ⟨by (with_reducible repeat (first | refine blk_drewN ?_ _ | refine blk_drew ?_ | refine blk_alloc ?_ _)); exact BK525.out⟩, ⟨by repeat (first | (with_reducible first | exact HB.out | apply below_alloc | apply pw_below_drewN | apply below_drew1 | refine below_set ?_ GE482.out | refine below_set ?_ GE488.out | refine below_set ?_ GE513.out | refine below_set ?_ GE524.out | refine below_set ?_ GE525.out) | exact HB.out)⟩⟩
                    · rw [if_neg c109] at H
                      have c109b0 : (t528 != t531) = false := by simpa using c109
                      (try (have c109b1 : decide (t528 = t531) = true := by simpa using c109))
                      (try (have c109b2 : (t528 == t531) = true := by simpa using c109))
                      clear c109
                      by_cases c110 : t526 = t529
                      · rw [if_pos c110] at H
                        have c110b0 : (t526 == t529) = true := beq_iff_eq.mpr c110
                        have c110b1 : (t526 != t529) = false := bne_eq_false_iff_eq.mpr c110
                        clear c110
                        as_aux_lemma =>
                          have H' := Aside0.mk H
                          clear H
                          go_wp2
                          go_meet
                          case rel => exact ⟨_, ((t527 != t530)), (by first | rfl | (simp; done) | (simp [*]; done)), H', ⟨by have := HJ7.out; have := HJ21.out; first | omega | exact Nat.le_refl _⟩, ⟨by (with_reducible repeat (first | refine blk_drewN ?_ _ | refine blk_drew ?_ | refine blk_alloc ?_ _)); exact BK482.out⟩, ⟨by (with_reducible repeat (first | refine blk_drewN ?_ _ | refine blk_drew ?_ | refine blk_alloc ?_ _)); exact BK488.out⟩, ⟨by (with_reducible repeat (first | refine blk_drewN ?_ _ | refine blk_drew ?_ | refine blk_alloc ?_ _)); exact BK513.out⟩, ⟨by (with_reducible repeat (first | refine blk_drewN ?_ _ | refine blk_drew ?_ | refine blk_alloc ?_ _)); exact BK524.out⟩, ⟨by (with_reducible repeat (first | refine blk_drewN ?_ _ | refine blk_drew ?_ | refine blk_alloc ?_ _)); exact BK525.out⟩, ⟨by repeat (first | (with_reducible first | exact HB.out | apply below_alloc | apply pw_below_drewN | apply below_drew1 | refine below_set ?_ GE482.out | refine below_set ?_ GE488.out | refine below_set ?_ GE513.out | refine below_set ?_ GE524.out | refine below_set ?_ GE525.out) | exact HB.out)⟩⟩
                      · rw [if_neg c110] at H
                        have c110b0 : (t526 == t529) = false := beq_eq_false_iff_ne.mpr c110
                        have c110b1 : (t526 != t529) = true := bne_iff_ne.mpr c110
                        as_aux_lemma =>
                          have H' := Aside0.mk H
                          clear H
                          go_wp2
                          go_meet
                          case rel => exact ⟨_, (true), (by first | rfl | (simp; done) | (simp [*]; done)), H', ⟨by have := HJ7.out; have := HJ21.out; first | omega | exact Nat.le_refl _⟩, ⟨by (with_reducible repeat (first | refine blk_drewN ?_ _ | refine blk_drew ?_ | refine blk_alloc ?_ _)); exact BK482.out⟩, ⟨by (with_reducible repeat (first | refine blk_drewN ?_ _ | refine blk_drew ?_ | refine blk_alloc ?_ _)); exact BK488.out⟩, ⟨by (with_reducible repeat (first | refine blk_drewN ?_ _ | refine blk_drew ?_ | refine blk_alloc ?_ _)); exact BK513.out⟩, ⟨by (with_reducible repeat (first | refine blk_drewN ?_ _ | refine blk_drew ?_ | refine blk_alloc ?_ _)); exact BK524.out⟩, ⟨by (with_reducible repeat (first | refine blk_drewN ?_ _ | refine blk_drew ?_ | refine blk_alloc ?_ _)); exact BK525.out⟩, ⟨by repeat (first | (with_reducible first | exact HB.out | apply below_alloc | apply pw_below_drewN | apply below_drew1 | refine below_set ?_ GE482.out | refine below_set ?_ GE488.out | refine below_set ?_ GE513.out | refine below_set ?_ GE524.out | refine below_set ?_ GE525.out) | exact HB.out)⟩⟩
                  · rw [if_neg c108] at H
                    have c108b0 : (t514.toList == t516.toList) = false := beq_eq_false_iff_ne.mpr c108
                    have c108b1 : (t514.toList != t516.toList) = true := bne_iff_ne.mpr c108
                    as_aux_lemma =>
                      have H' := Aside0.mk H
                      clear H
                      go_wp2
                      go_meet
                      case rel => exact ⟨_, (true), (by first | rfl | (simp; done) | (simp [*]; done)), H', ⟨by have := HJ7.out; have := HJ21.out; first | omega | exact Nat.le_refl _⟩, ⟨by (with_reducible repeat (first | refine blk_drewN ?_ _ | refine blk_drew ?_ | refine blk_alloc ?_ _)); exact BK482.out⟩, ⟨by (with_reducible repeat (first | refine blk_drewN ?_ _ | refine blk_drew ?_ | refine blk_alloc ?_ _)); exact BK488.out⟩, ⟨by (with_reducible repeat (first | refine blk_drewN ?_ _ | refine blk_drew ?_ | refine blk_alloc ?_ _)); exact BK513.out⟩, ⟨by (with_reducible repeat (first | refine blk_drewN ?_ _ | refine blk_drew ?_ | refine blk_alloc ?_ _)); exact BK524.out⟩, ⟨by (with_reducible repeat (first | refine blk_drewN ?_ _ | refine blk_drew ?_ | refine blk_alloc ?_ _)); exact BK525.out⟩, ⟨by repeat (first | (with_reducible first | exact HB.out | apply below_alloc | apply pw_below_drewN | apply below_drew1 | refine below_set ?_ GE482.out | refine below_set ?_ GE488.out | refine below_set ?_ GE513.out | refine below_set ?_ GE524.out | refine below_set ?_ GE525.out) | exact HB.out)⟩⟩
              case rest =>
                clear HC82
                try clear c1
                try clear c2
                try clear p2
                try clear c3
                try clear c4
                try clear c5
                try clear c6
                try clear p6
                try clear c7
                try clear c8
                try clear c9
                try clear c10
                try clear c11
                try clear c12
                try clear c13
                try clear c14
                try clear c15
                try clear c16
                try clear c17
                try clear c17b0
                try clear c17b1
                try clear c17b2
                try clear c18
                try clear c19
                try clear c20
                try clear c21
                try clear c23
                try clear c26
                try clear c29
                try clear c30
                try clear c30b0
                try clear c30b1
                try clear c31
                try clear c31b0
                try clear c32
                try clear c34
                try clear c34b0
                try clear c35
                try clear c37
                try clear c37b0
                try clear c38
                try clear c40
                try clear c42
                try clear c44
                try clear c44b0
                try clear c44b1
                try clear c45
                try clear c45b0
                try clear c45b1
                try clear c47
                try clear c47b0
                try clear c48
                try clear c48b0
                try clear c51
                try clear c52
                try clear c53
                try clear c54
                try clear c54b0
                try clear c57
                try clear c58
                try clear c62
                try clear c63
                try clear c64
                try clear p64
                try clear c69
                try clear c70
                try clear c71
                try clear c72
                try clear c74
                try clear c85
                try clear c86
                try clear c94
                try clear c95
                try clear c96
                try clear c97
                try clear c99
                try clear c100
                try clear c101
                try clear c107
                try clear c107b0
                try clear c107b1
                try clear c107b2
                try clear c108
                try clear c108b0
                try clear c108b1
                try clear c109
                try clear c109b0
                try clear c109b1
                try clear c109b2
                try clear c110
                try clear c110b0
                try clear c110b1
                try clear hcz102_0
                try clear hcz102_1
                try clear hcz104_0
                try clear hcz104_1
                try clear hcz104_2
                try clear hcz104_3
                try clear hcz105_0
                try clear hcz105_1
                try clear hcz12_0
                try clear hcz12_1
                try clear hcz12_2
                try clear hcz12_3
                try clear hcz16_0
                try clear hcz16_1
                try clear hcz16_2
                try clear hcz16_3
                try clear hcz19_0
                try clear hcz19_1
                try clear hcz19_2
                try clear hcz19_3
                try clear hcz20_0
                try clear hcz20_1
                try clear hcz20_2
                try clear hcz20_3
                try clear hcz27_0
                try clear hcz27_1
                try clear hcz27_2
                try clear hcz27_3
                try clear hcz33_0
                try clear hcz33_1
                try clear hcz33_2
                try clear hcz33_3
                try clear hcz36_0
                try clear hcz36_1
                try clear hcz36_2
                try clear hcz36_3
                try clear hcz39_0
                try clear hcz39_1
                try clear hcz39_2
                try clear hcz39_3
                try clear hcz41_0
                try clear hcz41_1
                try clear hcz41_2
                try clear hcz41_3
                try clear hcz59_0
                try clear hcz59_1
                try clear hcz59_2
                try clear hcz59_3
                try clear hcz65_0
                try clear hcz65_1
                try clear hcz65_2
                try clear hcz65_3
                try clear hcz66_0
                try clear hcz66_1
                try clear hcz66_2
                try clear hcz66_3
                try clear hcz73_0
                try clear hcz73_1
                try clear hcz73_2
                try clear hcz73_3
                try clear hcz75_0
                try clear hcz75_1
                try clear hcz75_2
                try clear hcz75_3
                try clear hcz87_0
                try clear hcz87_1
                try clear hcz87_2
                try clear hcz87_3
                try clear hcz89_0
                try clear hcz89_1
                try clear hcz89_2
                try clear hcz89_3
                try clear hcz98_0
                try clear hcz98_1
                try clear hcz98_2
                try clear hcz98_3
                try clear hfz102_0
                try clear hfz102_1
                try clear hfz104_0
                try clear hfz104_1
                try clear hfz104_2
                try clear hfz104_3
                try clear hfz105_0
                try clear hfz105_1
                try clear hfz12_0
                try clear hfz12_1
                try clear hfz12_2
                try clear hfz12_3
                try clear hfz16_0
                try clear hfz16_1
                try clear hfz16_2
                try clear hfz16_3
                try clear hfz19_0
                try clear hfz19_1
                try clear hfz19_2
                try clear hfz19_3
                try clear hfz20_0
                try clear hfz20_1
                try clear hfz20_2
                try clear hfz20_3
                try clear hfz27_0
                try clear hfz27_1
                try clear hfz27_2
                try clear hfz27_3
                try clear hfz33_0
                try clear hfz33_1
                try clear hfz33_2
                try clear hfz33_3
                try clear hfz36_0
                try clear hfz36_1
                try clear hfz36_2
                try clear hfz36_3
                try clear hfz39_0
                try clear hfz39_1
                try clear hfz39_2
                try clear hfz39_3
                try clear hfz41_0
                try clear hfz41_1
                try clear hfz41_2
                try clear hfz41_3
                try clear hfz59_0
                try clear hfz59_1
                try clear hfz59_2
                try clear hfz59_3
                try clear hfz65_0
                try clear hfz65_1
                try clear hfz65_2
                try clear hfz65_3
                try clear hfz66_0
                try clear hfz66_1
                try clear hfz66_2
                try clear hfz66_3
                try clear hfz73_0
                try clear hfz73_1
                try clear hfz73_2
                try clear hfz73_3
                try clear hfz75_0
                try clear hfz75_1
                try clear hfz75_2
                try clear hfz75_3
                try clear hfz87_0
                try clear hfz87_1
                try clear hfz87_2
                try clear hfz87_3
                try clear hfz89_0
                try clear hfz89_1
                try clear hfz89_2
                try clear hfz89_3
                try clear hfz98_0
                try clear hfz98_1
                try clear hfz98_2
                try clear hfz98_3
                try clear p2
                try clear p6
                try clear p64
                obtain ⟨kq, x187_81, rfl, HA, HJ81, BK482, BK488, BK513, BK524, BK525, HB⟩ := hcut
                cases kq with
                | zero => exact absurd HA.out (by simp [laws_FnWordsTold.j3])
                | succ kj81 =>
                  have H := HA.out
                  clear HA
                  simp only [laws_FnWordsTold.j3] at H
                  by_cases c111 : x187_81 = true
                  · subst c111
                    rw [if_pos rfl] at H
                    obtain rfl := Option.some.inj H
                    cases hrt
                  · replace c111 := Bool.eq_false_iff.mpr c111
                    subst c111
                    rw [if_neg (show ¬ (false = true) by decide)] at H
                    have HC112 := Aside0.mk H
                    clear H
                    go_upto_if 188 with (fail)
                    go_cut [] (fun wc => ∃ (kq : Nat), Aside0 (laws_FnWordsTold.j4 kq t526 t527 t528 t518 t519 t520 t521 t522 t523 = some r) ∧ Aside0 (kq ≤ kj81) ∧ Aside0 (wc.heap[gb482]? = some (.cells #[.int .i64 t477, .int .i64 t478, .int .i64 t479, .int .i64 t480] 36 (0, 0))) ∧ Aside0 (wc.heap[gb488]? = some (.cells #[.int .i64 t483, .int .i64 t484, .int .i64 t485, .int .i64 t486] 36 (0, 0))) ∧ Aside0 (wc.heap[gb513]? = some (.cells #[.int .i64 t509, .int .i64 t510, .int .i64 t511, .int .i64 t512] 36 (0, 0))) ∧ Aside0 (wc.heap[gb524]? = some (.cells #[.int .i64 t518, .int .i64 t519, .int .i64 t520, .int .i64 t521] 36 (0, 0))) ∧ Aside0 (wc.heap[gb525]? = some (.cells #[.int .i64 t522, .int .i64 t523] 43 (0, 0))) ∧ Aside0 (Below w.heap.size w wc))
                    case first =>
                      have H := HC112.out
                      clear HC112
                      by_cases c113 : t515 = true
                      · subst c113
                        rw [if_pos rfl] at H
                        replace H := Option.bind_eq_some_iff.mp H
                        obtain ⟨⟨t532, t533, t534, t535, t536⟩, A1140, H⟩ := H
                        try dsimp only at H
                        have A114 := Aside0.mk A1140
                        clear A1140
                        by_cases c115 : t536 = true
                        · subst c115
                          rw [if_pos rfl] at H
                          by_cases c116 : (!(t532 == t509) || (!(t533 == t510) || (!(t534 == t511) || (!(t535 == t512))))) = true
                          · rw [if_pos c116] at H
                            have c116b0 : (!(t532 == t509) || (!(t533 == t510) || (!(t534 == t511) || (!(t535 == t512))))) = true := c116
                            clear c116
                            (first | rw [c116b0] | (simp only [i64_w, i32_w]; rw [c116b0]) | skip)
                            obtain rfl := Option.some.inj H
                            cases hrt
                          · rw [if_neg c116] at H
                            have c116b0 : (!(t532 == t509) || (!(t533 == t510) || (!(t534 == t511) || (!(t535 == t512))))) = false := by simpa using c116
                            clear c116
                            (first | rw [c116b0] | (simp only [i64_w, i32_w]; rw [c116b0]) | skip)
                            as_aux_lemma =>
                              have H' := Aside0.mk H
                              clear H
                              go_wp2_with (first | ((with_reducible refine gate_callee (f := 13) rfl ?_); refine goesL_ (some 191) rfl rfl Tryd.func13 (by kernel_rfl) rfl #[.string t514] rfl (by (try simp only [List.map_toArray, List.map_cons, List.map_nil]); first | done | rfl | (simp only [List.length_drop, List.length_take]; rfl)) ?_; (with_reducible refine (impl_MatrixOfWord.calls kj81 t514 t532 t533 t534 t535 true _ A114.out).mono ?_); rintro e w117 ⟨rfl, hb⟩; refine ⟨_, rfl, ?_⟩; have n0_ := Aside0.mk (blk_below (g := gb482) (o := .cells #[.int .i64 t477, .int .i64 t478, .int .i64 t479, .int .i64 t480] 36 (0, 0)) (by (with_reducible repeat (first | refine blk_drewN ?_ _ | refine blk_drew ?_ | refine blk_alloc ?_ _)); exact BK482.out) hb); have n1_ := Aside0.mk (blk_below (g := gb488) (o := .cells #[.int .i64 t483, .int .i64 t484, .int .i64 t485, .int .i64 t486] 36 (0, 0)) (by (with_reducible repeat (first | refine blk_drewN ?_ _ | refine blk_drew ?_ | refine blk_alloc ?_ _)); exact BK488.out) hb); have n2_ := Aside0.mk (blk_below (g := gb513) (o := .cells #[.int .i64 t509, .int .i64 t510, .int .i64 t511, .int .i64 t512] 36 (0, 0)) (by (with_reducible repeat (first | refine blk_drewN ?_ _ | refine blk_drew ?_ | refine blk_alloc ?_ _)); exact BK513.out) hb); have n3_ := Aside0.mk (blk_below (g := gb524) (o := .cells #[.int .i64 t518, .int .i64 t519, .int .i64 t520, .int .i64 t521] 36 (0, 0)) (by (with_reducible repeat (first | refine blk_drewN ?_ _ | refine blk_drew ?_ | refine blk_alloc ?_ _)); exact BK524.out) hb); have n4_ := Aside0.mk (blk_below (g := gb525) (o := .cells #[.int .i64 t522, .int .i64 t523] 43 (0, 0)) (by (with_reducible repeat (first | refine blk_drewN ?_ _ | refine blk_drew ?_ | refine blk_alloc ?_ _)); exact BK525.out) hb); have n5_ := Aside0.mk (below_step (by repeat (first | (with_reducible first | exact HB.out | apply below_alloc | apply pw_below_drewN | apply below_drew1 | refine below_set ?_ GE482.out | refine below_set ?_ GE488.out | refine below_set ?_ GE513.out | refine below_set ?_ GE524.out | refine below_set ?_ GE525.out) | exact HB.out)) hb); clear BK482; clear BK488; clear BK513; clear BK524; clear BK525; clear HB; have BK482 := n0_; have BK488 := n1_; have BK513 := n2_; have BK524 := n3_; have BK525 := n4_; have HB := n5_; clear n0_ n1_ n2_ n3_ n4_ n5_; (try clear hb); (try clear hb2); (try clear hk); (try clear hi)) | ((with_reducible refine gate_dst (N := 32) rfl ?_); refine box_event ?hg (N := 32) ?hd (cs := #[.int .i64 0, .int .i64 0, .int .i64 0, .int .i64 0]) (t := 36) ?hr ?_; (case hd => rfl); (case hg => rfl); (case hr => first | (go_simp; done) | (go_simp; rfl)); intro gb537 hg w118 hbox hb; have n0_ := Aside0.mk (blk_below (g := gb482) (o := .cells #[.int .i64 t477, .int .i64 t478, .int .i64 t479, .int .i64 t480] 36 (0, 0)) (by (with_reducible repeat (first | refine blk_drewN ?_ _ | refine blk_drew ?_ | refine blk_alloc ?_ _)); exact BK482.out) hb); have n1_ := Aside0.mk (blk_below (g := gb488) (o := .cells #[.int .i64 t483, .int .i64 t484, .int .i64 t485, .int .i64 t486] 36 (0, 0)) (by (with_reducible repeat (first | refine blk_drewN ?_ _ | refine blk_drew ?_ | refine blk_alloc ?_ _)); exact BK488.out) hb); have n2_ := Aside0.mk (blk_below (g := gb513) (o := .cells #[.int .i64 t509, .int .i64 t510, .int .i64 t511, .int .i64 t512] 36 (0, 0)) (by (with_reducible repeat (first | refine blk_drewN ?_ _ | refine blk_drew ?_ | refine blk_alloc ?_ _)); exact BK513.out) hb); have n3_ := Aside0.mk (blk_below (g := gb524) (o := .cells #[.int .i64 t518, .int .i64 t519, .int .i64 t520, .int .i64 t521] 36 (0, 0)) (by (with_reducible repeat (first | refine blk_drewN ?_ _ | refine blk_drew ?_ | refine blk_alloc ?_ _)); exact BK524.out) hb); have n4_ := Aside0.mk (blk_below (g := gb525) (o := .cells #[.int .i64 t522, .int .i64 t523] 43 (0, 0)) (by (with_reducible repeat (first | refine blk_drewN ?_ _ | refine blk_drew ?_ | refine blk_alloc ?_ _)); exact BK525.out) hb); have n5_ := Aside0.mk (below_step (by repeat (first | (with_reducible first | exact HB.out | apply below_alloc | apply pw_below_drewN | apply below_drew1 | refine below_set ?_ GE482.out | refine below_set ?_ GE488.out | refine below_set ?_ GE513.out | refine below_set ?_ GE524.out | refine below_set ?_ GE525.out) | exact HB.out)) hb); have n6_ := Aside0.mk (hbox); have n7_ := Aside0.mk ((by rw [hg]; exact (below_size (by repeat (first | (with_reducible first | exact HB.out | apply below_alloc | apply pw_below_drewN | apply below_drew1 | refine below_set ?_ GE482.out | refine below_set ?_ GE488.out | refine below_set ?_ GE513.out | refine below_set ?_ GE524.out | refine below_set ?_ GE525.out) | exact HB.out))) : w.heap.size ≤ gb537)); have n8_ := Aside0.mk ((by rw [hg]; exact (below_size (by repeat (first | (with_reducible first | exact HB.out | apply below_alloc | apply pw_below_drewN | apply below_drew1 | refine below_set ?_ GE482.out | refine below_set ?_ GE488.out | refine below_set ?_ GE513.out | refine below_set ?_ GE524.out | refine below_set ?_ GE525.out) | exact HB.out))) : w.heap.size ≤ gb537)); have n9_ := Aside0.mk ((by rw [hg]; exact Nat.ne_of_lt (blk_lt (g := gb482) (o := .cells #[.int .i64 t477, .int .i64 t478, .int .i64 t479, .int .i64 t480] 36 (0, 0)) (by (with_reducible repeat (first | refine blk_drewN ?_ _ | refine blk_drew ?_ | refine blk_alloc ?_ _)); exact BK482.out)) : gb482 ≠ gb537)); have n10_ := Aside0.mk ((by rw [hg]; exact Nat.ne_of_gt (blk_lt (g := gb482) (o := .cells #[.int .i64 t477, .int .i64 t478, .int .i64 t479, .int .i64 t480] 36 (0, 0)) (by (with_reducible repeat (first | refine blk_drewN ?_ _ | refine blk_drew ?_ | refine blk_alloc ?_ _)); exact BK482.out)) : gb537 ≠ gb482)); have n11_ := Aside0.mk ((by rw [hg]; exact Nat.ne_of_lt (blk_lt (g := gb488) (o := .cells #[.int .i64 t483, .int .i64 t484, .int .i64 t485, .int .i64 t486] 36 (0, 0)) (by (with_reducible repeat (first | refine blk_drewN ?_ _ | refine blk_drew ?_ | refine blk_alloc ?_ _)); exact BK488.out)) : gb488 ≠ gb537)); have n12_ := Aside0.mk ((by rw [hg]; exact Nat.ne_of_gt (blk_lt (g := gb488) (o := .cells #[.int .i64 t483, .int .i64 t484, .int .i64 t485, .int .i64 t486] 36 (0, 0)) (by (with_reducible repeat (first | refine blk_drewN ?_ _ | refine blk_drew ?_ | refine blk_alloc ?_ _)); exact BK488.out)) : gb537 ≠ gb488)); have n13_ := Aside0.mk ((by rw [hg]; exact Nat.ne_of_lt (blk_lt (g := gb513) (o := .cells #[.int .i64 t509, .int .i64 t510, .int .i64 t511, .int .i64 t512] 36 (0, 0)) (by (with_reducible repeat (first | refine blk_drewN ?_ _ | refine blk_drew ?_ | refine blk_alloc ?_ _)); exact BK513.out)) : gb513 ≠ gb537)); have n14_ := Aside0.mk ((by rw [hg]; exact Nat.ne_of_gt (blk_lt (g := gb513) (o := .cells #[.int .i64 t509, .int .i64 t510, .int .i64 t511, .int .i64 t512] 36 (0, 0)) (by (with_reducible repeat (first | refine blk_drewN ?_ _ | refine blk_drew ?_ | refine blk_alloc ?_ _)); exact BK513.out)) : gb537 ≠ gb513)); have n15_ := Aside0.mk ((by rw [hg]; exact Nat.ne_of_lt (blk_lt (g := gb524) (o := .cells #[.int .i64 t518, .int .i64 t519, .int .i64 t520, .int .i64 t521] 36 (0, 0)) (by (with_reducible repeat (first | refine blk_drewN ?_ _ | refine blk_drew ?_ | refine blk_alloc ?_ _)); exact BK524.out)) : gb524 ≠ gb537)); have n16_ := Aside0.mk ((by rw [hg]; exact Nat.ne_of_gt (blk_lt (g := gb524) (o := .cells #[.int .i64 t518, .int .i64 t519, .int .i64 t520, .int .i64 t521] 36 (0, 0)) (by (with_reducible repeat (first | refine blk_drewN ?_ _ | refine blk_drew ?_ | refine blk_alloc ?_ _)); exact BK524.out)) : gb537 ≠ gb524)); have n17_ := Aside0.mk ((by rw [hg]; exact Nat.ne_of_lt (blk_lt (g := gb525) (o := .cells #[.int .i64 t522, .int .i64 t523] 43 (0, 0)) (by (with_reducible repeat (first | refine blk_drewN ?_ _ | refine blk_drew ?_ | refine blk_alloc ?_ _)); exact BK525.out)) : gb525 ≠ gb537)); have n18_ := Aside0.mk ((by rw [hg]; exact Nat.ne_of_gt (blk_lt (g := gb525) (o := .cells #[.int .i64 t522, .int .i64 t523] 43 (0, 0)) (by (with_reducible repeat (first | refine blk_drewN ?_ _ | refine blk_drew ?_ | refine blk_alloc ?_ _)); exact BK525.out)) : gb537 ≠ gb525)); clear BK482; clear BK488; clear BK513; clear BK524; clear BK525; clear HB; have BK482 := n0_; have BK488 := n1_; have BK513 := n2_; have BK524 := n3_; have BK525 := n4_; have HB := n5_; have BK537 := n6_; have GW537 := n7_; have GE537 := n8_; have NB482_537 := n9_; have NB537_482 := n10_; have NB488_537 := n11_; have NB537_488 := n12_; have NB513_537 := n13_; have NB537_513 := n14_; have NB524_537 := n15_; have NB537_524 := n16_; have NB525_537 := n17_; have NB537_525 := n18_; clear n0_ n1_ n2_ n3_ n4_ n5_ n6_ n7_ n8_ n9_ n10_ n11_ n12_ n13_ n14_ n15_ n16_ n17_ n18_; clear hb hbox hg; have hnb119 := NB537_482.out; have hnc119 := NB482_537.out; have hnb120 := NB537_488.out; have hnc120 := NB488_537.out; have hnb121 := NB537_513.out; have hnc121 := NB513_537.out; have hnb122 := NB537_524.out; have hnc122 := NB524_537.out; have hnb123 := NB537_525.out; have hnc123 := NB525_537.out; have hcz124_0 : w118.cell? ⟨gb537, 0, none⟩ = some (.int .i64 0) := (blk_cell BK537.out 0).trans rfl; have hcz124_1 : w118.cell? ⟨gb537, 1, none⟩ = some (.int .i64 0) := (blk_cell BK537.out 1).trans rfl; have hcz124_2 : w118.cell? ⟨gb537, 2, none⟩ = some (.int .i64 0) := (blk_cell BK537.out 2).trans rfl; have hcz124_3 : w118.cell? ⟨gb537, 3, none⟩ = some (.int .i64 0) := (blk_cell BK537.out 3).trans rfl; have hfz124_0 := blk_frozen BK537.out 0; have hfz124_1 := blk_frozen BK537.out 1; have hfz124_2 := blk_frozen BK537.out 2; have hfz124_3 := blk_frozen BK537.out 3; have hnb125 := NB513_482.out; have hnc125 := NB482_513.out; have hnb126 := NB513_488.out; have hnc126 := NB488_513.out; have hnb127 := NB513_524.out; have hnc127 := NB524_513.out; have hnb128 := NB513_525.out; have hnc128 := NB525_513.out; have hcz129_0 : w118.cell? ⟨gb513, 0, none⟩ = some (.int .i64 t509) := (blk_cell BK513.out 0).trans rfl; have hcz129_1 : w118.cell? ⟨gb513, 1, none⟩ = some (.int .i64 t510) := (blk_cell BK513.out 1).trans rfl; have hcz129_2 : w118.cell? ⟨gb513, 2, none⟩ = some (.int .i64 t511) := (blk_cell BK513.out 2).trans rfl; have hcz129_3 : w118.cell? ⟨gb513, 3, none⟩ = some (.int .i64 t512) := (blk_cell BK513.out 3).trans rfl; have hfz129_0 := blk_frozen BK513.out 0; have hfz129_1 := blk_frozen BK513.out 1; have hfz129_2 := blk_frozen BK513.out 2; have hfz129_3 := blk_frozen BK513.out 3))
                              go_meet
                              case rel => exact ⟨_, H', ⟨by have := HJ7.out; have := HJ21.out; have := HJ81.out; first | omega | exact Nat.le_refl _⟩, ⟨by (with_reducible repeat (first | refine blk_drewN ?_ _ | refine blk_drew ?_ | refine blk_alloc ?_ _)); refine blk_far ?_ NB482_537.out _; (with_reducible repeat (first | refine blk_drewN ?_ _ | refine blk_drew ?_ | refine blk_alloc ?_ _)); refine blk_far ?_ NB482_537.out _; (with_reducible repeat (first | refine blk_drewN ?_ _ | refine blk_drew ?_ | refine blk_alloc ?_ _)); refine blk_far ?_ NB482_537.out _; (with_reducible repeat (first | refine blk_drewN ?_ _ | refine blk_drew ?_ | refine blk_alloc ?_ _)); refine blk_far ?_ NB482_537.out _; (with_reducible repeat (first | refine blk_drewN ?_ _ | refine blk_drew ?_ | refine blk_alloc ?_ _)); exact BK482.out⟩, ⟨by (with_reducible repeat (first | refine blk_drewN ?_ _ | refine blk_drew ?_ | refine blk_alloc ?_ _)); refine blk_far ?_ NB488_537.out _; (with_reducible repeat (first | refine blk_drewN ?_ _ | refine blk_drew ?_ | refine blk_alloc ?_ _)); refine blk_far ?_ NB488_537.out _; (with_reducible repeat (first | refine blk_drewN ?_ _ | refine blk_drew ?_ | refine blk_alloc ?_ _)); refine blk_far ?_ NB488_537.out _; (with_reducible repeat (first | refine blk_drewN ?_ _ | refine blk_drew ?_ | refine blk_alloc ?_ _)); refine blk_far ?_ NB488_537.out _; (with_reducible repeat (first | refine blk_drewN ?_ _ | refine blk_drew ?_ | refine blk_alloc ?_ _)); exact BK488.out⟩, ⟨by (with_reducible repeat (first | refine blk_drewN ?_ _ | refine blk_drew ?_ | refine blk_alloc ?_ _)); refine blk_far ?_ NB513_537.out _; (with_reducible repeat (first | refine blk_drewN ?_ _ | refine blk_drew ?_ | refine blk_alloc ?_ _)); refine blk_far ?_ NB513_537.out _; (with_reducible repeat (first | refine blk_drewN ?_ _ | refine blk_drew ?_ | refine blk_alloc ?_ _)); refine blk_far ?_ NB513_537.out _; (with_reducible repeat (first | refine blk_drewN ?_ _ | refine blk_drew ?_ | refine blk_alloc ?_ _)); refine blk_far ?_ NB513_537.out _; (with_reducible repeat (first | refine blk_drewN ?_ _ | refine blk_drew ?_ | refine blk_alloc ?_ _)); exact BK513.out⟩, ⟨by (with_reducible repeat (first | refine blk_drewN ?_ _ | refine blk_drew ?_ | refine blk_alloc ?_ _)); refine blk_far ?_ NB524_537.out _; (with_reducible repeat (first | refine blk_drewN ?_ _ | refine blk_drew ?_ | refine blk_alloc ?_ _)); refine blk_far ?_ NB524_537.out _; (with_reducible repeat (first | refine blk_drewN ?_ _ | refine blk_drew ?_ | refine blk_alloc ?_ _)); refine blk_far ?_ NB524_537.out _; (with_reducible repeat (first | refine blk_drewN ?_ _ | refine blk_drew ?_ | refine blk_alloc ?_ _)); refine blk_far ?_ NB524_537.out _; (with_reducible repeat (first | refine blk_drewN ?_ _ | refine blk_drew ?_ | refine blk_alloc ?_ _)); exact BK524.out⟩, ⟨by (with_reducible repeat (first | refine blk_drewN ?_ _ | refine blk_drew ?_ | refine blk_alloc ?_ _)); refine blk_far ?_ NB525_537.out _; (with_reducible repeat (first | refine blk_drewN ?_ _ | refine blk_drew ?_ | refine blk_alloc ?_ _)); refine blk_far ?_ NB525_537.out _; (with_reducible repeat (first | refine blk_drewN ?_ _ | refine blk_drew ?_ | refine blk_alloc ?_ _)); refine blk_far ?_ NB525_537.out _; (with_reducible repeat (first | refine blk_drewN ?_ _ | refine blk_drew ?_ | refine blk_alloc ?_ _)); refine blk_far ?_ NB525_537.out _; (with_reducible repeat (first | refine blk_drewN ?_ _ | refine blk_drew ?_ | refine blk_alloc ?_ _)); exact BK525.out⟩, ⟨by repeat (first | (with_reducible first | exact HB.out | apply below_alloc | apply pw_below_drewN | apply below_drew1 | refine below_set ?_ GE482.out | refine below_set ?_ GE488.out | refine below_set ?_ GE513.out | refine below_set ?_ GE524.out | refine below_set ?_ GE525.out | refine below_set ?_ GE537.out) | exact HB.out)⟩⟩
                        · replace c115 := Bool.eq_false_iff.mpr c115
                          subst c115
                          rw [if_neg (show ¬ (false = true) by decide)] at H
                          obtain rfl := Option.some.inj H
                          cases hrt
                      · replace c113 := Bool.eq_false_iff.mpr c113
                        subst c113
                        rw [if_neg (show ¬ (false = true) by decide)] at H
                        as_aux_lemma =>
                          have H' := Aside0.mk H
                          clear H
                          go_wp2
                          go_meet
                          case rel => exact ⟨_, H', ⟨by have := HJ7.out; have := HJ21.out; have := HJ81.out; first | omega | exact Nat.le_refl _⟩, ⟨by (with_reducible repeat (first | refine blk_drewN ?_ _ | refine blk_drew ?_ | refine blk_alloc ?_ _)); exact BK482.out⟩, ⟨by (with_reducible repeat (first | refine blk_drewN ?_ _ | refine blk_drew ?_ | refine blk_alloc ?_ _)); exact BK488.out⟩, ⟨by (with_reducible repeat (first | refine blk_drewN ?_ _ | refine blk_drew ?_ | refine blk_alloc ?_ _)); exact BK513.out⟩, ⟨by (with_reducible repeat (first | refine blk_drewN ?_ _ | refine blk_drew ?_ | refine blk_alloc ?_ _)); exact BK524.out⟩, ⟨by (with_reducible repeat (first | refine blk_drewN ?_ _ | refine blk_drew ?_ | refine blk_alloc ?_ _)); exact BK525.out⟩, ⟨by repeat (first | (with_reducible first | exact HB.out | apply below_alloc | apply pw_below_drewN | apply below_drew1 | refine below_set ?_ GE482.out | refine below_set ?_ GE488.out | refine below_set ?_ GE513.out | refine below_set ?_ GE524.out | refine below_set ?_ GE525.out) | exact HB.out)⟩⟩
                    case rest =>
                      clear HC112
                      try clear c1
                      try clear c2
                      try clear p2
                      try clear c3
                      try clear c4
                      try clear c5
                      try clear c6
                      try clear p6
                      try clear c7
                      try clear c8
                      try clear c9
                      try clear c10
                      try clear c11
                      try clear c12
                      try clear c13
                      try clear c14
                      try clear c15
                      try clear c16
                      try clear c17
                      try clear c17b0
                      try clear c17b1
                      try clear c17b2
                      try clear c18
                      try clear c19
                      try clear c20
                      try clear c21
                      try clear c23
                      try clear c26
                      try clear c29
                      try clear c30
                      try clear c30b0
                      try clear c30b1
                      try clear c31
                      try clear c31b0
                      try clear c32
                      try clear c34
                      try clear c34b0
                      try clear c35
                      try clear c37
                      try clear c37b0
                      try clear c38
                      try clear c40
                      try clear c42
                      try clear c44
                      try clear c44b0
                      try clear c44b1
                      try clear c45
                      try clear c45b0
                      try clear c45b1
                      try clear c47
                      try clear c47b0
                      try clear c48
                      try clear c48b0
                      try clear c51
                      try clear c52
                      try clear c53
                      try clear c54
                      try clear c54b0
                      try clear c57
                      try clear c58
                      try clear c62
                      try clear c63
                      try clear c64
                      try clear p64
                      try clear c69
                      try clear c70
                      try clear c71
                      try clear c72
                      try clear c74
                      try clear c85
                      try clear c86
                      try clear c94
                      try clear c95
                      try clear c96
                      try clear c97
                      try clear c99
                      try clear c100
                      try clear c101
                      try clear c107
                      try clear c107b0
                      try clear c107b1
                      try clear c107b2
                      try clear c108
                      try clear c108b0
                      try clear c108b1
                      try clear c109
                      try clear c109b0
                      try clear c109b1
                      try clear c109b2
                      try clear c110
                      try clear c110b0
                      try clear c110b1
                      try clear c111
                      try clear c113
                      try clear c115
                      try clear c116
                      try clear c116b0
                      try clear c119
                      try clear c120
                      try clear c121
                      try clear c122
                      try clear c123
                      try clear c125
                      try clear c126
                      try clear c127
                      try clear c128
                      try clear hcz102_0
                      try clear hcz102_1
                      try clear hcz104_0
                      try clear hcz104_1
                      try clear hcz104_2
                      try clear hcz104_3
                      try clear hcz105_0
                      try clear hcz105_1
                      try clear hcz124_0
                      try clear hcz124_1
                      try clear hcz124_2
                      try clear hcz124_3
                      try clear hcz129_0
                      try clear hcz129_1
                      try clear hcz129_2
                      try clear hcz129_3
                      try clear hcz12_0
                      try clear hcz12_1
                      try clear hcz12_2
                      try clear hcz12_3
                      try clear hcz16_0
                      try clear hcz16_1
                      try clear hcz16_2
                      try clear hcz16_3
                      try clear hcz19_0
                      try clear hcz19_1
                      try clear hcz19_2
                      try clear hcz19_3
                      try clear hcz20_0
                      try clear hcz20_1
                      try clear hcz20_2
                      try clear hcz20_3
                      try clear hcz27_0
                      try clear hcz27_1
                      try clear hcz27_2
                      try clear hcz27_3
                      try clear hcz33_0
                      try clear hcz33_1
                      try clear hcz33_2
                      try clear hcz33_3
                      try clear hcz36_0
                      try clear hcz36_1
                      try clear hcz36_2
                      try clear hcz36_3
                      try clear hcz39_0
                      try clear hcz39_1
                      try clear hcz39_2
                      try clear hcz39_3
                      try clear hcz41_0
                      try clear hcz41_1
                      try clear hcz41_2
                      try clear hcz41_3
                      try clear hcz59_0
                      try clear hcz59_1
                      try clear hcz59_2
                      try clear hcz59_3
                      try clear hcz65_0
                      try clear hcz65_1
                      try clear hcz65_2
                      try clear hcz65_3
                      try clear hcz66_0
                      try clear hcz66_1
                      try clear hcz66_2
                      try clear hcz66_3
                      try clear hcz73_0
                      try clear hcz73_1
                      try clear hcz73_2
                      try clear hcz73_3
                      try clear hcz75_0
                      try clear hcz75_1
                      try clear hcz75_2
                      try clear hcz75_3
                      try clear hcz87_0
                      try clear hcz87_1
                      try clear hcz87_2
                      try clear hcz87_3
                      try clear hcz89_0
                      try clear hcz89_1
                      try clear hcz89_2
                      try clear hcz89_3
                      try clear hcz98_0
                      try clear hcz98_1
                      try clear hcz98_2
                      try clear hcz98_3
                      try clear hfz102_0
                      try clear hfz102_1
                      try clear hfz104_0
                      try clear hfz104_1
                      try clear hfz104_2
                      try clear hfz104_3
                      try clear hfz105_0
                      try clear hfz105_1
                      try clear hfz124_0
                      try clear hfz124_1
                      try clear hfz124_2
                      try clear hfz124_3
                      try clear hfz129_0
                      try clear hfz129_1
                      try clear hfz129_2
                      try clear hfz129_3
                      try clear hfz12_0
                      try clear hfz12_1
                      try clear hfz12_2
                      try clear hfz12_3
                      try clear hfz16_0
                      try clear hfz16_1
                      try clear hfz16_2
                      try clear hfz16_3
                      try clear hfz19_0
                      try clear hfz19_1
                      try clear hfz19_2
                      try clear hfz19_3
                      try clear hfz20_0
                      try clear hfz20_1
                      try clear hfz20_2
                      try clear hfz20_3
                      try clear hfz27_0
                      try clear hfz27_1
                      try clear hfz27_2
                      try clear hfz27_3
                      try clear hfz33_0
                      try clear hfz33_1
                      try clear hfz33_2
                      try clear hfz33_3
                      try clear hfz36_0
                      try clear hfz36_1
                      try clear hfz36_2
                      try clear hfz36_3
                      try clear hfz39_0
                      try clear hfz39_1
                      try clear hfz39_2
                      try clear hfz39_3
                      try clear hfz41_0
                      try clear hfz41_1
                      try clear hfz41_2
                      try clear hfz41_3
                      try clear hfz59_0
                      try clear hfz59_1
                      try clear hfz59_2
                      try clear hfz59_3
                      try clear hfz65_0
                      try clear hfz65_1
                      try clear hfz65_2
                      try clear hfz65_3
                      try clear hfz66_0
                      try clear hfz66_1
                      try clear hfz66_2
                      try clear hfz66_3
                      try clear hfz73_0
                      try clear hfz73_1
                      try clear hfz73_2
                      try clear hfz73_3
                      try clear hfz75_0
                      try clear hfz75_1
                      try clear hfz75_2
                      try clear hfz75_3
                      try clear hfz87_0
                      try clear hfz87_1
                      try clear hfz87_2
                      try clear hfz87_3
                      try clear hfz89_0
                      try clear hfz89_1
                      try clear hfz89_2
                      try clear hfz89_3
                      try clear hfz98_0
                      try clear hfz98_1
                      try clear hfz98_2
                      try clear hfz98_3
                      try clear p2
                      try clear p6
                      try clear p64
                      obtain ⟨kq, HA, HJ111, BK482, BK488, BK513, BK524, BK525, HB⟩ := hcut
                      cases kq with
                      | zero => exact absurd HA.out (by simp [laws_FnWordsTold.j4])
                      | succ kj111 =>
                        have H := HA.out
                        clear HA
                        simp only [laws_FnWordsTold.j4] at H
                        by_cases c130 : t528 = true
                        · subst c130
                          rw [if_pos rfl] at H
                          have HC131 := Aside0.mk H
                          clear H
                          go_upto_region 31 with (fail)
                          go_cut [211] (fun v211 wc => ∃ (kq : Nat) (x211_130 : Bool), v211 = .bool x211_130 ∧ Aside0 (laws_FnWordsTold.j5 kq t526 t527 x211_130 t518 t519 t520 t521 t522 t523 = some r) ∧ Aside0 (kq ≤ kj111) ∧ Aside0 (wc.heap[gb482]? = some (.cells #[.int .i64 t477, .int .i64 t478, .int .i64 t479, .int .i64 t480] 36 (0, 0))) ∧ Aside0 (wc.heap[gb488]? = some (.cells #[.int .i64 t483, .int .i64 t484, .int .i64 t485, .int .i64 t486] 36 (0, 0))) ∧ Aside0 (wc.heap[gb513]? = some (.cells #[.int .i64 t509, .int .i64 t510, .int .i64 t511, .int .i64 t512] 36 (0, 0))) ∧ Aside0 (wc.heap[gb524]? = some (.cells #[.int .i64 t518, .int .i64 t519, .int .i64 t520, .int .i64 t521] 36 (0, 0))) ∧ Aside0 (wc.heap[gb525]? = some (.cells #[.int .i64 t522, .int .i64 t523] 43 (0, 0))) ∧ Aside0 (Below w.heap.size w wc))
                          case first =>
                            have H := HC131.out
                            clear HC131
                            by_cases c132 : t527 < 0
                            · rw [if_pos c132] at H
                              have c132b0 : decide (t527 < 0) = true := decide_eq_true c132
                              clear c132
                              (first | rw [c132b0] | (simp only [i64_w, i32_w]; rw [c132b0]) | skip)
                              as_aux_lemma =>
                                have H' := Aside0.mk H
                                clear H
                                go_wp2
                                go_meet
                                case rel => exact ⟨_, (true), (by first | rfl | (simp; done) | (simp [*]; done)), H', ⟨by have := HJ7.out; have := HJ21.out; have := HJ81.out; have := HJ111.out; first | omega | exact Nat.le_refl _⟩, ⟨by (with_reducible repeat (first | refine blk_drewN ?_ _ | refine blk_drew ?_ | refine blk_alloc ?_ _)); exact BK482.out⟩, ⟨by (with_reducible repeat (first | refine blk_drewN ?_ _ | refine blk_drew ?_ | refine blk_alloc ?_ _)); exact BK488.out⟩, ⟨by (with_reducible repeat (first | refine blk_drewN ?_ _ | refine blk_drew ?_ | refine blk_alloc ?_ _)); exact BK513.out⟩, ⟨by (with_reducible repeat (first | refine blk_drewN ?_ _ | refine blk_drew ?_ | refine blk_alloc ?_ _)); exact BK524.out⟩, ⟨by (with_reducible repeat (first | refine blk_drewN ?_ _ | refine blk_drew ?_ | refine blk_alloc ?_ _)); exact BK525.out⟩, ⟨by repeat (first | (with_reducible first | exact HB.out | apply below_alloc | apply pw_below_drewN | apply below_drew1 | refine below_set ?_ GE482.out | refine below_set ?_ GE488.out | refine below_set ?_ GE513.out | refine below_set ?_ GE524.out | refine below_set ?_ GE525.out) | exact HB.out)⟩⟩
                            · rw [if_neg c132] at H
                              have c132b0 : decide (t527 < 0) = false := decide_eq_false c132
                              clear c132
                              (first | rw [c132b0] | (simp only [i64_w, i32_w]; rw [c132b0]) | skip)
                              by_cases c133 : t527 = 0
                              · rw [if_pos c133] at H
                                have c133b0 : (t527 == 0) = true := beq_iff_eq.mpr c133
                                have c133b1 : (t527 != 0) = false := bne_eq_false_iff_eq.mpr c133
                                clear c133
                                as_aux_lemma =>
                                  have H' := Aside0.mk H
                                  clear H
                                  go_wp2
                                  go_meet
                                  case rel => exact ⟨_, ((t526 != 1)), (by first | rfl | (simp; done) | (simp [*]; done)), H', ⟨by have := HJ7.out; have := HJ21.out; have := HJ81.out; have := HJ111.out; first | omega | exact Nat.le_refl _⟩, ⟨by (with_reducible repeat (first | refine blk_drewN ?_ _ | refine blk_drew ?_ | refine blk_alloc ?_ _)); exact BK482.out⟩, ⟨by (with_reducible repeat (first | refine blk_drewN ?_ _ | refine blk_drew ?_ | refine blk_alloc ?_ _)); exact BK488.out⟩, ⟨by (with_reducible repeat (first | refine blk_drewN ?_ _ | refine blk_drew ?_ | refine blk_alloc ?_ _)); exact BK513.out⟩, ⟨by (with_reducible repeat (first | refine blk_drewN ?_ _ | refine blk_drew ?_ | refine blk_alloc ?_ _)); exact BK524.out⟩, ⟨by (with_reducible repeat (first | refine blk_drewN ?_ _ | refine blk_drew ?_ | refine blk_alloc ?_ _)); exact BK525.out⟩, ⟨by repeat (first | (with_reducible first | exact HB.out | apply below_alloc | apply pw_below_drewN | apply below_drew1 | refine below_set ?_ GE482.out | refine below_set ?_ GE488.out | refine below_set ?_ GE513.out | refine below_set ?_ GE524.out | refine below_set ?_ GE525.out) | exact HB.out)⟩⟩
                              · rw [if_neg c133] at H
                                have c133b0 : (t527 == 0) = false := beq_eq_false_iff_ne.mpr c133
                                have c133b1 : (t527 != 0) = true := bne_iff_ne.mpr c133
                                as_aux_lemma =>
                                  have H' := Aside0.mk H
                                  clear H
                                  go_wp2
                                  go_meet
                                  case rel => exact ⟨_, (false), (by first | rfl | (simp; done) | (simp [*]; done)), H', ⟨by have := HJ7.out; have := HJ21.out; have := HJ81.out; have := HJ111.out; first | omega | exact Nat.le_refl _⟩, ⟨by (with_reducible repeat (first | refine blk_drewN ?_ _ | refine blk_drew ?_ | refine blk_alloc ?_ _)); exact BK482.out⟩, ⟨by (with_reducible repeat (first | refine blk_drewN ?_ _ | refine blk_drew ?_ | refine blk_alloc ?_ _)); exact BK488.out⟩, ⟨by (with_reducible repeat (first | refine blk_drewN ?_ _ | refine blk_drew ?_ | refine blk_alloc ?_ _)); exact BK513.out⟩, ⟨by (with_reducible repeat (first | refine blk_drewN ?_ _ | refine blk_drew ?_ | refine blk_alloc ?_ _)); exact BK524.out⟩, ⟨by (with_reducible repeat (first | refine blk_drewN ?_ _ | refine blk_drew ?_ | refine blk_alloc ?_ _)); exact BK525.out⟩, ⟨by repeat (first | (with_reducible first | exact HB.out | apply below_alloc | apply pw_below_drewN | apply below_drew1 | refine below_set ?_ GE482.out | refine below_set ?_ GE488.out | refine below_set ?_ GE513.out | refine below_set ?_ GE524.out | refine below_set ?_ GE525.out) | exact HB.out)⟩⟩
                          case rest =>
                            clear HC131
                            try clear c1
                            try clear c2
                            try clear p2
                            try clear c3
                            try clear c4
                            try clear c5
                            try clear c6
                            try clear p6
                            try clear c7
                            try clear c8
                            try clear c9
                            try clear c10
                            try clear c11
                            try clear c12
                            try clear c13
                            try clear c14
                            try clear c15
                            try clear c16
                            try clear c17
                            try clear c17b0
                            try clear c17b1
                            try clear c17b2
                            try clear c18
                            try clear c19
                            try clear c20
                            try clear c21
                            try clear c23
                            try clear c26
                            try clear c29
                            try clear c30
                            try clear c30b0
                            try clear c30b1
                            try clear c31
                            try clear c31b0
                            try clear c32
                            try clear c34
                            try clear c34b0
                            try clear c35
                            try clear c37
                            try clear c37b0
                            try clear c38
                            try clear c40
                            try clear c42
                            try clear c44
                            try clear c44b0
                            try clear c44b1
                            try clear c45
                            try clear c45b0
                            try clear c45b1
                            try clear c47
                            try clear c47b0
                            try clear c48
                            try clear c48b0
                            try clear c51
                            try clear c52
                            try clear c53
                            try clear c54
                            try clear c54b0
                            try clear c57
                            try clear c58
                            try clear c62
                            try clear c63
                            try clear c64
                            try clear p64
                            try clear c69
                            try clear c70
                            try clear c71
                            try clear c72
                            try clear c74
                            try clear c85
                            try clear c86
                            try clear c94
                            try clear c95
                            try clear c96
                            try clear c97
                            try clear c99
                            try clear c100
                            try clear c101
                            try clear c107
                            try clear c107b0
                            try clear c107b1
                            try clear c107b2
                            try clear c108
                            try clear c108b0
                            try clear c108b1
                            try clear c109
                            try clear c109b0
                            try clear c109b1
                            try clear c109b2
                            try clear c110
                            try clear c110b0
                            try clear c110b1
                            try clear c111
                            try clear c113
                            try clear c115
                            try clear c116
                            try clear c116b0
                            try clear c119
                            try clear c120
                            try clear c121
                            try clear c122
                            try clear c123
                            try clear c125
                            try clear c126
                            try clear c127
                            try clear c128
                            try clear c130
                            try clear c132
                            try clear c132b0
                            try clear c133
                            try clear c133b0
                            try clear c133b1
                            try clear hcz102_0
                            try clear hcz102_1
                            try clear hcz104_0
                            try clear hcz104_1
                            try clear hcz104_2
                            try clear hcz104_3
                            try clear hcz105_0
                            try clear hcz105_1
                            try clear hcz124_0
                            try clear hcz124_1
                            try clear hcz124_2
                            try clear hcz124_3
                            try clear hcz129_0
                            try clear hcz129_1
                            try clear hcz129_2
                            try clear hcz129_3
                            try clear hcz12_0
                            try clear hcz12_1
                            try clear hcz12_2
                            try clear hcz12_3
                            try clear hcz16_0
                            try clear hcz16_1
                            try clear hcz16_2
                            try clear hcz16_3
                            try clear hcz19_0
                            try clear hcz19_1
                            try clear hcz19_2
                            try clear hcz19_3
                            try clear hcz20_0
                            try clear hcz20_1
                            try clear hcz20_2
                            try clear hcz20_3
                            try clear hcz27_0
                            try clear hcz27_1
                            try clear hcz27_2
                            try clear hcz27_3
                            try clear hcz33_0
                            try clear hcz33_1
                            try clear hcz33_2
                            try clear hcz33_3
                            try clear hcz36_0
                            try clear hcz36_1
                            try clear hcz36_2
                            try clear hcz36_3
                            try clear hcz39_0
                            try clear hcz39_1
                            try clear hcz39_2
                            try clear hcz39_3
                            try clear hcz41_0
                            try clear hcz41_1
                            try clear hcz41_2
                            try clear hcz41_3
                            try clear hcz59_0
                            try clear hcz59_1
                            try clear hcz59_2
                            try clear hcz59_3
                            try clear hcz65_0
                            try clear hcz65_1
                            try clear hcz65_2
                            try clear hcz65_3
                            try clear hcz66_0
                            try clear hcz66_1
                            try clear hcz66_2
                            try clear hcz66_3
                            try clear hcz73_0
                            try clear hcz73_1
                            try clear hcz73_2
                            try clear hcz73_3
                            try clear hcz75_0
                            try clear hcz75_1
                            try clear hcz75_2
                            try clear hcz75_3
                            try clear hcz87_0
                            try clear hcz87_1
                            try clear hcz87_2
                            try clear hcz87_3
                            try clear hcz89_0
                            try clear hcz89_1
                            try clear hcz89_2
                            try clear hcz89_3
                            try clear hcz98_0
                            try clear hcz98_1
                            try clear hcz98_2
                            try clear hcz98_3
                            try clear hfz102_0
                            try clear hfz102_1
                            try clear hfz104_0
                            try clear hfz104_1
                            try clear hfz104_2
                            try clear hfz104_3
                            try clear hfz105_0
                            try clear hfz105_1
                            try clear hfz124_0
                            try clear hfz124_1
                            try clear hfz124_2
                            try clear hfz124_3
                            try clear hfz129_0
                            try clear hfz129_1
                            try clear hfz129_2
                            try clear hfz129_3
                            try clear hfz12_0
                            try clear hfz12_1
                            try clear hfz12_2
                            try clear hfz12_3
                            try clear hfz16_0
                            try clear hfz16_1
                            try clear hfz16_2
                            try clear hfz16_3
                            try clear hfz19_0
                            try clear hfz19_1
                            try clear hfz19_2
                            try clear hfz19_3
                            try clear hfz20_0
                            try clear hfz20_1
                            try clear hfz20_2
                            try clear hfz20_3
                            try clear hfz27_0
                            try clear hfz27_1
                            try clear hfz27_2
                            try clear hfz27_3
                            try clear hfz33_0
                            try clear hfz33_1
                            try clear hfz33_2
                            try clear hfz33_3
                            try clear hfz36_0
                            try clear hfz36_1
                            try clear hfz36_2
                            try clear hfz36_3
                            try clear hfz39_0
                            try clear hfz39_1
                            try clear hfz39_2
                            try clear hfz39_3
                            try clear hfz41_0
                            try clear hfz41_1
                            try clear hfz41_2
                            try clear hfz41_3
                            try clear hfz59_0
                            try clear hfz59_1
                            try clear hfz59_2
                            try clear hfz59_3
                            try clear hfz65_0
                            try clear hfz65_1
                            try clear hfz65_2
                            try clear hfz65_3
                            try clear hfz66_0
                            try clear hfz66_1
                            try clear hfz66_2
                            try clear hfz66_3
                            try clear hfz73_0
                            try clear hfz73_1
                            try clear hfz73_2
                            try clear hfz73_3
                            try clear hfz75_0
                            try clear hfz75_1
                            try clear hfz75_2
                            try clear hfz75_3
                            try clear hfz87_0
                            try clear hfz87_1
                            try clear hfz87_2
                            try clear hfz87_3
                            try clear hfz89_0
                            try clear hfz89_1
                            try clear hfz89_2
                            try clear hfz89_3
                            try clear hfz98_0
                            try clear hfz98_1
                            try clear hfz98_2
                            try clear hfz98_3
                            try clear p2
                            try clear p6
                            try clear p64
                            obtain ⟨kq, x211_130, rfl, HA, HJ130, BK482, BK488, BK513, BK524, BK525, HB⟩ := hcut
                            cases kq with
                            | zero => exact absurd HA.out (by simp [laws_FnWordsTold.j5])
                            | succ kj130 =>
                              have H := HA.out
                              clear HA
                              simp only [laws_FnWordsTold.j5] at H
                              by_cases c134 : x211_130 = true
                              · subst c134
                                rw [if_pos rfl] at H
                                obtain rfl := Option.some.inj H
                                cases hrt
                              · replace c134 := Bool.eq_false_iff.mpr c134
                                subst c134
                                rw [if_neg (show ¬ (false = true) by decide)] at H
                                have HC135 := Aside0.mk H
                                clear H
                                go_upto_region 33 with (fail)
                                go_cut [221] (fun v221 wc => ∃ (kq : Nat) (x221_134 : Bool), v221 = .bool x221_134 ∧ Aside0 (laws_FnWordsTold.j6 kq t526 t527 x221_134 t518 t519 t520 t521 t522 t523 = some r) ∧ Aside0 (kq ≤ kj130) ∧ Aside0 (wc.heap[gb482]? = some (.cells #[.int .i64 t477, .int .i64 t478, .int .i64 t479, .int .i64 t480] 36 (0, 0))) ∧ Aside0 (wc.heap[gb488]? = some (.cells #[.int .i64 t483, .int .i64 t484, .int .i64 t485, .int .i64 t486] 36 (0, 0))) ∧ Aside0 (wc.heap[gb513]? = some (.cells #[.int .i64 t509, .int .i64 t510, .int .i64 t511, .int .i64 t512] 36 (0, 0))) ∧ Aside0 (wc.heap[gb524]? = some (.cells #[.int .i64 t518, .int .i64 t519, .int .i64 t520, .int .i64 t521] 36 (0, 0))) ∧ Aside0 (wc.heap[gb525]? = some (.cells #[.int .i64 t522, .int .i64 t523] 43 (0, 0))) ∧ Aside0 (Below w.heap.size w wc))
                                case first =>
                                  have H := HC135.out
                                  clear HC135
                                  by_cases c136 : t526 ≥ 0
                                  · rw [if_pos c136] at H
                                    have c136b0 : decide (0 ≤ t526) = true := decide_eq_true c136
                                    clear c136
                                    (first | rw [c136b0] | (simp only [i64_w, i32_w]; rw [c136b0]) | skip)
                                    by_cases c137 : t526 ≤ 1000000
                                    · rw [if_pos c137] at H
                                      have c137b0 : decide (t526 ≤ 1000000) = true := decide_eq_true c137
                                      clear c137
                                      as_aux_lemma =>
                                        have H' := Aside0.mk H
                                        clear H
                                        go_wp2
                                        go_meet
                                        case rel => exact ⟨_, (decide (t527 ≤ 1000000)), (by first | rfl | (simp; done) | (simp [*]; done)), H', ⟨by have := HJ7.out; have := HJ21.out; have := HJ81.out; have := HJ111.out; have := HJ130.out; first | omega | exact Nat.le_refl _⟩, ⟨by (with_reducible repeat (first | refine blk_drewN ?_ _ | refine blk_drew ?_ | refine blk_alloc ?_ _)); exact BK482.out⟩, ⟨by (with_reducible repeat (first | refine blk_drewN ?_ _ | refine blk_drew ?_ | refine blk_alloc ?_ _)); exact BK488.out⟩, ⟨by (with_reducible repeat (first | refine blk_drewN ?_ _ | refine blk_drew ?_ | refine blk_alloc ?_ _)); exact BK513.out⟩, ⟨by (with_reducible repeat (first | refine blk_drewN ?_ _ | refine blk_drew ?_ | refine blk_alloc ?_ _)); exact BK524.out⟩, ⟨by (with_reducible repeat (first | refine blk_drewN ?_ _ | refine blk_drew ?_ | refine blk_alloc ?_ _)); exact BK525.out⟩, ⟨by repeat (first | (with_reducible first | exact HB.out | apply below_alloc | apply pw_below_drewN | apply below_drew1 | refine below_set ?_ GE482.out | refine below_set ?_ GE488.out | refine below_set ?_ GE513.out | refine below_set ?_ GE524.out | refine below_set ?_ GE525.out) | exact HB.out)⟩⟩
                                    · rw [if_neg c137] at H
                                      have c137b0 : decide (t526 ≤ 1000000) = false := decide_eq_false c137
                                      clear c137
                                      as_aux_lemma =>
                                        have H' := Aside0.mk H
                                        clear H
                                        go_wp2
                                        go_meet
                                        case rel => exact ⟨_, (false), (by first | rfl | (simp; done) | (simp [*]; done)), H', ⟨by have := HJ7.out; have := HJ21.out; have := HJ81.out; have := HJ111.out; have := HJ130.out; first | omega | exact Nat.le_refl _⟩, ⟨by (with_reducible repeat (first | refine blk_drewN ?_ _ | refine blk_drew ?_ | refine blk_alloc ?_ _)); exact BK482.out⟩, ⟨by (with_reducible repeat (first | refine blk_drewN ?_ _ | refine blk_drew ?_ | refine blk_alloc ?_ _)); exact BK488.out⟩, ⟨by (with_reducible repeat (first | refine blk_drewN ?_ _ | refine blk_drew ?_ | refine blk_alloc ?_ _)); exact BK513.out⟩, ⟨by (with_reducible repeat (first | refine blk_drewN ?_ _ | refine blk_drew ?_ | refine blk_alloc ?_ _)); exact BK524.out⟩, ⟨by (with_reducible repeat (first | refine blk_drewN ?_ _ | refine blk_drew ?_ | refine blk_alloc ?_ _)); exact BK525.out⟩, ⟨by repeat (first | (with_reducible first | exact HB.out | apply below_alloc | apply pw_below_drewN | apply below_drew1 | refine below_set ?_ GE482.out | refine below_set ?_ GE488.out | refine below_set ?_ GE513.out | refine below_set ?_ GE524.out | refine below_set ?_ GE525.out) | exact HB.out)⟩⟩
                                  · rw [if_neg c136] at H
                                    have c136b0 : decide (0 ≤ t526) = false := decide_eq_false c136
                                    clear c136
                                    (first | rw [c136b0] | (simp only [i64_w, i32_w]; rw [c136b0]) | skip)
                                    as_aux_lemma =>
                                      have H' := Aside0.mk H
                                      clear H
                                      go_wp2
                                      go_meet
                                      case rel => exact ⟨_, (false), (by first | rfl | (simp; done) | (simp [*]; done)), H', ⟨by have := HJ7.out; have := HJ21.out; have := HJ81.out; have := HJ111.out; have := HJ130.out; first | omega | exact Nat.le_refl _⟩, ⟨by (with_reducible repeat (first | refine blk_drewN ?_ _ | refine blk_drew ?_ | refine blk_alloc ?_ _)); exact BK482.out⟩, ⟨by (with_reducible repeat (first | refine blk_drewN ?_ _ | refine blk_drew ?_ | refine blk_alloc ?_ _)); exact BK488.out⟩, ⟨by (with_reducible repeat (first | refine blk_drewN ?_ _ | refine blk_drew ?_ | refine blk_alloc ?_ _)); exact BK513.out⟩, ⟨by (with_reducible repeat (first | refine blk_drewN ?_ _ | refine blk_drew ?_ | refine blk_alloc ?_ _)); exact BK524.out⟩, ⟨by (with_reducible repeat (first | refine blk_drewN ?_ _ | refine blk_drew ?_ | refine blk_alloc ?_ _)); exact BK525.out⟩, ⟨by repeat (first | (with_reducible first | exact HB.out | apply below_alloc | apply pw_below_drewN | apply below_drew1 | refine below_set ?_ GE482.out | refine below_set ?_ GE488.out | refine below_set ?_ GE513.out | refine below_set ?_ GE524.out | refine below_set ?_ GE525.out) | exact HB.out)⟩⟩
                                case rest =>
                                  clear HC135
                                  try clear c1
                                  try clear c2
                                  try clear p2
                                  try clear c3
                                  try clear c4
                                  try clear c5
                                  try clear c6
                                  try clear p6
                                  try clear c7
                                  try clear c8
                                  try clear c9
                                  try clear c10
                                  try clear c11
                                  try clear c12
                                  try clear c13
                                  try clear c14
                                  try clear c15
                                  try clear c16
                                  try clear c17
                                  try clear c17b0
                                  try clear c17b1
                                  try clear c17b2
                                  try clear c18
                                  try clear c19
                                  try clear c20
                                  try clear c21
                                  try clear c23
                                  try clear c26
                                  try clear c29
                                  try clear c30
                                  try clear c30b0
                                  try clear c30b1
                                  try clear c31
                                  try clear c31b0
                                  try clear c32
                                  try clear c34
                                  try clear c34b0
                                  try clear c35
                                  try clear c37
                                  try clear c37b0
                                  try clear c38
                                  try clear c40
                                  try clear c42
                                  try clear c44
                                  try clear c44b0
                                  try clear c44b1
                                  try clear c45
                                  try clear c45b0
                                  try clear c45b1
                                  try clear c47
                                  try clear c47b0
                                  try clear c48
                                  try clear c48b0
                                  try clear c51
                                  try clear c52
                                  try clear c53
                                  try clear c54
                                  try clear c54b0
                                  try clear c57
                                  try clear c58
                                  try clear c62
                                  try clear c63
                                  try clear c64
                                  try clear p64
                                  try clear c69
                                  try clear c70
                                  try clear c71
                                  try clear c72
                                  try clear c74
                                  try clear c85
                                  try clear c86
                                  try clear c94
                                  try clear c95
                                  try clear c96
                                  try clear c97
                                  try clear c99
                                  try clear c100
                                  try clear c101
                                  try clear c107
                                  try clear c107b0
                                  try clear c107b1
                                  try clear c107b2
                                  try clear c108
                                  try clear c108b0
                                  try clear c108b1
                                  try clear c109
                                  try clear c109b0
                                  try clear c109b1
                                  try clear c109b2
                                  try clear c110
                                  try clear c110b0
                                  try clear c110b1
                                  try clear c111
                                  try clear c113
                                  try clear c115
                                  try clear c116
                                  try clear c116b0
                                  try clear c119
                                  try clear c120
                                  try clear c121
                                  try clear c122
                                  try clear c123
                                  try clear c125
                                  try clear c126
                                  try clear c127
                                  try clear c128
                                  try clear c130
                                  try clear c132
                                  try clear c132b0
                                  try clear c133
                                  try clear c133b0
                                  try clear c133b1
                                  try clear c134
                                  try clear c136
                                  try clear c136b0
                                  try clear c137
                                  try clear c137b0
                                  try clear hcz102_0
                                  try clear hcz102_1
                                  try clear hcz104_0
                                  try clear hcz104_1
                                  try clear hcz104_2
                                  try clear hcz104_3
                                  try clear hcz105_0
                                  try clear hcz105_1
                                  try clear hcz124_0
                                  try clear hcz124_1
                                  try clear hcz124_2
                                  try clear hcz124_3
                                  try clear hcz129_0
                                  try clear hcz129_1
                                  try clear hcz129_2
                                  try clear hcz129_3
                                  try clear hcz12_0
                                  try clear hcz12_1
                                  try clear hcz12_2
                                  try clear hcz12_3
                                  try clear hcz16_0
                                  try clear hcz16_1
                                  try clear hcz16_2
                                  try clear hcz16_3
                                  try clear hcz19_0
                                  try clear hcz19_1
                                  try clear hcz19_2
                                  try clear hcz19_3
                                  try clear hcz20_0
                                  try clear hcz20_1
                                  try clear hcz20_2
                                  try clear hcz20_3
                                  try clear hcz27_0
                                  try clear hcz27_1
                                  try clear hcz27_2
                                  try clear hcz27_3
                                  try clear hcz33_0
                                  try clear hcz33_1
                                  try clear hcz33_2
                                  try clear hcz33_3
                                  try clear hcz36_0
                                  try clear hcz36_1
                                  try clear hcz36_2
                                  try clear hcz36_3
                                  try clear hcz39_0
                                  try clear hcz39_1
                                  try clear hcz39_2
                                  try clear hcz39_3
                                  try clear hcz41_0
                                  try clear hcz41_1
                                  try clear hcz41_2
                                  try clear hcz41_3
                                  try clear hcz59_0
                                  try clear hcz59_1
                                  try clear hcz59_2
                                  try clear hcz59_3
                                  try clear hcz65_0
                                  try clear hcz65_1
                                  try clear hcz65_2
                                  try clear hcz65_3
                                  try clear hcz66_0
                                  try clear hcz66_1
                                  try clear hcz66_2
                                  try clear hcz66_3
                                  try clear hcz73_0
                                  try clear hcz73_1
                                  try clear hcz73_2
                                  try clear hcz73_3
                                  try clear hcz75_0
                                  try clear hcz75_1
                                  try clear hcz75_2
                                  try clear hcz75_3
                                  try clear hcz87_0
                                  try clear hcz87_1
                                  try clear hcz87_2
                                  try clear hcz87_3
                                  try clear hcz89_0
                                  try clear hcz89_1
                                  try clear hcz89_2
                                  try clear hcz89_3
                                  try clear hcz98_0
                                  try clear hcz98_1
                                  try clear hcz98_2
                                  try clear hcz98_3
                                  try clear hfz102_0
                                  try clear hfz102_1
                                  try clear hfz104_0
                                  try clear hfz104_1
                                  try clear hfz104_2
                                  try clear hfz104_3
                                  try clear hfz105_0
                                  try clear hfz105_1
                                  try clear hfz124_0
                                  try clear hfz124_1
                                  try clear hfz124_2
                                  try clear hfz124_3
                                  try clear hfz129_0
                                  try clear hfz129_1
                                  try clear hfz129_2
                                  try clear hfz129_3
                                  try clear hfz12_0
                                  try clear hfz12_1
                                  try clear hfz12_2
                                  try clear hfz12_3
                                  try clear hfz16_0
                                  try clear hfz16_1
                                  try clear hfz16_2
                                  try clear hfz16_3
                                  try clear hfz19_0
                                  try clear hfz19_1
                                  try clear hfz19_2
                                  try clear hfz19_3
                                  try clear hfz20_0
                                  try clear hfz20_1
                                  try clear hfz20_2
                                  try clear hfz20_3
                                  try clear hfz27_0
                                  try clear hfz27_1
                                  try clear hfz27_2
                                  try clear hfz27_3
                                  try clear hfz33_0
                                  try clear hfz33_1
                                  try clear hfz33_2
                                  try clear hfz33_3
                                  try clear hfz36_0
                                  try clear hfz36_1
                                  try clear hfz36_2
                                  try clear hfz36_3
                                  try clear hfz39_0
                                  try clear hfz39_1
                                  try clear hfz39_2
                                  try clear hfz39_3
                                  try clear hfz41_0
                                  try clear hfz41_1
                                  try clear hfz41_2
                                  try clear hfz41_3
                                  try clear hfz59_0
                                  try clear hfz59_1
                                  try clear hfz59_2
                                  try clear hfz59_3
                                  try clear hfz65_0
                                  try clear hfz65_1
                                  try clear hfz65_2
                                  try clear hfz65_3
                                  try clear hfz66_0
                                  try clear hfz66_1
                                  try clear hfz66_2
                                  try clear hfz66_3
                                  try clear hfz73_0
                                  try clear hfz73_1
                                  try clear hfz73_2
                                  try clear hfz73_3
                                  try clear hfz75_0
                                  try clear hfz75_1
                                  try clear hfz75_2
                                  try clear hfz75_3
                                  try clear hfz87_0
                                  try clear hfz87_1
                                  try clear hfz87_2
                                  try clear hfz87_3
                                  try clear hfz89_0
                                  try clear hfz89_1
                                  try clear hfz89_2
                                  try clear hfz89_3
                                  try clear hfz98_0
                                  try clear hfz98_1
                                  try clear hfz98_2
                                  try clear hfz98_3
                                  try clear p2
                                  try clear p6
                                  try clear p64
                                  obtain ⟨kq, x221_134, rfl, HA, HJ134, BK482, BK488, BK513, BK524, BK525, HB⟩ := hcut
                                  cases kq with
                                  | zero => exact absurd HA.out (by simp [laws_FnWordsTold.j6])
                                  | succ kj134 =>
                                    have H := HA.out
                                    clear HA
                                    simp only [laws_FnWordsTold.j6] at H
                                    by_cases c138 : x221_134 = true
                                    · subst c138
                                      rw [if_pos rfl] at H
                                      replace H := Option.bind_eq_some_iff.mp H
                                      obtain ⟨⟨t539, t540, t541, t542, t543⟩, A1390, H⟩ := H
                                      try dsimp only at H
                                      have A139 := Aside0.mk A1390
                                      clear A1390
                                      replace H := Option.bind_eq_some_iff.mp H
                                      obtain ⟨⟨t545, t546, t547⟩, A1400, H⟩ := H
                                      try dsimp only at H
                                      have A140 := Aside0.mk A1400
                                      clear A1400
                                      replace H := Option.bind_eq_some_iff.mp H
                                      obtain ⟨t548, A1410, H⟩ := H
                                      have A141 := Aside0.mk A1410
                                      clear A1410
                                      by_cases c142 : t548 = true
                                      · subst c142
                                        rw [if_pos rfl] at H
                                        by_cases c143 : t543 = true
                                        · subst c143
                                          rw [if_pos rfl] at H
                                          by_cases c144 : t547 = true
                                          · subst c144
                                            rw [if_pos rfl] at H
                                            by_cases c145 : t545 = t522
                                            · rw [if_pos c145] at H
                                              have c145b0 : (t545 == t522) = true := beq_iff_eq.mpr c145
                                              have c145b1 : (t545 != t522) = false := bne_eq_false_iff_eq.mpr c145
                                              clear c145
                                              by_cases c146 : t546 = t523
                                              · rw [if_pos c146] at H
                                                have c146b0 : (t546 == t523) = true := beq_iff_eq.mpr c146
                                                have c146b1 : (t546 != t523) = false := bne_eq_false_iff_eq.mpr c146
                                                clear c146
                                                as_aux_lemma =>
                                                  obtain rfl := Option.some.inj H
                                                  clear hrt
                                                  go_wp2_with (first | ((with_reducible refine gate_dst (N := 34) rfl ?_); refine box_event ?hg (N := 34) ?hd (cs := #[.int .i64 0, .int .i64 0]) (t := 43) ?hr ?_; (case hd => rfl); (case hg => rfl); (case hr => first | (go_simp; done) | (go_simp; rfl)); intro gb538 hg w147 hbox hb; have n0_ := Aside0.mk (blk_below (g := gb482) (o := .cells #[.int .i64 t477, .int .i64 t478, .int .i64 t479, .int .i64 t480] 36 (0, 0)) (by (with_reducible repeat (first | refine blk_drewN ?_ _ | refine blk_drew ?_ | refine blk_alloc ?_ _)); exact BK482.out) hb); have n1_ := Aside0.mk (blk_below (g := gb488) (o := .cells #[.int .i64 t483, .int .i64 t484, .int .i64 t485, .int .i64 t486] 36 (0, 0)) (by (with_reducible repeat (first | refine blk_drewN ?_ _ | refine blk_drew ?_ | refine blk_alloc ?_ _)); exact BK488.out) hb); have n2_ := Aside0.mk (blk_below (g := gb513) (o := .cells #[.int .i64 t509, .int .i64 t510, .int .i64 t511, .int .i64 t512] 36 (0, 0)) (by (with_reducible repeat (first | refine blk_drewN ?_ _ | refine blk_drew ?_ | refine blk_alloc ?_ _)); exact BK513.out) hb); have n3_ := Aside0.mk (blk_below (g := gb524) (o := .cells #[.int .i64 t518, .int .i64 t519, .int .i64 t520, .int .i64 t521] 36 (0, 0)) (by (with_reducible repeat (first | refine blk_drewN ?_ _ | refine blk_drew ?_ | refine blk_alloc ?_ _)); exact BK524.out) hb); have n4_ := Aside0.mk (blk_below (g := gb525) (o := .cells #[.int .i64 t522, .int .i64 t523] 43 (0, 0)) (by (with_reducible repeat (first | refine blk_drewN ?_ _ | refine blk_drew ?_ | refine blk_alloc ?_ _)); exact BK525.out) hb); have n5_ := Aside0.mk (below_step (by repeat (first | (with_reducible first | exact HB.out | apply below_alloc | apply pw_below_drewN | apply below_drew1 | refine below_set ?_ GE482.out | refine below_set ?_ GE488.out | refine below_set ?_ GE513.out | refine below_set ?_ GE524.out | refine below_set ?_ GE525.out) | exact HB.out)) hb); have n6_ := Aside0.mk (hbox); have n7_ := Aside0.mk ((by rw [hg]; exact (below_size (by repeat (first | (with_reducible first | exact HB.out | apply below_alloc | apply pw_below_drewN | apply below_drew1 | refine below_set ?_ GE482.out | refine below_set ?_ GE488.out | refine below_set ?_ GE513.out | refine below_set ?_ GE524.out | refine below_set ?_ GE525.out) | exact HB.out))) : w.heap.size ≤ gb538)); have n8_ := Aside0.mk ((by rw [hg]; exact (below_size (by repeat (first | (with_reducible first | exact HB.out | apply below_alloc | apply pw_below_drewN | apply below_drew1 | refine below_set ?_ GE482.out | refine below_set ?_ GE488.out | refine below_set ?_ GE513.out | refine below_set ?_ GE524.out | refine below_set ?_ GE525.out) | exact HB.out))) : w.heap.size ≤ gb538)); have n9_ := Aside0.mk ((by rw [hg]; exact Nat.ne_of_lt (blk_lt (g := gb482) (o := .cells #[.int .i64 t477, .int .i64 t478, .int .i64 t479, .int .i64 t480] 36 (0, 0)) (by (with_reducible repeat (first | refine blk_drewN ?_ _ | refine blk_drew ?_ | refine blk_alloc ?_ _)); exact BK482.out)) : gb482 ≠ gb538)); have n10_ := Aside0.mk ((by rw [hg]; exact Nat.ne_of_gt (blk_lt (g := gb482) (o := .cells #[.int .i64 t477, .int .i64 t478, .int .i64 t479, .int .i64 t480] 36 (0, 0)) (by (with_reducible repeat (first | refine blk_drewN ?_ _ | refine blk_drew ?_ | refine blk_alloc ?_ _)); exact BK482.out)) : gb538 ≠ gb482)); have n11_ := Aside0.mk ((by rw [hg]; exact Nat.ne_of_lt (blk_lt (g := gb488) (o := .cells #[.int .i64 t483, .int .i64 t484, .int .i64 t485, .int .i64 t486] 36 (0, 0)) (by (with_reducible repeat (first | refine blk_drewN ?_ _ | refine blk_drew ?_ | refine blk_alloc ?_ _)); exact BK488.out)) : gb488 ≠ gb538)); have n12_ := Aside0.mk ((by rw [hg]; exact Nat.ne_of_gt (blk_lt (g := gb488) (o := .cells #[.int .i64 t483, .int .i64 t484, .int .i64 t485, .int .i64 t486] 36 (0, 0)) (by (with_reducible repeat (first | refine blk_drewN ?_ _ | refine blk_drew ?_ | refine blk_alloc ?_ _)); exact BK488.out)) : gb538 ≠ gb488)); have n13_ := Aside0.mk ((by rw [hg]; exact Nat.ne_of_lt (blk_lt (g := gb513) (o := .cells #[.int .i64 t509, .int .i64 t510, .int .i64 t511, .int .i64 t512] 36 (0, 0)) (by (with_reducible repeat (first | refine blk_drewN ?_ _ | refine blk_drew ?_ | refine blk_alloc ?_ _)); exact BK513.out)) : gb513 ≠ gb538)); have n14_ := Aside0.mk ((by rw [hg]; exact Nat.ne_of_gt (blk_lt (g := gb513) (o := .cells #[.int .i64 t509, .int .i64 t510, .int .i64 t511, .int .i64 t512] 36 (0, 0)) (by (with_reducible repeat (first | refine blk_drewN ?_ _ | refine blk_drew ?_ | refine blk_alloc ?_ _)); exact BK513.out)) : gb538 ≠ gb513)); have n15_ := Aside0.mk ((by rw [hg]; exact Nat.ne_of_lt (blk_lt (g := gb524) (o := .cells #[.int .i64 t518, .int .i64 t519, .int .i64 t520, .int .i64 t521] 36 (0, 0)) (by (with_reducible repeat (first | refine blk_drewN ?_ _ | refine blk_drew ?_ | refine blk_alloc ?_ _)); exact BK524.out)) : gb524 ≠ gb538)); have n16_ := Aside0.mk ((by rw [hg]; exact Nat.ne_of_gt (blk_lt (g := gb524) (o := .cells #[.int .i64 t518, .int .i64 t519, .int .i64 t520, .int .i64 t521] 36 (0, 0)) (by (with_reducible repeat (first | refine blk_drewN ?_ _ | refine blk_drew ?_ | refine blk_alloc ?_ _)); exact BK524.out)) : gb538 ≠ gb524)); have n17_ := Aside0.mk ((by rw [hg]; exact Nat.ne_of_lt (blk_lt (g := gb525) (o := .cells #[.int .i64 t522, .int .i64 t523] 43 (0, 0)) (by (with_reducible repeat (first | refine blk_drewN ?_ _ | refine blk_drew ?_ | refine blk_alloc ?_ _)); exact BK525.out)) : gb525 ≠ gb538)); have n18_ := Aside0.mk ((by rw [hg]; exact Nat.ne_of_gt (blk_lt (g := gb525) (o := .cells #[.int .i64 t522, .int .i64 t523] 43 (0, 0)) (by (with_reducible repeat (first | refine blk_drewN ?_ _ | refine blk_drew ?_ | refine blk_alloc ?_ _)); exact BK525.out)) : gb538 ≠ gb525)); clear BK482; clear BK488; clear BK513; clear BK524; clear BK525; clear HB; have BK482 := n0_; have BK488 := n1_; have BK513 := n2_; have BK524 := n3_; have BK525 := n4_; have HB := n5_; have BK538 := n6_; have GW538 := n7_; have GE538 := n8_; have NB482_538 := n9_; have NB538_482 := n10_; have NB488_538 := n11_; have NB538_488 := n12_; have NB513_538 := n13_; have NB538_513 := n14_; have NB524_538 := n15_; have NB538_524 := n16_; have NB525_538 := n17_; have NB538_525 := n18_; clear n0_ n1_ n2_ n3_ n4_ n5_ n6_ n7_ n8_ n9_ n10_ n11_ n12_ n13_ n14_ n15_ n16_ n17_ n18_; clear hb hbox hg; have hnb148 := NB538_482.out; have hnc148 := NB482_538.out; have hnb149 := NB538_488.out; have hnc149 := NB488_538.out; have hnb150 := NB538_513.out; have hnc150 := NB513_538.out; have hnb151 := NB538_524.out; have hnc151 := NB524_538.out; have hnb152 := NB538_525.out; have hnc152 := NB525_538.out; have hcz153_0 : w147.cell? ⟨gb538, 0, none⟩ = some (.int .i64 0) := (blk_cell BK538.out 0).trans rfl; have hcz153_1 : w147.cell? ⟨gb538, 1, none⟩ = some (.int .i64 0) := (blk_cell BK538.out 1).trans rfl; have hfz153_0 := blk_frozen BK538.out 0; have hfz153_1 := blk_frozen BK538.out 1; have hnb154 := NB524_482.out; have hnc154 := NB482_524.out; have hnb155 := NB524_488.out; have hnc155 := NB488_524.out; have hnb156 := NB524_513.out; have hnc156 := NB513_524.out; have hnb157 := NB524_525.out; have hnc157 := NB525_524.out; have hcz158_0 : w147.cell? ⟨gb524, 0, none⟩ = some (.int .i64 t518) := (blk_cell BK524.out 0).trans rfl; have hcz158_1 : w147.cell? ⟨gb524, 1, none⟩ = some (.int .i64 t519) := (blk_cell BK524.out 1).trans rfl; have hcz158_2 : w147.cell? ⟨gb524, 2, none⟩ = some (.int .i64 t520) := (blk_cell BK524.out 2).trans rfl; have hcz158_3 : w147.cell? ⟨gb524, 3, none⟩ = some (.int .i64 t521) := (blk_cell BK524.out 3).trans rfl; have hfz158_0 := blk_frozen BK524.out 0; have hfz158_1 := blk_frozen BK524.out 1; have hfz158_2 := blk_frozen BK524.out 2; have hfz158_3 := blk_frozen BK524.out 3) | ((with_reducible refine gate_callee (f := 22) rfl ?_); refine goesL_ (some 227) rfl rfl Tryd.func22 (by kernel_rfl) rfl #[.agg #[.int .i64 t518, .int .i64 t519, .int .i64 t520, .int .i64 t521]] rfl (by (try simp only [List.map_toArray, List.map_cons, List.map_nil]); first | done | rfl | (simp only [List.length_drop, List.length_take]; rfl)) ?_; (with_reducible refine (impl_InverseMatrix.calls t518 t519 t520 t521 t539 t540 t541 t542 true _ A139.out).mono ?_); rintro e w159 ⟨rfl, hb⟩; refine ⟨_, rfl, ?_⟩; have n0_ := Aside0.mk (blk_below (g := gb482) (o := .cells #[.int .i64 t477, .int .i64 t478, .int .i64 t479, .int .i64 t480] 36 (0, 0)) (by (with_reducible repeat (first | refine blk_drewN ?_ _ | refine blk_drew ?_ | refine blk_alloc ?_ _)); refine blk_far ?_ NB482_538.out _; (with_reducible repeat (first | refine blk_drewN ?_ _ | refine blk_drew ?_ | refine blk_alloc ?_ _)); refine blk_far ?_ NB482_538.out _; (with_reducible repeat (first | refine blk_drewN ?_ _ | refine blk_drew ?_ | refine blk_alloc ?_ _)); exact BK482.out) hb); have n1_ := Aside0.mk (blk_below (g := gb488) (o := .cells #[.int .i64 t483, .int .i64 t484, .int .i64 t485, .int .i64 t486] 36 (0, 0)) (by (with_reducible repeat (first | refine blk_drewN ?_ _ | refine blk_drew ?_ | refine blk_alloc ?_ _)); refine blk_far ?_ NB488_538.out _; (with_reducible repeat (first | refine blk_drewN ?_ _ | refine blk_drew ?_ | refine blk_alloc ?_ _)); refine blk_far ?_ NB488_538.out _; (with_reducible repeat (first | refine blk_drewN ?_ _ | refine blk_drew ?_ | refine blk_alloc ?_ _)); exact BK488.out) hb); have n2_ := Aside0.mk (blk_below (g := gb513) (o := .cells #[.int .i64 t509, .int .i64 t510, .int .i64 t511, .int .i64 t512] 36 (0, 0)) (by (with_reducible repeat (first | refine blk_drewN ?_ _ | refine blk_drew ?_ | refine blk_alloc ?_ _)); refine blk_far ?_ NB513_538.out _; (with_reducible repeat (first | refine blk_drewN ?_ _ | refine blk_drew ?_ | refine blk_alloc ?_ _)); refine blk_far ?_ NB513_538.out _; (with_reducible repeat (first | refine blk_drewN ?_ _ | refine blk_drew ?_ | refine blk_alloc ?_ _)); exact BK513.out) hb); have n3_ := Aside0.mk (blk_below (g := gb524) (o := .cells #[.int .i64 t518, .int .i64 t519, .int .i64 t520, .int .i64 t521] 36 (0, 0)) (by (with_reducible repeat (first | refine blk_drewN ?_ _ | refine blk_drew ?_ | refine blk_alloc ?_ _)); refine blk_far ?_ NB524_538.out _; (with_reducible repeat (first | refine blk_drewN ?_ _ | refine blk_drew ?_ | refine blk_alloc ?_ _)); refine blk_far ?_ NB524_538.out _; (with_reducible repeat (first | refine blk_drewN ?_ _ | refine blk_drew ?_ | refine blk_alloc ?_ _)); exact BK524.out) hb); have n4_ := Aside0.mk (blk_below (g := gb525) (o := .cells #[.int .i64 t522, .int .i64 t523] 43 (0, 0)) (by (with_reducible repeat (first | refine blk_drewN ?_ _ | refine blk_drew ?_ | refine blk_alloc ?_ _)); refine blk_far ?_ NB525_538.out _; (with_reducible repeat (first | refine blk_drewN ?_ _ | refine blk_drew ?_ | refine blk_alloc ?_ _)); refine blk_far ?_ NB525_538.out _; (with_reducible repeat (first | refine blk_drewN ?_ _ | refine blk_drew ?_ | refine blk_alloc ?_ _)); exact BK525.out) hb); have n5_ := Aside0.mk (blk_below (g := gb538) (o := .cells #[.int .i64 t526, .int .i64 t527] 43 (0, 0)) (by (with_reducible repeat (first | refine blk_drewN ?_ _ | refine blk_drew ?_ | refine blk_alloc ?_ _)); refine blk_put (cs := #[.int .i64 t526, .int .i64 0]) ?_ 1 _ rfl; (with_reducible repeat (first | refine blk_drewN ?_ _ | refine blk_drew ?_ | refine blk_alloc ?_ _)); refine blk_put (cs := #[.int .i64 0, .int .i64 0]) ?_ 0 _ rfl; (with_reducible repeat (first | refine blk_drewN ?_ _ | refine blk_drew ?_ | refine blk_alloc ?_ _)); exact BK538.out) hb); have n6_ := Aside0.mk (below_step (by repeat (first | (with_reducible first | exact HB.out | apply below_alloc | apply pw_below_drewN | apply below_drew1 | refine below_set ?_ GE482.out | refine below_set ?_ GE488.out | refine below_set ?_ GE513.out | refine below_set ?_ GE524.out | refine below_set ?_ GE525.out | refine below_set ?_ GE538.out) | exact HB.out)) hb); clear BK482; clear BK488; clear BK513; clear BK524; clear BK525; clear BK538; clear HB; have BK482 := n0_; have BK488 := n1_; have BK513 := n2_; have BK524 := n3_; have BK525 := n4_; have BK538 := n5_; have HB := n6_; clear n0_ n1_ n2_ n3_ n4_ n5_ n6_; (try clear hb); (try clear hb2); (try clear hk); (try clear hi)) | ((with_reducible refine gate_dst (N := 35) rfl ?_); refine box_event ?hg (N := 35) ?hd (cs := #[.int .i64 0, .int .i64 0, .int .i64 0, .int .i64 0]) (t := 36) ?hr ?_; (case hd => rfl); (case hg => rfl); (case hr => first | (go_simp; done) | (go_simp; rfl)); intro gb544 hg w160 hbox hb; have n0_ := Aside0.mk (blk_below (g := gb482) (o := .cells #[.int .i64 t477, .int .i64 t478, .int .i64 t479, .int .i64 t480] 36 (0, 0)) (by (with_reducible repeat (first | refine blk_drewN ?_ _ | refine blk_drew ?_ | refine blk_alloc ?_ _)); exact BK482.out) hb); have n1_ := Aside0.mk (blk_below (g := gb488) (o := .cells #[.int .i64 t483, .int .i64 t484, .int .i64 t485, .int .i64 t486] 36 (0, 0)) (by (with_reducible repeat (first | refine blk_drewN ?_ _ | refine blk_drew ?_ | refine blk_alloc ?_ _)); exact BK488.out) hb); have n2_ := Aside0.mk (blk_below (g := gb513) (o := .cells #[.int .i64 t509, .int .i64 t510, .int .i64 t511, .int .i64 t512] 36 (0, 0)) (by (with_reducible repeat (first | refine blk_drewN ?_ _ | refine blk_drew ?_ | refine blk_alloc ?_ _)); exact BK513.out) hb); have n3_ := Aside0.mk (blk_below (g := gb524) (o := .cells #[.int .i64 t518, .int .i64 t519, .int .i64 t520, .int .i64 t521] 36 (0, 0)) (by (with_reducible repeat (first | refine blk_drewN ?_ _ | refine blk_drew ?_ | refine blk_alloc ?_ _)); exact BK524.out) hb); have n4_ := Aside0.mk (blk_below (g := gb525) (o := .cells #[.int .i64 t522, .int .i64 t523] 43 (0, 0)) (by (with_reducible repeat (first | refine blk_drewN ?_ _ | refine blk_drew ?_ | refine blk_alloc ?_ _)); exact BK525.out) hb); have n5_ := Aside0.mk (blk_below (g := gb538) (o := .cells #[.int .i64 t526, .int .i64 t527] 43 (0, 0)) (by (with_reducible repeat (first | refine blk_drewN ?_ _ | refine blk_drew ?_ | refine blk_alloc ?_ _)); exact BK538.out) hb); have n6_ := Aside0.mk (below_step (by repeat (first | (with_reducible first | exact HB.out | apply below_alloc | apply pw_below_drewN | apply below_drew1 | refine below_set ?_ GE482.out | refine below_set ?_ GE488.out | refine below_set ?_ GE513.out | refine below_set ?_ GE524.out | refine below_set ?_ GE525.out | refine below_set ?_ GE538.out) | exact HB.out)) hb); have n7_ := Aside0.mk (hbox); have n8_ := Aside0.mk ((by rw [hg]; exact (below_size (by repeat (first | (with_reducible first | exact HB.out | apply below_alloc | apply pw_below_drewN | apply below_drew1 | refine below_set ?_ GE482.out | refine below_set ?_ GE488.out | refine below_set ?_ GE513.out | refine below_set ?_ GE524.out | refine below_set ?_ GE525.out | refine below_set ?_ GE538.out) | exact HB.out))) : w.heap.size ≤ gb544)); have n9_ := Aside0.mk ((by rw [hg]; exact (below_size (by repeat (first | (with_reducible first | exact HB.out | apply below_alloc | apply pw_below_drewN | apply below_drew1 | refine below_set ?_ GE482.out | refine below_set ?_ GE488.out | refine below_set ?_ GE513.out | refine below_set ?_ GE524.out | refine below_set ?_ GE525.out | refine below_set ?_ GE538.out) | exact HB.out))) : w.heap.size ≤ gb544)); have n10_ := Aside0.mk ((by rw [hg]; exact Nat.ne_of_lt (blk_lt (g := gb482) (o := .cells #[.int .i64 t477, .int .i64 t478, .int .i64 t479, .int .i64 t480] 36 (0, 0)) (by (with_reducible repeat (first | refine blk_drewN ?_ _ | refine blk_drew ?_ | refine blk_alloc ?_ _)); exact BK482.out)) : gb482 ≠ gb544)); have n11_ := Aside0.mk ((by rw [hg]; exact Nat.ne_of_gt (blk_lt (g := gb482) (o := .cells #[.int .i64 t477, .int .i64 t478, .int .i64 t479, .int .i64 t480] 36 (0, 0)) (by (with_reducible repeat (first | refine blk_drewN ?_ _ | refine blk_drew ?_ | refine blk_alloc ?_ _)); exact BK482.out)) : gb544 ≠ gb482)); have n12_ := Aside0.mk ((by rw [hg]; exact Nat.ne_of_lt (blk_lt (g := gb488) (o := .cells #[.int .i64 t483, .int .i64 t484, .int .i64 t485, .int .i64 t486] 36 (0, 0)) (by (with_reducible repeat (first | refine blk_drewN ?_ _ | refine blk_drew ?_ | refine blk_alloc ?_ _)); exact BK488.out)) : gb488 ≠ gb544)); have n13_ := Aside0.mk ((by rw [hg]; exact Nat.ne_of_gt (blk_lt (g := gb488) (o := .cells #[.int .i64 t483, .int .i64 t484, .int .i64 t485, .int .i64 t486] 36 (0, 0)) (by (with_reducible repeat (first | refine blk_drewN ?_ _ | refine blk_drew ?_ | refine blk_alloc ?_ _)); exact BK488.out)) : gb544 ≠ gb488)); have n14_ := Aside0.mk ((by rw [hg]; exact Nat.ne_of_lt (blk_lt (g := gb513) (o := .cells #[.int .i64 t509, .int .i64 t510, .int .i64 t511, .int .i64 t512] 36 (0, 0)) (by (with_reducible repeat (first | refine blk_drewN ?_ _ | refine blk_drew ?_ | refine blk_alloc ?_ _)); exact BK513.out)) : gb513 ≠ gb544)); have n15_ := Aside0.mk ((by rw [hg]; exact Nat.ne_of_gt (blk_lt (g := gb513) (o := .cells #[.int .i64 t509, .int .i64 t510, .int .i64 t511, .int .i64 t512] 36 (0, 0)) (by (with_reducible repeat (first | refine blk_drewN ?_ _ | refine blk_drew ?_ | refine blk_alloc ?_ _)); exact BK513.out)) : gb544 ≠ gb513)); have n16_ := Aside0.mk ((by rw [hg]; exact Nat.ne_of_lt (blk_lt (g := gb524) (o := .cells #[.int .i64 t518, .int .i64 t519, .int .i64 t520, .int .i64 t521] 36 (0, 0)) (by (with_reducible repeat (first | refine blk_drewN ?_ _ | refine blk_drew ?_ | refine blk_alloc ?_ _)); exact BK524.out)) : gb524 ≠ gb544)); have n17_ := Aside0.mk ((by rw [hg]; exact Nat.ne_of_gt (blk_lt (g := gb524) (o := .cells #[.int .i64 t518, .int .i64 t519, .int .i64 t520, .int .i64 t521] 36 (0, 0)) (by (with_reducible repeat (first | refine blk_drewN ?_ _ | refine blk_drew ?_ | refine blk_alloc ?_ _)); exact BK524.out)) : gb544 ≠ gb524)); have n18_ := Aside0.mk ((by rw [hg]; exact Nat.ne_of_lt (blk_lt (g := gb525) (o := .cells #[.int .i64 t522, .int .i64 t523] 43 (0, 0)) (by (with_reducible repeat (first | refine blk_drewN ?_ _ | refine blk_drew ?_ | refine blk_alloc ?_ _)); exact BK525.out)) : gb525 ≠ gb544)); have n19_ := Aside0.mk ((by rw [hg]; exact Nat.ne_of_gt (blk_lt (g := gb525) (o := .cells #[.int .i64 t522, .int .i64 t523] 43 (0, 0)) (by (with_reducible repeat (first | refine blk_drewN ?_ _ | refine blk_drew ?_ | refine blk_alloc ?_ _)); exact BK525.out)) : gb544 ≠ gb525)); have n20_ := Aside0.mk ((by rw [hg]; exact Nat.ne_of_lt (blk_lt (g := gb538) (o := .cells #[.int .i64 t526, .int .i64 t527] 43 (0, 0)) (by (with_reducible repeat (first | refine blk_drewN ?_ _ | refine blk_drew ?_ | refine blk_alloc ?_ _)); exact BK538.out)) : gb538 ≠ gb544)); have n21_ := Aside0.mk ((by rw [hg]; exact Nat.ne_of_gt (blk_lt (g := gb538) (o := .cells #[.int .i64 t526, .int .i64 t527] 43 (0, 0)) (by (with_reducible repeat (first | refine blk_drewN ?_ _ | refine blk_drew ?_ | refine blk_alloc ?_ _)); exact BK538.out)) : gb544 ≠ gb538)); clear BK482; clear BK488; clear BK513; clear BK524; clear BK525; clear BK538; clear HB; have BK482 := n0_; have BK488 := n1_; have BK513 := n2_; have BK524 := n3_; have BK525 := n4_; have BK538 := n5_; have HB := n6_; have BK544 := n7_; have GW544 := n8_; have GE544 := n9_; have NB482_544 := n10_; have NB544_482 := n11_; have NB488_544 := n12_; have NB544_488 := n13_; have NB513_544 := n14_; have NB544_513 := n15_; have NB524_544 := n16_; have NB544_524 := n17_; have NB525_544 := n18_; have NB544_525 := n19_; have NB538_544 := n20_; have NB544_538 := n21_; clear n0_ n1_ n2_ n3_ n4_ n5_ n6_ n7_ n8_ n9_ n10_ n11_ n12_ n13_ n14_ n15_ n16_ n17_ n18_ n19_ n20_ n21_; clear hb hbox hg; have hnb161 := NB544_482.out; have hnc161 := NB482_544.out; have hnb162 := NB544_488.out; have hnc162 := NB488_544.out; have hnb163 := NB544_513.out; have hnc163 := NB513_544.out; have hnb164 := NB544_524.out; have hnc164 := NB524_544.out; have hnb165 := NB544_525.out; have hnc165 := NB525_544.out; have hnb166 := NB544_538.out; have hnc166 := NB538_544.out; have hcz167_0 : w160.cell? ⟨gb544, 0, none⟩ = some (.int .i64 0) := (blk_cell BK544.out 0).trans rfl; have hcz167_1 : w160.cell? ⟨gb544, 1, none⟩ = some (.int .i64 0) := (blk_cell BK544.out 1).trans rfl; have hcz167_2 : w160.cell? ⟨gb544, 2, none⟩ = some (.int .i64 0) := (blk_cell BK544.out 2).trans rfl; have hcz167_3 : w160.cell? ⟨gb544, 3, none⟩ = some (.int .i64 0) := (blk_cell BK544.out 3).trans rfl; have hfz167_0 := blk_frozen BK544.out 0; have hfz167_1 := blk_frozen BK544.out 1; have hfz167_2 := blk_frozen BK544.out 2; have hfz167_3 := blk_frozen BK544.out 3; have hcz168_0 : w160.cell? ⟨gb538, 0, none⟩ = some (.int .i64 t526) := (blk_cell BK538.out 0).trans rfl; have hcz168_1 : w160.cell? ⟨gb538, 1, none⟩ = some (.int .i64 t527) := (blk_cell BK538.out 1).trans rfl; have hfz168_0 := blk_frozen BK538.out 0; have hfz168_1 := blk_frozen BK538.out 1) | ((with_reducible refine gate_callee (f := 20) rfl ?_); refine goesL_ (some 233) rfl rfl Tryd.func20 (by kernel_rfl) rfl #[.agg #[.int .i64 t539, .int .i64 t540, .int .i64 t541, .int .i64 t542], .agg #[.int .i64 t526, .int .i64 t527]] rfl (by (try simp only [List.map_toArray, List.map_cons, List.map_nil]); first | done | rfl | (simp only [List.length_drop, List.length_take]; rfl)) ?_; (with_reducible refine (impl_MoveFraction.calls kj134 t539 t540 t541 t542 t526 t527 t545 t546 true _ A140.out).mono ?_); rintro e w169 ⟨rfl, hb⟩; refine ⟨_, rfl, ?_⟩; have n0_ := Aside0.mk (blk_below (g := gb482) (o := .cells #[.int .i64 t477, .int .i64 t478, .int .i64 t479, .int .i64 t480] 36 (0, 0)) (by (with_reducible repeat (first | refine blk_drewN ?_ _ | refine blk_drew ?_ | refine blk_alloc ?_ _)); refine blk_far ?_ NB482_544.out _; (with_reducible repeat (first | refine blk_drewN ?_ _ | refine blk_drew ?_ | refine blk_alloc ?_ _)); refine blk_far ?_ NB482_544.out _; (with_reducible repeat (first | refine blk_drewN ?_ _ | refine blk_drew ?_ | refine blk_alloc ?_ _)); refine blk_far ?_ NB482_544.out _; (with_reducible repeat (first | refine blk_drewN ?_ _ | refine blk_drew ?_ | refine blk_alloc ?_ _)); refine blk_far ?_ NB482_544.out _; (with_reducible repeat (first | refine blk_drewN ?_ _ | refine blk_drew ?_ | refine blk_alloc ?_ _)); exact BK482.out) hb); have n1_ := Aside0.mk (blk_below (g := gb488) (o := .cells #[.int .i64 t483, .int .i64 t484, .int .i64 t485, .int .i64 t486] 36 (0, 0)) (by (with_reducible repeat (first | refine blk_drewN ?_ _ | refine blk_drew ?_ | refine blk_alloc ?_ _)); refine blk_far ?_ NB488_544.out _; (with_reducible repeat (first | refine blk_drewN ?_ _ | refine blk_drew ?_ | refine blk_alloc ?_ _)); refine blk_far ?_ NB488_544.out _; (with_reducible repeat (first | refine blk_drewN ?_ _ | refine blk_drew ?_ | refine blk_alloc ?_ _)); refine blk_far ?_ NB488_544.out _; (with_reducible repeat (first | refine blk_drewN ?_ _ | refine blk_drew ?_ | refine blk_alloc ?_ _)); refine blk_far ?_ NB488_544.out _; (with_reducible repeat (first | refine blk_drewN ?_ _ | refine blk_drew ?_ | refine blk_alloc ?_ _)); exact BK488.out) hb); have n2_ := Aside0.mk (blk_below (g := gb513) (o := .cells #[.int .i64 t509, .int .i64 t510, .int .i64 t511, .int .i64 t512] 36 (0, 0)) (by (with_reducible repeat (first | refine blk_drewN ?_ _ | refine blk_drew ?_ | refine blk_alloc ?_ _)); refine blk_far ?_ NB513_544.out _; (with_reducible repeat (first | refine blk_drewN ?_ _ | refine blk_drew ?_ | refine blk_alloc ?_ _)); refine blk_far ?_ NB513_544.out _; (with_reducible repeat (first | refine blk_drewN ?_ _ | refine blk_drew ?_ | refine blk_alloc ?_ _)); refine blk_far ?_ NB513_544.out _; (with_reducible repeat (first | refine blk_drewN ?_ _ | refine blk_drew ?_ | refine blk_alloc ?_ _)); refine blk_far ?_ NB513_544.out _; (with_reducible repeat (first | refine blk_drewN ?_ _ | refine blk_drew ?_ | refine blk_alloc ?_ _)); exact BK513.out) hb); have n3_ := Aside0.mk (blk_below (g := gb524) (o := .cells #[.int .i64 t518, .int .i64 t519, .int .i64 t520, .int .i64 t521] 36 (0, 0)) (by (with_reducible repeat (first | refine blk_drewN ?_ _ | refine blk_drew ?_ | refine blk_alloc ?_ _)); refine blk_far ?_ NB524_544.out _; (with_reducible repeat (first | refine blk_drewN ?_ _ | refine blk_drew ?_ | refine blk_alloc ?_ _)); refine blk_far ?_ NB524_544.out _; (with_reducible repeat (first | refine blk_drewN ?_ _ | refine blk_drew ?_ | refine blk_alloc ?_ _)); refine blk_far ?_ NB524_544.out _; (with_reducible repeat (first | refine blk_drewN ?_ _ | refine blk_drew ?_ | refine blk_alloc ?_ _)); refine blk_far ?_ NB524_544.out _; (with_reducible repeat (first | refine blk_drewN ?_ _ | refine blk_drew ?_ | refine blk_alloc ?_ _)); exact BK524.out) hb); have n4_ := Aside0.mk (blk_below (g := gb525) (o := .cells #[.int .i64 t522, .int .i64 t523] 43 (0, 0)) (by (with_reducible repeat (first | refine blk_drewN ?_ _ | refine blk_drew ?_ | refine blk_alloc ?_ _)); refine blk_far ?_ NB525_544.out _; (with_reducible repeat (first | refine blk_drewN ?_ _ | refine blk_drew ?_ | refine blk_alloc ?_ _)); refine blk_far ?_ NB525_544.out _; (with_reducible repeat (first | refine blk_drewN ?_ _ | refine blk_drew ?_ | refine blk_alloc ?_ _)); refine blk_far ?_ NB525_544.out _; (with_reducible repeat (first | refine blk_drewN ?_ _ | refine blk_drew ?_ | refine blk_alloc ?_ _)); refine blk_far ?_ NB525_544.out _; (with_reducible repeat (first | refine blk_drewN ?_ _ | refine blk_drew ?_ | refine blk_alloc ?_ _)); exact BK525.out) hb); have n5_ := Aside0.mk (blk_below (g := gb538) (o := .cells #[.int .i64 t526, .int .i64 t527] 43 (0, 0)) (by (with_reducible repeat (first | refine blk_drewN ?_ _ | refine blk_drew ?_ | refine blk_alloc ?_ _)); refine blk_far ?_ NB538_544.out _; (with_reducible repeat (first | refine blk_drewN ?_ _ | refine blk_drew ?_ | refine blk_alloc ?_ _)); refine blk_far ?_ NB538_544.out _; (with_reducible repeat (first | refine blk_drewN ?_ _ | refine blk_drew ?_ | refine blk_alloc ?_ _)); refine blk_far ?_ NB538_544.out _; (with_reducible repeat (first | refine blk_drewN ?_ _ | refine blk_drew ?_ | refine blk_alloc ?_ _)); refine blk_far ?_ NB538_544.out _; (with_reducible repeat (first | refine blk_drewN ?_ _ | refine blk_drew ?_ | refine blk_alloc ?_ _)); exact BK538.out) hb); have n6_ := Aside0.mk (blk_below (g := gb544) (o := .cells #[.int .i64 t539, .int .i64 t540, .int .i64 t541, .int .i64 t542] 36 (0, 0)) (by (with_reducible repeat (first | refine blk_drewN ?_ _ | refine blk_drew ?_ | refine blk_alloc ?_ _)); refine blk_put (cs := #[.int .i64 t539, .int .i64 t540, .int .i64 t541, .int .i64 0]) ?_ 3 _ rfl; (with_reducible repeat (first | refine blk_drewN ?_ _ | refine blk_drew ?_ | refine blk_alloc ?_ _)); refine blk_put (cs := #[.int .i64 t539, .int .i64 t540, .int .i64 0, .int .i64 0]) ?_ 2 _ rfl; (with_reducible repeat (first | refine blk_drewN ?_ _ | refine blk_drew ?_ | refine blk_alloc ?_ _)); refine blk_put (cs := #[.int .i64 t539, .int .i64 0, .int .i64 0, .int .i64 0]) ?_ 1 _ rfl; (with_reducible repeat (first | refine blk_drewN ?_ _ | refine blk_drew ?_ | refine blk_alloc ?_ _)); refine blk_put (cs := #[.int .i64 0, .int .i64 0, .int .i64 0, .int .i64 0]) ?_ 0 _ rfl; (with_reducible repeat (first | refine blk_drewN ?_ _ | refine blk_drew ?_ | refine blk_alloc ?_ _)); exact BK544.out) hb); have n7_ := Aside0.mk (below_step (by repeat (first | (with_reducible first | exact HB.out | apply below_alloc | apply pw_below_drewN | apply below_drew1 | refine below_set ?_ GE482.out | refine below_set ?_ GE488.out | refine below_set ?_ GE513.out | refine below_set ?_ GE524.out | refine below_set ?_ GE525.out | refine below_set ?_ GE538.out | refine below_set ?_ GE544.out) | exact HB.out)) hb); clear BK482; clear BK488; clear BK513; clear BK524; clear BK525; clear BK538; clear BK544; clear HB; have BK482 := n0_; have BK488 := n1_; have BK513 := n2_; have BK524 := n3_; have BK525 := n4_; have BK538 := n5_; have BK544 := n6_; have HB := n7_; clear n0_ n1_ n2_ n3_ n4_ n5_ n6_ n7_; (try clear hb); (try clear hb2); (try clear hk); (try clear hi); have hcz170_0 : w169.cell? ⟨gb538, 0, none⟩ = some (.int .i64 t526) := (blk_cell BK538.out 0).trans rfl; have hcz170_1 : w169.cell? ⟨gb538, 1, none⟩ = some (.int .i64 t527) := (blk_cell BK538.out 1).trans rfl; have hfz170_0 := blk_frozen BK538.out 0; have hfz170_1 := blk_frozen BK538.out 1) | ((with_reducible refine gate_callee (f := 23) rfl ?_); refine goesL_ (some 238) rfl rfl Tryd.func23 (by kernel_rfl) rfl #[.agg #[.int .i64 t526, .int .i64 t527]] rfl (by (try simp only [List.map_toArray, List.map_cons, List.map_nil]); first | done | rfl | (simp only [List.length_drop, List.length_take]; rfl)) ?_; (with_reducible refine (impl_IsFraction.calls kj134 t526 t527 true _ A141.out).mono ?_); rintro e w171 ⟨rfl, hb⟩; refine ⟨_, rfl, ?_⟩; have n0_ := Aside0.mk (blk_below (g := gb482) (o := .cells #[.int .i64 t477, .int .i64 t478, .int .i64 t479, .int .i64 t480] 36 (0, 0)) (by (with_reducible repeat (first | refine blk_drewN ?_ _ | refine blk_drew ?_ | refine blk_alloc ?_ _)); exact BK482.out) hb); have n1_ := Aside0.mk (blk_below (g := gb488) (o := .cells #[.int .i64 t483, .int .i64 t484, .int .i64 t485, .int .i64 t486] 36 (0, 0)) (by (with_reducible repeat (first | refine blk_drewN ?_ _ | refine blk_drew ?_ | refine blk_alloc ?_ _)); exact BK488.out) hb); have n2_ := Aside0.mk (blk_below (g := gb513) (o := .cells #[.int .i64 t509, .int .i64 t510, .int .i64 t511, .int .i64 t512] 36 (0, 0)) (by (with_reducible repeat (first | refine blk_drewN ?_ _ | refine blk_drew ?_ | refine blk_alloc ?_ _)); exact BK513.out) hb); have n3_ := Aside0.mk (blk_below (g := gb524) (o := .cells #[.int .i64 t518, .int .i64 t519, .int .i64 t520, .int .i64 t521] 36 (0, 0)) (by (with_reducible repeat (first | refine blk_drewN ?_ _ | refine blk_drew ?_ | refine blk_alloc ?_ _)); exact BK524.out) hb); have n4_ := Aside0.mk (blk_below (g := gb525) (o := .cells #[.int .i64 t522, .int .i64 t523] 43 (0, 0)) (by (with_reducible repeat (first | refine blk_drewN ?_ _ | refine blk_drew ?_ | refine blk_alloc ?_ _)); exact BK525.out) hb); have n5_ := Aside0.mk (blk_below (g := gb538) (o := .cells #[.int .i64 t526, .int .i64 t527] 43 (0, 0)) (by (with_reducible repeat (first | refine blk_drewN ?_ _ | refine blk_drew ?_ | refine blk_alloc ?_ _)); exact BK538.out) hb); have n6_ := Aside0.mk (blk_below (g := gb544) (o := .cells #[.int .i64 t539, .int .i64 t540, .int .i64 t541, .int .i64 t542] 36 (0, 0)) (by (with_reducible repeat (first | refine blk_drewN ?_ _ | refine blk_drew ?_ | refine blk_alloc ?_ _)); exact BK544.out) hb); have n7_ := Aside0.mk (below_step (by repeat (first | (with_reducible first | exact HB.out | apply below_alloc | apply pw_below_drewN | apply below_drew1 | refine below_set ?_ GE482.out | refine below_set ?_ GE488.out | refine below_set ?_ GE513.out | refine below_set ?_ GE524.out | refine below_set ?_ GE525.out | refine below_set ?_ GE538.out | refine below_set ?_ GE544.out) | exact HB.out)) hb); clear BK482; clear BK488; clear BK513; clear BK524; clear BK525; clear BK538; clear BK544; clear HB; have BK482 := n0_; have BK488 := n1_; have BK513 := n2_; have BK524 := n3_; have BK525 := n4_; have BK538 := n5_; have BK544 := n6_; have HB := n7_; clear n0_ n1_ n2_ n3_ n4_ n5_ n6_ n7_; (try clear hb); (try clear hb2); (try clear hk); (try clear hi); have hnb172 := NB525_482.out; have hnc172 := NB482_525.out; have hnb173 := NB525_488.out; have hnc173 := NB488_525.out; have hnb174 := NB525_513.out; have hnc174 := NB513_525.out; have hcz175_0 : w171.cell? ⟨gb525, 0, none⟩ = some (.int .i64 t522) := (blk_cell BK525.out 0).trans rfl; have hcz175_1 : w171.cell? ⟨gb525, 1, none⟩ = some (.int .i64 t523) := (blk_cell BK525.out 1).trans rfl; have hfz175_0 := blk_frozen BK525.out 0; have hfz175_1 := blk_frozen BK525.out 1))
                                                  go_ret
                                                  exact ⟨by first | rfl | (simp [errW_none, errW_some] <;> rfl) | (simp [*, errW_none, errW_some] <;> rfl), by repeat (first | (with_reducible first | exact HB.out | apply below_alloc | apply pw_below_drewN | apply below_drew1 | refine below_set ?_ GE482.out | refine below_set ?_ GE488.out | refine below_set ?_ GE513.out | refine below_set ?_ GE524.out | refine below_set ?_ GE525.out | refine below_set ?_ GE538.out | refine below_set ?_ GE544.out) | exact HB.out)⟩
                                              · rw [if_neg c146] at H
                                                have c146b0 : (t546 == t523) = false := beq_eq_false_iff_ne.mpr c146
                                                have c146b1 : (t546 != t523) = true := bne_iff_ne.mpr c146
                                                obtain rfl := Option.some.inj H
                                                cases hrt
                                            · rw [if_neg c145] at H
                                              have c145b0 : (t545 == t522) = false := beq_eq_false_iff_ne.mpr c145
                                              have c145b1 : (t545 != t522) = true := bne_iff_ne.mpr c145
                                              obtain rfl := Option.some.inj H
                                              cases hrt
                                          · replace c144 := Bool.eq_false_iff.mpr c144
                                            subst c144
                                            rw [if_neg (show ¬ (false = true) by decide)] at H
                                            obtain rfl := Option.some.inj H
                                            cases hrt
                                        · replace c143 := Bool.eq_false_iff.mpr c143
                                          subst c143
                                          rw [if_neg (show ¬ (false = true) by decide)] at H
                                          obtain rfl := Option.some.inj H
                                          cases hrt
                                      · replace c142 := Bool.eq_false_iff.mpr c142
                                        subst c142
                                        rw [if_neg (show ¬ (false = true) by decide)] at H
                                        obtain rfl := Option.some.inj H
                                        cases hrt
                                    · replace c138 := Bool.eq_false_iff.mpr c138
                                      subst c138
                                      rw [if_neg (show ¬ (false = true) by decide)] at H
                                      as_aux_lemma =>
                                        obtain rfl := Option.some.inj H
                                        clear hrt
                                        go_wp2
                                        go_ret
                                        exact ⟨by first | rfl | (simp [errW_none, errW_some] <;> rfl) | (simp [*, errW_none, errW_some] <;> rfl), by repeat (first | (with_reducible first | exact HB.out | apply below_alloc | apply pw_below_drewN | apply below_drew1 | refine below_set ?_ GE482.out | refine below_set ?_ GE488.out | refine below_set ?_ GE513.out | refine below_set ?_ GE524.out | refine below_set ?_ GE525.out) | exact HB.out)⟩
                        · replace c130 := Bool.eq_false_iff.mpr c130
                          subst c130
                          rw [if_neg (show ¬ (false = true) by decide)] at H
                          as_aux_lemma =>
                            obtain rfl := Option.some.inj H
                            clear hrt
                            go_wp2
                            go_ret
                            exact ⟨by first | rfl | (simp [errW_none, errW_some] <;> rfl) | (simp [*, errW_none, errW_some] <;> rfl), by repeat (first | (with_reducible first | exact HB.out | apply below_alloc | apply pw_below_drewN | apply below_drew1 | refine below_set ?_ GE482.out | refine below_set ?_ GE488.out | refine below_set ?_ GE513.out | refine below_set ?_ GE524.out | refine below_set ?_ GE525.out) | exact HB.out)⟩

/-- THE ONE PURE STATEMENT of laws_FnWordsTold: yours. -/
def laws_FnWordsTold.Pure : Prop := ∀ (l0 : List Int) (l1 : List Int), l0.length ≤ maxLen → l0.length * 1 ≤ 140737488351232 → (∀ x ∈ l0, (Lit.int .u8 x).wf = true) → l1.length ≤ maxLen → l1.length * 1 ≤ 140737488351232 → (∀ x ∈ l1, (Lit.int .u8 x).wf = true) → ∃ k, laws_FnWordsTold.f k l0 l1 = some true
theorem laws_FnWordsTold.walk (P : laws_FnWordsTold.Pure) (a0 : Option Addr) (len0 cap0 : Nat) (z0 : List Int) (a1 : Option Addr) (len1 cap1 : Nat) (z1 : List Int) (w : World) (w0 : (a0 = none ∧ len0 = 0 ∧ cap0 = 0 ∧ z0 = []) ∨ ∃ x, a0 = some x ∧ len0 ≤ cap0 ∧ cap0 ≤ maxLen ∧ z0.length = cap0 ∧ (∀ i, i < z0.length → w.cell? (x.add i) = some (.int .u8 (z0.getD i 0))) ∧ ∀ n ∈ z0, (Lit.int .u8 n).wf = true) (y0 : len0 * 1 ≤ 140737488351232) (w1 : (a1 = none ∧ len1 = 0 ∧ cap1 = 0 ∧ z1 = []) ∨ ∃ x, a1 = some x ∧ len1 ≤ cap1 ∧ cap1 ≤ maxLen ∧ z1.length = cap1 ∧ (∀ i, i < z1.length → w.cell? (x.add i) = some (.int .u8 (z1.getD i 0))) ∧ ∀ n ∈ z1, (Lit.int .u8 n).wf = true) (y1 : len1 * 1 ≤ 140737488351232) :
    Calls Tryd.prog 4 #[.slice a0 len0 cap0, .slice a1 len1 cap1] w fun e w' => e = .returned (.bool true) ∧ Below w.heap.size w w' := by
  obtain ⟨l0, rfl, hr0, hm0, hw0, hc0⟩ := ReadsInt.ofRowC w0
  obtain ⟨l1, rfl, hr1, hm1, hw1, hc1⟩ := ReadsInt.ofRowC w1
  obtain ⟨k, h⟩ := P l0 l1 hm0 y0 hw0 hm1 y1 hw1
  refine (laws_FnWordsTold.calls k _ _ l0 _ _ l1 true w (Kd.C_of_reads (d := (0 : Int)) (h1 := fun _ => rfl) hr0) hc0 (Kd.C_of_reads (d := (0 : Int)) (h1 := fun _ => rfl) hr1) hc1 rfl h).mono ?_
  rintro e w' ⟨rfl, hd⟩
  exact ⟨rfl, hd⟩

end Go.Proofs.YtdclgghdilbheaaDoor.P

/- Total answers of functions with rounds: 'T g Q': with enough rounds g answers, and Q holds of the answer. -/
namespace Go.Proofs.YtdclgghdilbheaaDoor.P
open Go.RowKit Go.Proofs.YtdclgghdilbheaaDoorW.PrintWords Go.Proofs.YtdclgghdilbheaaDoorW.PrintLast Go.Proofs.YtdclgghdilbheaaDoorW.PrintMore
def T {α : Type} (g : Nat → Option α) (Q : α → Prop) : Prop := ∃ r, Ev g r ∧ Q r
namespace T
variable {α β : Type}
theorem ret {Q : α → Prop} {r : α} (h : Q r) : T (fun _ => some r) Q := ⟨r, Ev.now r, h⟩
theorem bind {P : β → Prop} {Q : α → Prop} {g : Nat → Option β} {f : Nat → β → Option α} (h : T g P) (k : ∀ b, P b → T (fun n => f n b) Q) : T (fun n => (g n).bind (f n)) Q := by
  obtain ⟨b, hb, hp⟩ := h
  obtain ⟨r, hr, hq⟩ := k b hp
  exact ⟨r, Ev.bind hb hr, hq⟩
theorem some_bind {Q : α → Prop} {b : β} {f : Nat → β → Option α} (k : T (fun n => f n b) Q) : T (fun n => (some b).bind (f n)) Q := k
theorem pos {c : Prop} [Decidable c] {Q : α → Prop} {g h : Nat → Option α} (hc : c) (k : T g Q) : T (fun n => if c then g n else h n) Q := by
  simpa only [if_pos hc] using k
theorem neg {c : Prop} [Decidable c] {Q : α → Prop} {g h : Nat → Option α} (hc : ¬ c) (k : T h Q) : T (fun n => if c then g n else h n) Q := by
  simpa only [if_neg hc] using k
theorem ite {c : Prop} [Decidable c] {Q : α → Prop} {g h : Nat → Option α} (k1 : c → T g Q) (k2 : ¬ c → T h Q) : T (fun n => if c then g n else h n) Q := by
  by_cases hc : c
  · exact pos hc (k1 hc)
  · exact neg hc (k2 hc)
theorem step {Q : α → Prop} {g f : Nat → Option α} (h : ∀ k, g (k + 1) = f k) (k : T f Q) : T g Q := by
  obtain ⟨r, hr, hq⟩ := k
  exact ⟨r, Ev.step h hr, hq⟩
theorem congr {Q : α → Prop} {g f : Nat → Option α} (h : ∀ k, g k = f k) (k : T f Q) : T g Q := by
  obtain ⟨r, hr, hq⟩ := k
  exact ⟨r, Ev.congr h hr, hq⟩
theorem mono {P Q : α → Prop} {g : Nat → Option α} (h : T g P) (k : ∀ r, P r → Q r) : T g Q := by
  obtain ⟨r, hr, hq⟩ := h
  exact ⟨r, hr, k r hq⟩
theorem of_eq {Q : α → Prop} {g : Option α} {r : α} (h : g = some r) (hq : Q r) : T (fun _ => g) Q := by subst h; exact ret hq
theorem rounds {g : Nat → Option Bool} (h : T g (· = true)) : ∃ k, g k = some true := by
  obtain ⟨r, hr, hq⟩ := h
  subst hq
  exact hr.rounds
end T
theorem wrap64_id {x : Int} (h1 : -9223372036854775808 ≤ x) (h2 : x ≤ 9223372036854775807) : wrap64 x = x := by unfold wrap64; omega
/-- The numbers of a list of bytes. -/
def Bytes (l : List Int) : Prop := ∀ x ∈ l, 0 ≤ x ∧ x ≤ 255
theorem bytes_of {l : List Int} (h : ∀ x ∈ l, (Lit.int .u8 x).wf = true) : Bytes l := by
  intro x hx
  have := h x hx
  simp [Lit.wf] at this
  exact this
theorem rd_mem {l : List Int} {i : Int} (h0 : 0 ≤ i) (h1 : i < l.length) : rd l i ∈ l := by
  unfold rd
  have : i.toNat < l.length := by omega
  simp [List.getD, List.getElem?_eq_getElem this]
end Go.Proofs.YtdclgghdilbheaaDoor.P

