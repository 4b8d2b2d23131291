/- Proof of FnWordsToldCardSaid, part 7 of 7: the texts Mx, Word, WordB, Frac, Cur, DrawMx, PureFnWordsTold, WSized, LawFnWordsTold, joined by a program of this session. -/
import Derived.Test.YtdclgghdilbheaaDoorBLawFnWordsTold5
import Derived.Test.YtdclgghdilbheaaDoorBLawFnWordsTold1
import Derived.Test.YtdclgghdilbheaaDoorBLawFnWordsTold2
import Derived.Test.YtdclgghdilbheaaDoorBLawFnWordsTold3
import Derived.Test.YtdclgghdilbheaaDoorBLawFnWordsTold4
import Derived.Test.YtdclgghdilbheaaDoorBLawFnWordsTold0
import Derived.SizedLaws
import Derived.ChangeSlices
import Derived.Test.YtdclgghdilbheaaDoorRows
import Derived.WalkKit
import Derived.ProofKit
import Derived.OpenShut
import Derived.ShutString
import Derived.ChangeOld
import Derived.SevenTiedAt
import Derived.Test.YtdclgghdilbheaaDoorCards
import Derived.Test.YtdclgghdilbheaaDoorTie
import Derived.LaidMore
import Derived.Lay
import Derived.Stop.Joined
import Derived.HandedShaped
import Derived.Below
/- Matrices: what the program's and the reference's tests and products come to. -/
namespace Go.Proofs.YtdclgghdilbheaaDoor.P
open Go.RowKit Go.Proofs.YtdclgghdilbheaaDoorW.PrintWords Go.Proofs.YtdclgghdilbheaaDoorW.PrintLast Go.Proofs.YtdclgghdilbheaaDoorW.PrintMore
theorem within_eq (x lo hi : Int) : impl_within.f x lo hi = some (decide (lo ≤ x ∧ x ≤ hi)) := by
  unfold impl_within.f
  by_cases h : x ≥ lo
  · rw [if_pos h]; congr 1; simp [h]
  · rw [if_neg h]; congr 1; simp [h]
theorem l1In_eq (x lo hi : Int) : spec_l1In.f x lo hi = some (decide (lo ≤ x ∧ x ≤ hi)) := by
  unfold spec_l1In.f
  by_cases h : x ≥ lo
  · rw [if_pos h]; congr 1; simp [h]
  · rw [if_neg h]; congr 1; simp [h]
theorem rd_drop {l : List Int} {i : Nat} (h : i < l.length) : l.drop i = rd l (i : Int) :: l.drop (i + 1) := by
  unfold rd
  rw [List.drop_eq_getElem_cons h]
  simp [List.getD, List.getElem?_eq_getElem h]
theorem l1All_l0 (lo hi : Int) (l : List Int) (hl : l.length ≤ 4611686018427387904) : ∀ (d i : Nat), l.length - i = d → i ≤ l.length → Ev (fun k => spec_l1All.l0 k lo hi l (l.length : Int) (i : Int)) ((l.drop i).all fun x => decide (lo ≤ x ∧ x ≤ hi)) := by
  intro d
  induction d with
  | zero =>
    intro i h1 h2
    refine Ev.step (fun k => rfl) ?_
    have : i = l.length := by omega
    subst this
    refine Ev.congr (f := fun _ => some true) (fun k => if_neg (by omega)) ?_
    simpa using Ev.now true
  | succ d ih =>
    intro i h1 h2
    have hil : i < l.length := by omega
    refine Ev.step (fun k => rfl) ?_
    refine Ev.congr (fun k => (if_pos (by omega)).trans ((if_pos (by omega)).trans (if_pos (by omega)))) ?_
    rw [l1In_eq]
    have hw : wrap64 ((i : Int) + 1) = ((i + 1 : Nat) : Int) := by rw [wrap64_id (by omega) (by omega)]; omega
    rw [hw, rd_drop hil, List.all_cons]
    by_cases c : lo ≤ rd l (i : Int) ∧ rd l (i : Int) ≤ hi
    · have := ih (i + 1) (by omega) (by omega)
      refine Ev.congr (f := fun k => spec_l1All.l0 k lo hi l (l.length : Int) ((i + 1 : Nat) : Int)) (fun k => ?_) (by simpa [c] using this)
      simp [c]
    · refine Ev.congr (f := fun _ => some false) (fun k => ?_) (by simpa [c] using Ev.now false)
      simp [c]
theorem l1All_Ev (lo hi : Int) (l : List Int) (hl : l.length ≤ 4611686018427387904) : Ev (fun k => spec_l1All.f k l lo hi) (l.all fun x => decide (lo ≤ x ∧ x ≤ hi)) := by
  have := l1All_l0 lo hi l hl l.length 0 (by omega) (by omega)
  exact this
abbrev M4 := Int × Int × Int × Int
/-- The number lies where a matrix has its numbers. -/
def ent (a : Int) : Prop := -1000000000 ≤ a ∧ a ≤ 1000000000
instance (a : Int) : Decidable (ent a) := by unfold ent; infer_instance
def IsM (a b c d : Int) : Prop := ent a ∧ ent b ∧ ent c ∧ ent d ∧ a * d - b * c = 1
instance (a b c d : Int) : Decidable (IsM a b c d) := by unfold IsM; infer_instance
theorem natAbs_ent {x : Int} (h : ent x) : x.natAbs ≤ 1000000000 := by unfold ent at h; omega
theorem mul_bd {x y : Int} (hx : ent x) (hy : ent y) : -1000000000000000000 ≤ x * y ∧ x * y ≤ 1000000000000000000 := by
  have h := Nat.mul_le_mul (natAbs_ent hx) (natAbs_ent hy)
  rw [← Int.natAbs_mul] at h
  omega
theorem isEntry_eq (a : Int) : impl_isEntry.f a = some (decide (ent a)) := by
  unfold impl_isEntry.f; rw [within_eq]; rfl
theorem det_wrap {a b c d : Int} (ha : ent a) (hb : ent b) (hc : ent c) (hd : ent d) : wrap64 (wrap64 (a * d) - wrap64 (b * c)) = a * d - b * c := by
  have h1 := mul_bd ha hd
  have h2 := mul_bd hb hc
  rw [wrap64_id (x := a * d) (by omega) (by omega), wrap64_id (x := b * c) (by omega) (by omega), wrap64_id (by omega) (by omega)]
theorem isMatrix_eq (a b c d : Int) : impl_IsMatrix.f a b c d = some (decide (IsM a b c d)) := by
  unfold impl_IsMatrix.f
  simp only [isEntry_eq, Option.bind_some, decide_eq_true_eq]
  by_cases ha : ent a
  · by_cases hb : ent b
    · by_cases hc : ent c
      · by_cases hd : ent d
        · rw [if_pos ha, if_pos hb, if_pos hc, if_pos hd, det_wrap ha hb hc hd]
          congr 1
          rw [Bool.eq_iff_iff]; simp [IsM, ha, hb, hc, hd]
        · rw [if_pos ha, if_pos hb, if_pos hc, if_neg hd]; simp [IsM, hd]
      · rw [if_pos ha, if_pos hb, if_neg hc]; simp [IsM, hc]
    · rw [if_pos ha, if_neg hb]; simp [IsM, hb]
  · rw [if_neg ha]; simp [IsM, ha]
theorem mxGood_Ev (a b c d : Int) : Ev (fun k => spec_mxGood.f k a b c d) (decide (IsM a b c d)) := by
  have h := l1All_Ev (-1000000000) 1000000000 [a, b, c, d] (by simp)
  have he : ([a, b, c, d].all fun x => decide (-1000000000 ≤ x ∧ x ≤ 1000000000)) = decide (ent a ∧ ent b ∧ ent c ∧ ent d) := by
    rw [Bool.eq_iff_iff, decide_eq_true_iff]; simp [ent]
  rw [he] at h
  refine Ev.bind (f := fun _ t => if t = true then some (wrap64 (wrap64 (a * d) - wrap64 (b * c)) == 1) else some false) h ?_
  by_cases hE : ent a ∧ ent b ∧ ent c ∧ ent d
  · obtain ⟨ha, hb, hc, hd⟩ := hE
    rw [det_wrap ha hb hc hd]
    have : (a * d - b * c == 1) = decide (IsM a b c d) := by rw [Bool.eq_iff_iff]; simp [IsM, ha, hb, hc, hd]
    simp only [ha, hb, hc, hd, and_self, decide_true, if_true, this]
    exact Ev.now _
  · have h1 : decide (ent a ∧ ent b ∧ ent c ∧ ent d) = false := decide_eq_false hE
    have h2 : decide (IsM a b c d) = false := decide_eq_false fun h => hE ⟨h.1, h.2.1, h.2.2.1, h.2.2.2.1⟩
    rw [h1, h2]
    exact Ev.now _
/-- A matrix, if it is one, and zeros otherwise. -/
def chk (m : M4) : Int × Int × Int × Int × Bool := if IsM m.1 m.2.1 m.2.2.1 m.2.2.2 then (m.1, m.2.1, m.2.2.1, m.2.2.2, true) else (0, 0, 0, 0, false)
theorem checked_eq (a b c d : Int) : impl_checked.f a b c d = some (chk (a, b, c, d)) := by
  unfold impl_checked.f chk
  rw [isMatrix_eq]
  by_cases h : IsM a b c d <;> simp [h]
theorem mxIf_Ev (a b c d : Int) : Ev (fun k => spec_mxIf.f k a b c d) (chk (a, b, c, d)) := by
  refine Ev.bind (f := fun _ t => if t = true then some (a, b, c, d, true) else some (0, 0, 0, 0, false)) (mxGood_Ev a b c d) ?_
  unfold chk
  by_cases h : IsM a b c d
  · simp only [h, decide_true, if_true]; exact Ev.now _
  · simp only [h, decide_false, if_false, Bool.false_eq_true]; exact Ev.now _
/-- A product as the program reckons it. -/
def tm (m n : M4) : M4 := (wrap64 ((wrap64 (m.1 * n.1)) + (wrap64 (m.2.1 * n.2.2.1))), wrap64 ((wrap64 (m.1 * n.2.1)) + (wrap64 (m.2.1 * n.2.2.2))), wrap64 ((wrap64 (m.2.2.1 * n.1)) + (wrap64 (m.2.2.2 * n.2.2.1))), wrap64 ((wrap64 (m.2.2.1 * n.2.1)) + (wrap64 (m.2.2.2 * n.2.2.2))))
theorem times_eq (a b c d e f g h : Int) : impl_times.f a b c d e f g h = some (tm (a, b, c, d) (e, f, g, h)) := rfl
/-- A product of whole numbers. -/
def mm (m n : M4) : M4 := (m.1 * n.1 + m.2.1 * n.2.2.1, m.1 * n.2.1 + m.2.1 * n.2.2.2, m.2.2.1 * n.1 + m.2.2.2 * n.2.2.1, m.2.2.1 * n.2.1 + m.2.2.2 * n.2.2.2)
def I4 : M4 := (1, 0, 0, 1)
theorem mm_assoc (a b c : M4) : mm (mm a b) c = mm a (mm b c) := by
  unfold mm
  simp only [Prod.mk.injEq]
  refine ⟨by grind, by grind, by grind, by grind⟩
theorem mm_one (a : M4) : mm a I4 = a := by simp [mm, I4]
theorem one_mm (a : M4) : mm I4 a = a := by simp [mm, I4]
/-- The numbers are at most N, without their signs. -/
def Bd (N : Nat) (m : M4) : Prop := m.1.natAbs ≤ N ∧ m.2.1.natAbs ≤ N ∧ m.2.2.1.natAbs ≤ N ∧ m.2.2.2.natAbs ≤ N
theorem prod_bd {x y : Int} {A B : Nat} (hx : x.natAbs ≤ A) (hy : y.natAbs ≤ B) : (x * y).natAbs ≤ A * B := by
  rw [Int.natAbs_mul]; exact Nat.mul_le_mul hx hy
theorem tm_mm {m n : M4} {A B : Nat} (h1 : Bd A m) (h2 : Bd B n) (hAB : A * B ≤ 4000000000000000000) : tm m n = mm m n ∧ Bd (A * B + A * B) (mm m n) := by
  obtain ⟨a1, a2, a3, a4⟩ := h1
  obtain ⟨b1, b2, b3, b4⟩ := h2
  have p1 := prod_bd a1 b1
  have p2 := prod_bd a2 b3
  have p3 := prod_bd a1 b2
  have p4 := prod_bd a2 b4
  have p5 := prod_bd a3 b1
  have p6 := prod_bd a4 b3
  have p7 := prod_bd a3 b2
  have p8 := prod_bd a4 b4
  generalize A * B = C at *
  have w : ∀ x y : Int, x.natAbs ≤ C → y.natAbs ≤ C → wrap64 (wrap64 x + wrap64 y) = x + y := fun x y hx hy => by
    rw [wrap64_id (x := x) (by omega) (by omega), wrap64_id (x := y) (by omega) (by omega), wrap64_id (by omega) (by omega)]
  refine ⟨?_, ?_, ?_, ?_, ?_⟩
  · unfold tm mm
    rw [w _ _ p1 p2, w _ _ p3 p4, w _ _ p5 p6, w _ _ p7 p8]
  all_goals (unfold mm; dsimp only; omega)
def det (m : M4) : Int := m.1 * m.2.2.2 - m.2.1 * m.2.2.1
theorem det_mm (a b : M4) : det (mm a b) = det a * det b := by unfold det mm; grind
end Go.Proofs.YtdclgghdilbheaaDoor.P

/- Words and their matrices: the program and the reference alike, words told again, halves multiplied. -/
namespace Go.Proofs.YtdclgghdilbheaaDoor.P
open Go.RowKit Go.Proofs.YtdclgghdilbheaaDoorW.PrintWords Go.Proofs.YtdclgghdilbheaaDoorW.PrintLast Go.Proofs.YtdclgghdilbheaaDoorW.PrintMore
def letter (c : Int) : M4 := if c = 108 then (1, 0, 1, 1) else (1, 1, 0, 1)
/-- The product of a word's letters behind m, as the program reckons it. -/
def wordM : List Int → M4 → M4
  | [], m => m
  | c :: r, m => wordM r (tm m (letter c))
/-- All letters are l or r. -/
def LR (l : List Int) : Prop := ∀ c ∈ l, c = 108 ∨ c = 114
instance (l : List Int) : Decidable (LR l) := by unfold LR; infer_instance
def zeros5 : Int × Int × Int × Int × Bool := (0, 0, 0, 0, false)
theorem impl_word_l0 (l : List Int) (hl : l.length ≤ 1000000) : ∀ (d i : Nat) (a b c e : Int), l.length - i = d → i ≤ l.length →
    Ev (fun k => impl_MatrixOfWord.l0 k l (l.length : Int) (i : Int) a b c e) (chk (wordM (l.drop i) (a, b, c, e))) := by
  intro d
  induction d with
  | zero =>
    intro i a b c e h1 h2
    refine Ev.step (fun k => rfl) ?_
    have : i = l.length := by omega
    subst this
    refine Ev.congr (f := fun _ => some (chk (a, b, c, e))) (fun k => (if_neg (by omega)).trans (by rw [checked_eq]; rfl)) ?_
    rw [List.drop_length]
    exact Ev.now _
  | succ d ih =>
    intro i a b c e h1 h2
    have hil : i < l.length := by omega
    refine Ev.step (fun k => rfl) ?_
    refine Ev.congr (fun k => (if_pos (by omega)).trans ((if_pos (by omega)).trans (if_pos (by omega)))) ?_
    have hw : wrap64 ((i : Int) + 1) = ((i + 1 : Nat) : Int) := by rw [wrap64_id (by omega) (by omega)]; omega
    rw [hw, rd_drop hil]
    unfold wordM letter
    by_cases hc : rd l (i : Int) = 108
    · rw [if_pos hc]
      refine Ev.congr (fun k => if_pos hc) ?_
      exact ih (i + 1) _ _ _ _ (by omega) (by omega)
    · rw [if_neg hc]
      refine Ev.congr (fun k => if_neg hc) ?_
      exact ih (i + 1) _ _ _ _ (by omega) (by omega)
theorem bytesOf_lr (s : ByteArray) : lr s.data.toList = true ↔ LR (bytesOf s) := by
  unfold lr LR bytesOf
  rw [List.all_eq_true]
  constructor
  · intro h c hc
    obtain ⟨b, hb, rfl⟩ := List.mem_map.1 hc
    have := h b hb
    simp at this
    rcases this with rfl | rfl <;> simp
  · intro h b hb
    have := h _ (List.mem_map.2 ⟨b, hb, rfl⟩)
    have e : ∀ n : Nat, n < 256 → (b.toNat : Int) = n → b = UInt8.ofNat n := fun n hn hq => by
      apply UInt8.toNat_inj.1; rw [UInt8.toNat_ofNat']; omega
    rcases this with h1 | h1
    · have := e 108 (by omega) h1; subst this; rfl
    · have := e 114 (by omega) h1; subst this; rfl
/-- What MatrixOfWord returns. -/
def mow (s : ByteArray) : Int × Int × Int × Int × Bool := if s.size ≤ 40 then (if lr s.data.toList = true then chk (wordM (bytesOf s) I4) else zeros5) else zeros5
theorem impl_mow (s : ByteArray) : Ev (fun k => impl_MatrixOfWord.f k s) (mow s) := by
  unfold mow
  have hf : ∀ k, impl_MatrixOfWord.f k s = (impl_isWord.f s 40).bind fun t => if t = true then (impl_one.f.bind fun bt => if (s.size : Int) ≤ 140737488351232 then ((some (bytesOf s)).bind fun y => impl_MatrixOfWord.l0 k y (y.length : Int) 0 bt.1 bt.2.1 bt.2.2.1 bt.2.2.2) else none) else some (0, 0, 0, 0, false) := fun k => rfl
  refine Ev.congr hf ?_
  unfold impl_isWord.f
  by_cases h1 : s.size ≤ 40
  · rw [if_pos (show (s.size : Int) ≤ 40 by omega), if_pos (show (40 : Int) ≤ 1000 by decide), if_pos h1]
    by_cases h2 : lr s.data.toList = true
    · rw [h2, if_pos rfl]
      refine Ev.congr (fun k => if_pos (show (s.size : Int) ≤ 140737488351232 by omega)) ?_
      have := impl_word_l0 (bytesOf s) (by rw [bytesOf_length]; omega) (bytesOf s).length 0 1 0 0 1 (by omega) (by omega)
      exact this
    · rw [if_neg h2]
      have h3 : lr s.data.toList = false := by cases h : lr s.data.toList <;> simp_all
      rw [h3]
      exact Ev.now _
  · rw [if_neg (show ¬ (s.size : Int) ≤ 40 by omega), if_neg h1]
    exact Ev.now _
theorem mxLetter_lr {c : Int} (h : c = 108 ∨ c = 114) : spec_mxLetter.f c = some ((letter c).1, (letter c).2.1, (letter c).2.2.1, (letter c).2.2.2, true) := by
  rcases h with rfl | rfl <;> rfl
theorem mxLetter_no {c : Int} (h : ¬ (c = 108 ∨ c = 114)) : spec_mxLetter.f c = some (0, 0, 0, 0, false) := by
  unfold spec_mxLetter.f
  rw [if_neg (fun e => h (.inl e)), if_neg (fun e => h (.inr e))]
theorem spec_word_l0 (s : ByteArray) (hs : s.size ≤ 1000000) : ∀ (d i : Nat) (a b c e : Int), s.size - i = d → i ≤ s.size →
    Ev (fun k => spec_MatrixOfWord.l0 k s (i : Int) a b c e) (if LR ((bytesOf s).drop i) then chk (wordM ((bytesOf s).drop i) (a, b, c, e)) else zeros5) := by
  have hlen := bytesOf_length s
  intro d
  induction d with
  | zero =>
    intro i a b c e h1 h2
    have : i = s.size := by omega
    subst this
    have hd : (bytesOf s).drop s.size = [] := by rw [← hlen]; exact List.drop_length
    rw [hd, if_pos (by intro c hc; cases hc)]
    refine Ev.step (fun k => rfl) ?_
    refine Ev.congr (fun k => if_neg (by omega)) ?_
    exact Ev.bind (f := fun _ bt => some (bt.1, bt.2.1, bt.2.2.1, bt.2.2.2.1, bt.2.2.2.2)) (mxIf_Ev a b c e) (Ev.now _)
  | succ d ih =>
    intro i a b c e h1 h2
    have hil : i < (bytesOf s).length := by omega
    refine Ev.step (fun k => rfl) ?_
    refine Ev.congr (fun k => (if_pos (by omega)).trans (if_pos (by omega))) ?_
    have hw : wrap64 ((i : Int) + 1) = ((i + 1 : Nat) : Int) := by rw [wrap64_id (by omega) (by omega)]; omega
    rw [hw, rd_drop hil, rd_bytesOf]
    by_cases hc : bt s (i : Int) = 108 ∨ bt s (i : Int) = 114
    · rw [mxLetter_lr hc]
      have := ih (i + 1) (tm (a, b, c, e) (letter (bt s (i : Int)))).1 (tm (a, b, c, e) (letter (bt s (i : Int)))).2.1 (tm (a, b, c, e) (letter (bt s (i : Int)))).2.2.1 (tm (a, b, c, e) (letter (bt s (i : Int)))).2.2.2 (by omega) (by omega)
      have e1 : LR (bt s (i : Int) :: (bytesOf s).drop (i + 1)) ↔ LR ((bytesOf s).drop (i + 1)) := by
        unfold LR; simp [hc]
      simp only [e1]
      exact this
    · rw [mxLetter_no hc]
      have e1 : ¬ LR (bt s (i : Int) :: (bytesOf s).drop (i + 1)) := fun h => hc (h _ (List.mem_cons_self ..))
      rw [if_neg e1]
      exact Ev.now _
theorem spec_mow (s : ByteArray) : Ev (fun k => spec_MatrixOfWord.f k s) (mow s) := by
  unfold mow
  have hf : ∀ k, spec_MatrixOfWord.f k s = if (s.size : Int) > 40 then some (0, 0, 0, 0, false) else spec_MatrixOfWord.l0 k s 0 1 0 0 1 := fun k => rfl
  refine Ev.congr hf ?_
  by_cases h1 : s.size ≤ 40
  · rw [if_pos h1]
    refine Ev.congr (fun k => if_neg (by omega)) ?_
    have := spec_word_l0 s (by omega) s.size 0 1 0 0 1 (by omega) (by omega)
    rw [List.drop_zero] at this
    by_cases h2 : LR (bytesOf s)
    · rw [if_pos ((bytesOf_lr s).2 h2)]; rw [if_pos h2] at this; exact this
    · rw [if_neg (fun h => h2 ((bytesOf_lr s).1 h))]; rw [if_neg h2] at this; exact this
  · rw [if_neg h1]
    refine Ev.congr (fun k => if_pos (by omega)) ?_
    exact Ev.now _
/-- The product of a word's letters. -/
def wz : List Int → M4
  | [] => I4
  | c :: r => mm (letter c) (wz r)
theorem letter_bd (c : Int) : Bd 1 (letter c) := by
  unfold letter Bd; split <;> decide
/-- Not less than 0. -/
def NN (m : M4) : Prop := 0 ≤ m.1 ∧ 0 ≤ m.2.1 ∧ 0 ≤ m.2.2.1 ∧ 0 ≤ m.2.2.2
theorem letter_mm (c : Int) (m : M4) : mm (letter c) m = if c = 108 then (m.1, m.2.1, m.1 + m.2.2.1, m.2.1 + m.2.2.2) else (m.1 + m.2.2.1, m.2.1 + m.2.2.2, m.2.2.1, m.2.2.2) := by
  unfold letter mm
  split <;> simp
theorem wz_bd : ∀ (l : List Int), NN (wz l) ∧ Bd (2 ^ l.length) (wz l) ∧ det (wz l) = 1
  | [] => ⟨by unfold NN wz I4; decide, by unfold Bd wz I4; decide, rfl⟩
  | c :: r => by
    obtain ⟨h1, h2, h3⟩ := wz_bd r
    have hd : det (wz (c :: r)) = 1 := by
      rw [wz, det_mm, h3]; unfold letter; split <;> rfl
    refine ⟨?_, ?_, hd⟩
    · rw [wz, letter_mm]; unfold NN at *; split <;> (dsimp only; omega)
    · rw [wz, letter_mm, List.length_cons, Nat.pow_succ]
      unfold Bd at *
      generalize 2 ^ r.length = C at *
      split <;> (dsimp only; omega)
theorem wordM_eq : ∀ (l : List Int) (m : M4) (j : Nat), Bd (2 ^ j) m → j + l.length ≤ 60 → wordM l m = mm m (wz l)
  | [], m, j, _, _ => (mm_one m).symm
  | c :: r, m, j, hb, hj => by
    rw [List.length_cons] at hj
    have hp : 2 ^ j ≤ 2 ^ 60 := Nat.pow_le_pow_right (by decide) (by omega)
    have := tm_mm hb (letter_bd c) (by omega)
    rw [wordM, this.1]
    have hb2 : Bd (2 ^ (j + 1)) (mm m (letter c)) := by
      have e : 2 ^ (j + 1) = 2 ^ j * 1 + 2 ^ j * 1 := by rw [Nat.pow_succ]; omega
      rw [e]; exact this.2
    rw [wordM_eq r _ (j + 1) hb2 (by omega), wz, mm_assoc]
theorem wordM_I (l : List Int) (h : l.length ≤ 60) : wordM l I4 = wz l := by
  rw [wordM_eq l I4 0 (by unfold Bd I4; decide) (by omega), one_mm]
theorem wz_append : ∀ (l r : List Int), wz (l ++ r) = mm (wz l) (wz r)
  | [], r => (one_mm _).symm
  | c :: l, r => by rw [List.cons_append, wz, wz, wz_append l r, mm_assoc]
theorem isM_wz (l : List Int) (h : l.length ≤ 29) : IsM (wz l).1 (wz l).2.1 (wz l).2.2.1 (wz l).2.2.2 := by
  obtain ⟨h1, h2, h3⟩ := wz_bd l
  have hp : 2 ^ l.length ≤ 2 ^ 29 := Nat.pow_le_pow_right (by decide) h
  have hq : 2 ^ 29 ≤ 1000000000 := by decide
  obtain ⟨b1, b2, b3, b4⟩ := h2
  unfold IsM ent
  unfold det at h3
  exact ⟨by omega, by omega, by omega, by omega, h3⟩
end Go.Proofs.YtdclgghdilbheaaDoor.P

/- The word with a matrix: the program and the reference alike; words come back. -/
namespace Go.Proofs.YtdclgghdilbheaaDoor.P
set_option linter.unusedVariables false
set_option linter.unusedSimpArgs false
open Go.RowKit Go.Proofs.YtdclgghdilbheaaDoorW.PrintWords Go.Proofs.YtdclgghdilbheaaDoorW.PrintLast Go.Proofs.YtdclgghdilbheaaDoorW.PrintMore
def wo : Nat → M4 → Option (List Int)
  | 0, m => if m = I4 then some [] else none
  | n + 1, m => if m = I4 then some [] else if m.2.2.1 ≤ m.1 ∧ m.2.2.2 ≤ m.2.1 then (wo n (m.1 - m.2.2.1, m.2.1 - m.2.2.2, m.2.2.1, m.2.2.2)).map (114 :: ·) else (wo n (m.1, m.2.1, m.2.2.1 - m.1, m.2.2.2 - m.2.1)).map (108 :: ·)
/-- A good matrix: its numbers not less than 0, not too great, of determinant one. -/
def G (m : M4) : Prop := NN m ∧ Bd 1000000000 m ∧ det m = 1
theorem dom {m : M4} (h : G m) (hI : m ≠ I4) (hn : ¬ (m.2.2.1 ≤ m.1 ∧ m.2.2.2 ≤ m.2.1)) : m.1 ≤ m.2.2.1 ∧ m.2.1 ≤ m.2.2.2 := by
  obtain ⟨a, b, c, d⟩ := m
  obtain ⟨⟨h1, h2, h3, h4⟩, _, hd⟩ := h
  dsimp only [det] at *
  have key1 : a ≤ c → d ≤ b → False := fun p q => by
    have := Int.mul_le_mul p q h4 h3
    have e : b * c = c * b := Int.mul_comm _ _
    omega
  have key2 : c + 1 ≤ a → b + 1 ≤ d → False := fun p q => by
    have h5 := Int.mul_le_mul p q (by omega) h1
    have e : (c + 1) * (b + 1) = b * c + c + b + 1 := by grind
    have hb : b = 0 := by omega
    have hc : c = 0 := by omega
    subst hb; subst hc
    have e2 : a * d = 1 := by omega
    have ha : a = 1 := by
      have := Int.mul_le_mul (Int.le_refl a) (show (1 : Int) ≤ d by omega) (by decide) h1
      omega
    subst ha
    have hd1 : d = 1 := by omega
    subst hd1
    exact hI rfl
  refine ⟨?_, ?_⟩
  · by_cases hx : a ≤ c
    · exact hx
    · exfalso; exact key2 (by omega) (by omega)
  · by_cases hy : b ≤ d
    · exact hy
    · exfalso; exact key1 (by omega) (by omega)
theorem not_both {m : M4} (h : G m) (h1 : m.2.2.1 ≤ m.1 ∧ m.2.2.2 ≤ m.2.1) : ¬ (m.1 ≤ m.2.2.1 ∧ m.2.1 ≤ m.2.2.2) := by
  obtain ⟨a, b, c, d⟩ := m
  obtain ⟨_, _, hd⟩ := h
  dsimp only [det] at *
  intro h2
  have e1 : a = c := by omega
  have e2 : b = d := by omega
  subst e1; subst e2
  have : a * b = b * a := Int.mul_comm _ _
  omega
theorem G_up {m : M4} (h : G m) (h1 : m.2.2.1 ≤ m.1 ∧ m.2.2.2 ≤ m.2.1) : G (m.1 - m.2.2.1, m.2.1 - m.2.2.2, m.2.2.1, m.2.2.2) := by
  obtain ⟨a, b, c, d⟩ := m
  obtain ⟨⟨p1, p2, p3, p4⟩, ⟨q1, q2, q3, q4⟩, hd⟩ := h
  dsimp only [det] at *
  refine ⟨⟨by dsimp only; omega, by dsimp only; omega, p3, p4⟩, ⟨by dsimp only; omega, by dsimp only; omega, q3, q4⟩, ?_⟩
  unfold det; dsimp only
  have : (a - c) * d - (b - d) * c = a * d - b * c := by grind
  omega
theorem G_down {m : M4} (h : G m) (h1 : m.1 ≤ m.2.2.1 ∧ m.2.1 ≤ m.2.2.2) : G (m.1, m.2.1, m.2.2.1 - m.1, m.2.2.2 - m.2.1) := by
  obtain ⟨a, b, c, d⟩ := m
  obtain ⟨⟨p1, p2, p3, p4⟩, ⟨q1, q2, q3, q4⟩, hd⟩ := h
  dsimp only [det] at *
  refine ⟨⟨p1, p2, by dsimp only; omega, by dsimp only; omega⟩, ⟨q1, q2, by dsimp only; omega, by dsimp only; omega⟩, ?_⟩
  unfold det; dsimp only
  have : a * (d - b) - b * (c - a) = a * d - b * c := by grind
  omega
def wres (acc : List Int) : Option (List Int) → ByteArray × Bool
  | some w => (strOfNums (acc ++ w), true)
  | none => ((⟨#[]⟩ : ByteArray), false)
theorem wres_cons (acc : List Int) (c : Int) (o : Option (List Int)) : wres acc (o.map (c :: ·)) = wres (acc ++ [c]) o := by
  cases o <;> simp [wres]
theorem one_test (a b c d : Int) : ((!(a == 1) || (!(b == 0) || (!(c == 0) || (!(d == 1))))) = true) ↔ (a, b, c, d) ≠ I4 := by
  simp [I4]; grind
theorem impl_wo (n : Nat) : ∀ (acc : List Int) (a b c d : Int), acc.length + n = 40 → G (a, b, c, d) → Ev (fun k => impl_WordOfMatrix.l0 k acc a b c d) (wres acc (wo n (a, b, c, d))) := by
  induction n with
  | zero =>
    intro acc a b c d hn hG
    refine Ev.step (fun k => rfl) ?_
    unfold wo
    by_cases h : (a, b, c, d) = I4
    · rw [if_pos h]
      refine Ev.congr (fun k => if_neg (fun e => (one_test a b c d).1 e h)) ?_
      rw [wres, List.append_nil]; exact Ev.now _
    · rw [if_neg h]
      refine Ev.congr (fun k => (if_pos ((one_test a b c d).2 h)).trans (if_pos (by omega))) ?_
      exact Ev.now _
  | succ n ih =>
    intro acc a b c d hn hG
    refine Ev.step (fun k => rfl) ?_
    unfold wo
    by_cases h : (a, b, c, d) = I4
    · rw [if_pos h]
      refine Ev.congr (fun k => if_neg (fun e => (one_test a b c d).1 e h)) ?_
      rw [wres, List.append_nil]; exact Ev.now _
    · rw [if_neg h]
      refine Ev.congr (fun k => (if_pos ((one_test a b c d).2 h)).trans (if_neg (by omega))) ?_
      have hB := hG.2.1
      have hN := hG.1
      unfold Bd at hB
      unfold NN at hN
      dsimp only at hB hN
      by_cases h1 : c ≤ a ∧ d ≤ b
      · rw [if_pos h1, wres_cons]
        refine Ev.congr (fun k => (if_pos h1.1).trans ((if_pos h1.2).trans (if_pos (by omega)))) ?_
        rw [wrap64_id (x := a - c) (by omega) (by omega), wrap64_id (x := b - d) (by omega) (by omega)]
        exact ih (acc ++ [114]) (a - c) (b - d) c d (by rw [List.length_append]; simp; omega) (G_up hG h1)
      · rw [if_neg h1, wres_cons]
        have h2 := dom hG h h1
        dsimp only at h2
        have hf := ih (acc ++ [108]) a b (c - a) (d - b) (by rw [List.length_append]; simp; omega) (G_down hG h2)
        by_cases h3 : c ≤ a
        · refine Ev.congr (fun k => (if_pos h3).trans ((if_neg (fun e => h1 ⟨h3, e⟩)).trans (if_pos (by omega)))) ?_
          rw [wrap64_id (x := c - a) (by omega) (by omega), wrap64_id (x := d - b) (by omega) (by omega)]
          exact hf
        · refine Ev.congr (fun k => (if_neg h3).trans (if_pos (by omega))) ?_
          rw [wrap64_id (x := c - a) (by omega) (by omega), wrap64_id (x := d - b) (by omega) (by omega)]
          exact hf
theorem strOf_snoc (acc : List Int) (c : Int) (b : UInt8) (hb : UInt8.ofNat c.toNat = b) : strOfNums acc ++ (⟨#[b]⟩ : ByteArray) = strOfNums (acc ++ [c]) := by
  subst hb
  apply ByteArray.ext
  simp [strOfNums]
theorem spec_wo (n : Nat) : ∀ (acc : List Int) (a b c d : Int), acc.length + n = 40 → G (a, b, c, d) → Ev (fun k => spec_WordOfMatrix.l0 k (strOfNums acc) a b c d) (wres acc (wo n (a, b, c, d))) := by
  induction n with
  | zero =>
    intro acc a b c d hn hG
    refine Ev.step (fun k => rfl) ?_
    unfold wo
    by_cases h : (a, b, c, d) = I4
    · rw [if_pos h]
      refine Ev.congr (fun k => if_neg (fun e => (one_test a b c d).1 e h)) ?_
      rw [wres, List.append_nil]; exact Ev.now _
    · rw [if_neg h]
      refine Ev.congr (fun k => (if_pos ((one_test a b c d).2 h)).trans (if_pos (by rw [strOfNums_size]; omega))) ?_
      exact Ev.now _
  | succ n ih =>
    intro acc a b c d hn hG
    refine Ev.step (fun k => rfl) ?_
    unfold wo
    by_cases h : (a, b, c, d) = I4
    · rw [if_pos h]
      refine Ev.congr (fun k => if_neg (fun e => (one_test a b c d).1 e h)) ?_
      rw [wres, List.append_nil]; exact Ev.now _
    · rw [if_neg h]
      refine Ev.congr (fun k => (if_pos ((one_test a b c d).2 h)).trans (if_neg (by rw [strOfNums_size]; omega))) ?_
      have hB := hG.2.1
      have hN := hG.1
      unfold Bd at hB
      unfold NN at hN
      dsimp only at hB hN
      have hsz : (strOfNums acc).size + 1 ≤ 9223372036854775807 := by rw [strOfNums_size]; omega
      rw [strOf_snoc acc 108 108 rfl, strOf_snoc acc 114 114 rfl]
      by_cases h1 : c ≤ a ∧ d ≤ b
      · rw [if_pos h1, wres_cons]
        have h2 := not_both hG h1
        dsimp only at h2
        have hf := ih (acc ++ [114]) (a - c) (b - d) c d (by rw [List.length_append]; simp; omega) (G_up hG h1)
        by_cases h3 : a ≤ c
        · refine Ev.congr (fun k => (if_pos h3).trans ((if_neg (fun e => h2 ⟨h3, e⟩)).trans (if_pos hsz))) ?_
          rw [wrap64_id (x := a - c) (by omega) (by omega), wrap64_id (x := b - d) (by omega) (by omega)]
          exact hf
        · refine Ev.congr (fun k => (if_neg h3).trans (if_pos hsz)) ?_
          rw [wrap64_id (x := a - c) (by omega) (by omega), wrap64_id (x := b - d) (by omega) (by omega)]
          exact hf
      · rw [if_neg h1, wres_cons]
        have h2 := dom hG h h1
        dsimp only at h2
        refine Ev.congr (fun k => (if_pos h2.1).trans ((if_pos h2.2).trans (if_pos hsz))) ?_
        rw [wrap64_id (x := c - a) (by omega) (by omega), wrap64_id (x := d - b) (by omega) (by omega)]
        exact ih (acc ++ [108]) a b (c - a) (d - b) (by rw [List.length_append]; simp; omega) (G_down hG h2)
/-- What WordOfMatrix returns. -/
def wom (a b c d : Int) : ByteArray × Bool := if IsM a b c d ∧ 0 ≤ a ∧ 0 ≤ b ∧ 0 ≤ c ∧ 0 ≤ d then wres [] (wo 40 (a, b, c, d)) else ((⟨#[]⟩ : ByteArray), false)
theorem G_of {a b c d : Int} (h : IsM a b c d) (h1 : 0 ≤ a ∧ 0 ≤ b ∧ 0 ≤ c ∧ 0 ≤ d) : G (a, b, c, d) := by
  obtain ⟨p1, p2, p3, p4, p5⟩ := h
  unfold ent at p1 p2 p3 p4
  exact ⟨h1, ⟨by dsimp only; omega, by dsimp only; omega, by dsimp only; omega, by dsimp only; omega⟩, p5⟩
theorem mn4 (a b c d : Int) : (mn (mn (mn a b) c) d < 0) ↔ ¬ (0 ≤ a ∧ 0 ≤ b ∧ 0 ≤ c ∧ 0 ≤ d) := by
  unfold mn; split <;> (try split) <;> (try split) <;> omega
theorem impl_wom (a b c d : Int) : Ev (fun k => impl_WordOfMatrix.f k a b c d) (wom a b c d) := by
  have hf : ∀ k, impl_WordOfMatrix.f k a b c d = if decide (IsM a b c d) = true then impl_WordOfMatrix.j0 k (decide ((mn (mn (mn a b) c) d) < 0)) a b c d else impl_WordOfMatrix.j0 k true a b c d := fun k => by
    unfold impl_WordOfMatrix.f; rw [isMatrix_eq]; rfl
  refine Ev.congr hf ?_
  unfold wom
  by_cases h : IsM a b c d
  · refine Ev.congr (fun k => if_pos (decide_eq_true h)) ?_
    refine Ev.step (fun k => rfl) ?_
    by_cases h1 : 0 ≤ a ∧ 0 ≤ b ∧ 0 ≤ c ∧ 0 ≤ d
    · rw [if_pos ⟨h, h1⟩]
      refine Ev.congr (fun k => if_neg (by rw [decide_eq_true_iff, mn4]; exact fun e => e h1)) ?_
      exact impl_wo 40 [] a b c d rfl (G_of h h1)
    · rw [if_neg (fun e => h1 e.2)]
      refine Ev.congr (fun k => if_pos (by rw [decide_eq_true_iff, mn4]; exact h1)) ?_
      exact Ev.now _
  · rw [if_neg (fun e => h e.1)]
    refine Ev.congr (fun k => if_neg (by rw [decide_eq_true_iff]; exact h)) ?_
    refine Ev.step (fun k => rfl) ?_
    exact Ev.now _
theorem spec_wom (a b c d : Int) : Ev (fun k => spec_WordOfMatrix.f k a b c d) (wom a b c d) := by
  refine Ev.bind (f := fun k t => if t = true then (if a < 0 then spec_WordOfMatrix.j0 k true a b c d else (if b < 0 then spec_WordOfMatrix.j0 k true a b c d else (if c < 0 then spec_WordOfMatrix.j0 k true a b c d else spec_WordOfMatrix.j0 k (decide (d < 0)) a b c d))) else spec_WordOfMatrix.j0 k true a b c d) (mxGood_Ev a b c d) ?_
  unfold wom
  have no : Ev (fun k => spec_WordOfMatrix.j0 k true a b c d) ((⟨#[]⟩ : ByteArray), false) := Ev.step (fun k => rfl) (Ev.now _)
  by_cases h : IsM a b c d
  · refine Ev.congr (fun k => if_pos (decide_eq_true h)) ?_
    by_cases ha : a < 0
    · rw [if_neg (by omega)]; exact Ev.congr (fun k => if_pos ha) no
    · refine Ev.congr (fun k => if_neg ha) ?_
      by_cases hb : b < 0
      · rw [if_neg (by omega)]; exact Ev.congr (fun k => if_pos hb) no
      · refine Ev.congr (fun k => if_neg hb) ?_
        by_cases hc : c < 0
        · rw [if_neg (by omega)]; exact Ev.congr (fun k => if_pos hc) no
        · refine Ev.congr (fun k => if_neg hc) ?_
          by_cases hd : d < 0
          · rw [if_neg (by omega), decide_eq_true hd]; exact no
          · rw [if_pos ⟨h, by omega⟩, decide_eq_false hd]
            refine Ev.step (fun k => rfl) ?_
            exact spec_wo 40 [] a b c d rfl (G_of h (by omega))
  · rw [if_neg (fun e => h e.1)]
    exact Ev.congr (fun k => if_neg (by rw [decide_eq_true_iff]; exact h)) no
theorem wo_wz : ∀ (w : List Int) (n : Nat), LR w → w.length ≤ n → wo n (wz w) = some w
  | [], n, _, _ => by cases n <;> simp [wo, wz]
  | c :: r, 0, _, h => by simp at h
  | c :: r, n + 1, hl, h => by
    have hr : LR r := fun x hx => hl x (List.mem_cons_of_mem _ hx)
    have ih := wo_wz r n hr (by simpa using h)
    obtain ⟨⟨n1, n2, n3, n4⟩, _, hd⟩ := wz_bd r
    rw [wz, letter_mm]
    generalize wz r = m at *
    obtain ⟨a, b, c', d⟩ := m
    dsimp only [det] at *
    unfold wo
    rcases hl c (List.mem_cons_self ..) with rfl | rfl
    · rw [if_pos rfl, if_neg (by simp [I4]; omega), if_neg]
      · dsimp only
        rw [show a + c' - a = c' by omega, show b + d - b = d by omega, ih]; rfl
      · dsimp only
        intro h
        have e1 : c' = 0 := by omega
        have e2 : d = 0 := by omega
        subst e1; subst e2
        simp at hd
    · rw [if_neg (show ¬ ((114 : Int) = 108) by decide), if_neg (by simp [I4]; intro _ _ e1 e2; subst e1; omega), if_pos (by dsimp only; omega)]
      dsimp only
      rw [show a + c' - c' = a by omega, show b + d - d = b by omega, ih]; rfl
theorem wz_wo : ∀ (n : Nat) (m : M4) (w : List Int), wo n m = some w → wz w = m ∧ LR w ∧ w.length ≤ n
  | 0, m, w, h => by
    unfold wo at h
    by_cases e : m = I4
    · rw [if_pos e] at h; cases h; exact ⟨e.symm, fun x hx => (by cases hx), Nat.le_refl _⟩
    · rw [if_neg e] at h; cases h
  | n + 1, m, w, h => by
    unfold wo at h
    by_cases e : m = I4
    · rw [if_pos e] at h; cases h; exact ⟨e.symm, fun x hx => (by cases hx), Nat.zero_le _⟩
    · rw [if_neg e] at h
      by_cases e1 : m.2.2.1 ≤ m.1 ∧ m.2.2.2 ≤ m.2.1
      · rw [if_pos e1] at h
        obtain ⟨v, hv, rfl⟩ := Option.map_eq_some_iff.1 h
        obtain ⟨i1, i2, i3⟩ := wz_wo n _ v hv
        refine ⟨?_, ?_, by simpa using i3⟩
        · rw [wz, letter_mm, i1, if_neg (show ¬ ((114 : Int) = 108) by decide)]
          obtain ⟨a, b, c, d⟩ := m
          simp only [Prod.mk.injEq, true_and, and_true]
          omega
        · intro x hx
          rcases List.mem_cons.1 hx with rfl | hx
          · exact .inr rfl
          · exact i2 x hx
      · rw [if_neg e1] at h
        obtain ⟨v, hv, rfl⟩ := Option.map_eq_some_iff.1 h
        obtain ⟨i1, i2, i3⟩ := wz_wo n _ v hv
        refine ⟨?_, ?_, by simpa using i3⟩
        · rw [wz, letter_mm, i1, if_pos rfl]
          obtain ⟨a, b, c, d⟩ := m
          simp only [Prod.mk.injEq, true_and, and_true]
          omega
        · intro x hx
          rcases List.mem_cons.1 hx with rfl | hx
          · exact .inl rfl
          · exact i2 x hx
end Go.Proofs.YtdclgghdilbheaaDoor.P

/- Fractions: divisors, fractions moved by matrices, the program and the reference alike. -/
namespace Go.Proofs.YtdclgghdilbheaaDoor.P
open Go.RowKit Go.Proofs.YtdclgghdilbheaaDoorW.PrintWords Go.Proofs.YtdclgghdilbheaaDoorW.PrintLast Go.Proofs.YtdclgghdilbheaaDoorW.PrintMore
theorem gcd_step (a b : Nat) : Nat.gcd a b = Nat.gcd b (a % b) := by
  rw [Nat.gcd_comm a b, Nat.gcd_rec b a, Nat.gcd_comm]
theorem tmod_nat (a b : Nat) : Int.tmod (a : Int) (b : Int) = ((a % b : Nat) : Int) := by
  rw [Int.tmod_eq_emod_of_nonneg (by omega)]; omega
theorem divisor_l0 : ∀ (d a b : Nat), b ≤ d → Ev (fun k => impl_divisor.l0 k (a : Int) (b : Int)) ((Nat.gcd a b : Nat) : Int) := by
  intro d
  induction d with
  | zero =>
    intro a b h
    have : b = 0 := by omega
    subst this
    refine Ev.step (fun k => rfl) ?_
    rw [Nat.gcd_zero_right]
    exact Ev.now _
  | succ d ih =>
    intro a b h
    refine Ev.step (fun k => rfl) ?_
    by_cases hb : b = 0
    · subst hb
      rw [Nat.gcd_zero_right]
      exact Ev.now _
    · refine Ev.congr (fun k => if_neg (by omega)) ?_
      rw [tmod_nat, gcd_step]
      exact ih b (a % b) (by have := Nat.mod_lt a (show b > 0 by omega); omega)
theorem divisor_Ev (a b : Int) (ha : 0 ≤ a) (hb : 0 ≤ b) : Ev (fun k => impl_divisor.f k a b) ((Nat.gcd a.toNat b.toNat : Nat) : Int) := by
  obtain ⟨x, rfl⟩ := Int.eq_ofNat_of_zero_le ha
  obtain ⟨y, rfl⟩ := Int.eq_ofNat_of_zero_le hb
  exact divisor_l0 y x y (Nat.le_refl _)
def IsF (n e : Int) : Prop := (0 ≤ n ∧ n ≤ 1000000) ∧ (0 ≤ e ∧ e ≤ 1000000) ∧ Nat.gcd n.toNat e.toNat = 1
instance (n e : Int) : Decidable (IsF n e) := by unfold IsF; infer_instance
theorem isF_Ev (n e : Int) : Ev (fun k => impl_IsFraction.f k n e) (decide (IsF n e)) := by
  have hf : ∀ k, impl_IsFraction.f k n e = if decide (0 ≤ n ∧ n ≤ 1000000) = true then (if decide (0 ≤ e ∧ e ≤ 1000000) = true then (impl_divisor.f k n e).bind fun t => some (t == 1) else some false) else some false := fun k => by
    unfold impl_IsFraction.f; rw [within_eq, within_eq]; rfl
  refine Ev.congr hf ?_
  by_cases h1 : 0 ≤ n ∧ n ≤ 1000000
  · refine Ev.congr (fun k => if_pos (decide_eq_true h1)) ?_
    by_cases h2 : 0 ≤ e ∧ e ≤ 1000000
    · refine Ev.congr (fun k => if_pos (decide_eq_true h2)) ?_
      refine Ev.bind (f := fun _ t => some (t == 1)) (divisor_Ev n e h1.1 h2.1) ?_
      have : (((Nat.gcd n.toNat e.toNat : Nat) : Int) == 1) = decide (IsF n e) := by
        rw [Bool.eq_iff_iff]; simp [IsF, h1, h2]; omega
      rw [this]; exact Ev.now _
    · refine Ev.congr (fun k => if_neg (by rw [decide_eq_true_iff]; exact h2)) ?_
      rw [decide_eq_false (fun h : IsF n e => h2 h.2.1)]; exact Ev.now _
  · refine Ev.congr (fun k => if_neg (by rw [decide_eq_true_iff]; exact h1)) ?_
    rw [decide_eq_false (fun h : IsF n e => h1 h.1)]; exact Ev.now _
theorem nbGood_l0 : ∀ (d a b : Nat), b ≤ d → Ev (fun k => spec_nbGood.l0 k (a : Int) (b : Int)) (((Nat.gcd a b : Nat) : Int) == 1) := by
  intro d
  induction d with
  | zero =>
    intro a b h
    have : b = 0 := by omega
    subst this
    refine Ev.step (fun k => rfl) ?_
    rw [Nat.gcd_zero_right]
    exact Ev.now _
  | succ d ih =>
    intro a b h
    refine Ev.step (fun k => rfl) ?_
    by_cases hb : b = 0
    · subst hb
      rw [Nat.gcd_zero_right]
      exact Ev.now _
    · refine Ev.congr (fun k => (if_pos (by omega)).trans (if_neg (by omega))) ?_
      rw [tmod_nat, gcd_step]
      exact ih b (a % b) (by have := Nat.mod_lt a (show b > 0 by omega); omega)
theorem nbGood_Ev (n e : Int) : Ev (fun k => spec_nbGood.f k n e) (decide (IsF n e)) := by
  have hf : ∀ k, spec_nbGood.f k n e = if decide (0 ≤ n ∧ n ≤ 1000000) = true then spec_nbGood.j0 k (!decide (0 ≤ e ∧ e ≤ 1000000)) n e else spec_nbGood.j0 k true n e := fun k => by
    unfold spec_nbGood.f; rw [l1In_eq, l1In_eq]; rfl
  refine Ev.congr hf ?_
  have no : Ev (fun k => spec_nbGood.j0 k true n e) false := Ev.step (fun k => rfl) (Ev.now _)
  by_cases h1 : 0 ≤ n ∧ n ≤ 1000000
  · refine Ev.congr (fun k => if_pos (decide_eq_true h1)) ?_
    by_cases h2 : 0 ≤ e ∧ e ≤ 1000000
    · rw [decide_eq_true h2]
      refine Ev.step (fun k => rfl) ?_
      obtain ⟨x, rfl⟩ := Int.eq_ofNat_of_zero_le h1.1
      obtain ⟨y, rfl⟩ := Int.eq_ofNat_of_zero_le h2.1
      have := nbGood_l0 y x y (Nat.le_refl _)
      have e1 : (((Nat.gcd x y : Nat) : Int) == 1) = decide (IsF (x : Int) (y : Int)) := by
        rw [Bool.eq_iff_iff]; simp [IsF, h1, h2]; omega
      rw [e1] at this
      exact this
    · rw [decide_eq_false h2, decide_eq_false (fun h : IsF n e => h2 h.2.1)]; exact no
  · refine Ev.congr (fun k => if_neg (by rw [decide_eq_true_iff]; exact h1)) ?_
    rw [decide_eq_false (fun h : IsF n e => h1 h.1)]; exact no
def cap (x y : Int) : Int × Int × Bool := if x.natAbs > 1000000000000000 ∨ y > 1000000000000000 then (0, 0, false) else (x, y, true)
def nrm (x y : Int) : Int × Int × Bool := if y < 0 ∨ (y = 0 ∧ x < 0) then cap (-x) (-y) else cap x y
/-- What MoveFraction returns. -/
def mvf (a b c d n e : Int) : Int × Int × Bool := if IsM a b c d ∧ IsF n e then nrm (a * n + b * e) (c * n + d * e) else (0, 0, false)
theorem natAbs_F {n : Int} (h : 0 ≤ n ∧ n ≤ 1000000) : n.natAbs ≤ 1000000 := by omega
theorem mv_wrap {a b n e : Int} (ha : ent a) (hb : ent b) (hn : 0 ≤ n ∧ n ≤ 1000000) (he : 0 ≤ e ∧ e ≤ 1000000) :
    wrap64 (wrap64 (a * n) + wrap64 (b * e)) = a * n + b * e ∧ (a * n + b * e).natAbs ≤ 2000000000000000 := by
  have h1 := prod_bd (natAbs_ent ha) (natAbs_F hn)
  have h2 := prod_bd (natAbs_ent hb) (natAbs_F he)
  rw [wrap64_id (x := a * n) (by omega) (by omega), wrap64_id (x := b * e) (by omega) (by omega), wrap64_id (by omega) (by omega)]
  exact ⟨rfl, by omega⟩
theorem mx_size (x y : Int) (hx : x.natAbs ≤ 2000000000000000) : mx (mx x (wrap64 (-x))) y > 1000000000000000 ↔ x.natAbs > 1000000000000000 ∨ y > 1000000000000000 := by
  rw [wrap64_id (x := -x) (by omega) (by omega)]
  unfold mx
  split <;> (try split) <;> omega
theorem impl_j1 (x y : Int) (s : Bool) (hx : x.natAbs ≤ 2000000000000000) (hy : y.natAbs ≤ 2000000000000000) : Ev (fun k => impl_MoveFraction.j1 k x y s) (if s = true then cap (-x) (-y) else cap x y) := by
  refine Ev.step (fun k => rfl) ?_
  simp only [impl_MoveFraction.j1]
  rw [wrap64_id (x := -x) (by omega) (by omega), wrap64_id (x := -y) (by omega) (by omega)]
  cases s with
  | true =>
    rw [if_pos rfl]
    refine Ev.congr (f := fun _ => some (cap (-x) (-y))) (fun k => ?_) (Ev.now _)
    unfold impl_size.f cap
    simp only [Option.bind_some, mx_size (-x) (-y) (by omega)]
    split <;> rfl
  | false =>
    rw [if_neg Bool.false_ne_true]
    refine Ev.congr (f := fun _ => some (cap x y)) (fun k => ?_) (Ev.now _)
    unfold impl_size.f cap
    simp only [Option.bind_some, mx_size x y hx]
    split <;> rfl
theorem l1Abs_eq (x : Int) (hx : x.natAbs ≤ 2000000000000000) : spec_l1Abs.f x = some (x.natAbs : Int) := by
  unfold spec_l1Abs.f spec_l1Most.f
  rw [wrap64_id (x := -x) (by omega) (by omega)]
  by_cases h : x > -x
  · rw [if_pos h]; simp only [Option.bind_some]; congr 1; omega
  · rw [if_neg h]; simp only [Option.bind_some]; congr 1; omega
theorem spec_j1 (x y : Int) (s : Bool) (hx : x.natAbs ≤ 2000000000000000) (hy : y.natAbs ≤ 2000000000000000) : Ev (fun k => spec_MoveFraction.j1 k x y s) (if s = true then cap (-x) (-y) else cap x y) := by
  refine Ev.step (fun k => rfl) ?_
  simp only [spec_MoveFraction.j1]
  rw [wrap64_id (x := -x) (by omega) (by omega), wrap64_id (x := -y) (by omega) (by omega)]
  have hc : ∀ u v : Int, (if ((u.natAbs : Nat) : Int) > 1000000000000000 then some ((0 : Int), (0 : Int), false) else (if v > 1000000000000000 then some (0, 0, false) else some (u, v, true))) = some (cap u v) := fun u v => by
    unfold cap
    by_cases h1 : u.natAbs > 1000000000000000
    · rw [if_pos (by omega), if_pos (.inl h1)]
    · rw [if_neg (by omega)]
      by_cases h2 : v > 1000000000000000
      · rw [if_pos h2, if_pos (.inr h2)]
      · rw [if_neg h2, if_neg (fun h => h.elim h1 h2)]
  cases s with
  | true =>
    rw [if_pos rfl]
    refine Ev.congr (f := fun _ => some (cap (-x) (-y))) (fun k => ?_) (Ev.now _)
    rw [l1Abs_eq _ (by omega)]
    exact hc _ _
  | false =>
    rw [if_neg Bool.false_ne_true]
    refine Ev.congr (f := fun _ => some (cap x y)) (fun k => ?_) (Ev.now _)
    rw [l1Abs_eq _ hx]
    exact hc _ _
theorem nrm_cases (x y : Int) (g : Int × Int × Bool → Prop) (h1 : y < 0 → g (cap (-x) (-y))) (h2 : y = 0 → x < 0 → g (cap (-x) (-y))) (h3 : y = 0 → ¬ x < 0 → g (cap x y)) (h4 : 0 < y → g (cap x y)) : g (nrm x y) := by
  unfold nrm
  by_cases a1 : y < 0
  · rw [if_pos (.inl a1)]; exact h1 a1
  · by_cases a2 : y = 0
    · by_cases a3 : x < 0
      · rw [if_pos (.inr ⟨a2, a3⟩)]; exact h2 a2 a3
      · rw [if_neg (by omega)]; exact h3 a2 a3
    · rw [if_neg (by omega)]; exact h4 (by omega)
theorem impl_mvf (a b c d n e : Int) : Ev (fun k => impl_MoveFraction.f k a b c d n e) (mvf a b c d n e) := by
  have hf : ∀ k, impl_MoveFraction.f k a b c d n e = if decide (IsM a b c d) = true then ((impl_IsFraction.f k n e).bind fun t => impl_MoveFraction.j0 k (!t) a b c d n e) else impl_MoveFraction.j0 k true a b c d n e := fun k => by
    unfold impl_MoveFraction.f; rw [isMatrix_eq]; rfl
  refine Ev.congr hf ?_
  have no : Ev (fun k => impl_MoveFraction.j0 k true a b c d n e) (0, 0, false) := Ev.step (fun k => rfl) (Ev.now _)
  unfold mvf
  by_cases h1 : IsM a b c d
  · refine Ev.congr (fun k => if_pos (decide_eq_true h1)) ?_
    refine Ev.bind (f := fun k t => impl_MoveFraction.j0 k (!t) a b c d n e) (isF_Ev n e) ?_
    by_cases h2 : IsF n e
    · rw [decide_eq_true h2, if_pos ⟨h1, h2⟩]
      refine Ev.step (fun k => rfl) ?_
      simp only [impl_MoveFraction.j0]
      obtain ⟨p1, p2, p3, p4, p5⟩ := h1
      obtain ⟨q1, q2, q3⟩ := h2
      obtain ⟨w1, b1⟩ := mv_wrap p1 p2 q1 q2
      obtain ⟨w2, b2⟩ := mv_wrap p3 p4 q1 q2
      rw [w1, w2]
      generalize a * n + b * e = x at *
      generalize c * n + d * e = y at *
      refine nrm_cases x y _ ?_ ?_ ?_ ?_
      · intro hy; exact Ev.congr (fun k => if_pos hy) (impl_j1 x y true b1 b2)
      · intro hy hx
        refine Ev.congr (fun k => (if_neg (show ¬ y < 0 by omega)).trans (if_pos hy)) ?_
        rw [decide_eq_true hx]; exact impl_j1 x y true b1 b2
      · intro hy hx
        refine Ev.congr (fun k => (if_neg (show ¬ y < 0 by omega)).trans (if_pos hy)) ?_
        rw [decide_eq_false hx]; exact impl_j1 x y false b1 b2
      · intro hy
        exact Ev.congr (fun k => (if_neg (show ¬ y < 0 by omega)).trans (if_neg (show ¬ y = 0 by omega))) (impl_j1 x y false b1 b2)
    · rw [decide_eq_false h2, if_neg (fun h => h2 h.2)]; exact no
  · refine Ev.congr (fun k => if_neg (by rw [decide_eq_true_iff]; exact h1)) ?_
    rw [if_neg (fun h => h1 h.1)]; exact no
theorem spec_mvf (a b c d n e : Int) : Ev (fun k => spec_MoveFraction.f k a b c d n e) (mvf a b c d n e) := by
  refine Ev.bind (f := fun k t => if t = true then ((spec_nbGood.f k n e).bind fun t => spec_MoveFraction.j0 k (!t) a b c d n e) else spec_MoveFraction.j0 k true a b c d n e) (mxGood_Ev a b c d) ?_
  have no : Ev (fun k => spec_MoveFraction.j0 k true a b c d n e) (0, 0, false) := Ev.step (fun k => rfl) (Ev.now _)
  unfold mvf
  by_cases h1 : IsM a b c d
  · refine Ev.congr (fun k => if_pos (decide_eq_true h1)) ?_
    refine Ev.bind (f := fun k t => spec_MoveFraction.j0 k (!t) a b c d n e) (nbGood_Ev n e) ?_
    by_cases h2 : IsF n e
    · rw [decide_eq_true h2, if_pos ⟨h1, h2⟩]
      refine Ev.step (fun k => rfl) ?_
      simp only [spec_MoveFraction.j0]
      obtain ⟨p1, p2, p3, p4, p5⟩ := h1
      obtain ⟨q1, q2, q3⟩ := h2
      obtain ⟨w1, b1⟩ := mv_wrap p1 p2 q1 q2
      obtain ⟨w2, b2⟩ := mv_wrap p3 p4 q1 q2
      rw [w1, w2]
      generalize a * n + b * e = x at *
      generalize c * n + d * e = y at *
      refine nrm_cases x y _ ?_ ?_ ?_ ?_
      · intro hy; exact Ev.congr (fun k => if_pos hy) (spec_j1 x y true b1 b2)
      · intro hy hx
        refine Ev.congr (fun k => (if_neg (show ¬ y < 0 by omega)).trans (if_pos hy)) ?_
        rw [decide_eq_true hx]; exact spec_j1 x y true b1 b2
      · intro hy hx
        refine Ev.congr (fun k => (if_neg (show ¬ y < 0 by omega)).trans (if_pos hy)) ?_
        rw [decide_eq_false hx]; exact spec_j1 x y false b1 b2
      · intro hy
        exact Ev.congr (fun k => (if_neg (show ¬ y < 0 by omega)).trans (if_neg (show ¬ y = 0 by omega))) (spec_j1 x y false b1 b2)
    · rw [decide_eq_false h2, if_neg (fun h => h2 h.2)]; exact no
  · refine Ev.congr (fun k => if_neg (by rw [decide_eq_true_iff]; exact h1)) ?_
    rw [if_neg (fun h => h1 h.1)]; exact no
theorem inverse_eq (a b c d : Int) : impl_InverseMatrix.f a b c d = some (if IsM a b c d then (d, wrap64 (-b), wrap64 (-c), a, true) else (0, 0, 0, 0, false)) := by
  unfold impl_InverseMatrix.f
  rw [isMatrix_eq]
  by_cases h : IsM a b c d
  · rw [if_pos h, decide_eq_true h]; rfl
  · rw [if_neg h, decide_eq_false h]; rfl
/-- What a moved fraction is: not 0/0, in lowest terms, and moved back. -/
theorem moved {a b c d n e x y : Int} (h : mvf a b c d n e = (x, y, true)) :
    IsM a b c d ∧ ¬ y < 0 ∧ (y = 0 → x = 1) ∧ (0 ≤ x → x ≤ 1000000 → y ≤ 1000000 → IsF x y ∧ mvf d (-b) (-c) a x y = (n, e, true)) := by
  unfold mvf at h
  by_cases hc : IsM a b c d ∧ IsF n e
  · rw [if_pos hc] at h
    obtain ⟨hM, hF⟩ := hc
    have hM2 : IsM d (-b) (-c) a := by
      obtain ⟨p1, p2, p3, p4, p5⟩ := hM
      unfold ent at *
      have e5 : d * a - -b * -c = a * d - b * c := by grind
      exact ⟨by unfold ent; omega, by unfold ent; omega, by unfold ent; omega, by unfold ent; omega, by omega⟩
    obtain ⟨q1, q2, q3⟩ := hF
    have hdet := hM.2.2.2.2
    -- the sign
    obtain ⟨s, hs, hx, hy, hpos⟩ : ∃ s : Int, (s = 1 ∨ s = -1) ∧ x = s * (a * n + b * e) ∧ y = s * (c * n + d * e) ∧ (0 < y ∨ (y = 0 ∧ 0 ≤ x)) := by
      have hcap : ∀ u v, cap u v = (x, y, true) → x = u ∧ y = v := fun u v hh => by
        unfold cap at hh
        split at hh
        · cases hh
        · cases hh; exact ⟨rfl, rfl⟩
      unfold nrm at h
      split at h
      · obtain ⟨e1, e2⟩ := hcap _ _ h
        exact ⟨-1, .inr rfl, by rw [e1]; grind, by rw [e2]; grind, by omega⟩
      · obtain ⟨e1, e2⟩ := hcap _ _ h
        exact ⟨1, .inl rfl, by rw [e1]; grind, by rw [e2]; grind, by omega⟩
    have hss : s * s = 1 := by rcases hs with rfl | rfl <;> rfl
    have bn : d * x + -b * y = s * n := by
      rw [hx, hy]
      have : d * (s * (a * n + b * e)) + -b * (s * (c * n + d * e)) = (a * d - b * c) * (s * n) := by grind
      rw [this, hdet]; omega
    have be : -c * x + a * y = s * e := by
      rw [hx, hy]
      have : -c * (s * (a * n + b * e)) + a * (s * (c * n + d * e)) = (a * d - b * c) * (s * e) := by grind
      rw [this, hdet]; omega
    have dvd1 : ∀ g : Nat, (g : Int) ∣ x → (g : Int) ∣ y → g = 1 := fun g g1 g2 => by
      have k1 : (g : Int) ∣ s * n := by rw [← bn]; exact Int.dvd_add (Int.dvd_mul_of_dvd_right g1) (Int.dvd_mul_of_dvd_right g2)
      have k2 : (g : Int) ∣ s * e := by rw [← be]; exact Int.dvd_add (Int.dvd_mul_of_dvd_right g1) (Int.dvd_mul_of_dvd_right g2)
      have k3 : g ∣ n.toNat := by
        have := Int.natAbs_dvd_natAbs.2 k1
        rcases hs with rfl | rfl
        · have e1 : (1 * n).natAbs = n.toNat := by omega
          rw [e1] at this; simpa using this
        · have e1 : (-1 * n).natAbs = n.toNat := by omega
          rw [e1] at this; simpa using this
      have k4 : g ∣ e.toNat := by
        have := Int.natAbs_dvd_natAbs.2 k2
        rcases hs with rfl | rfl
        · have e1 : (1 * e).natAbs = e.toNat := by omega
          rw [e1] at this; simpa using this
        · have e1 : (-1 * e).natAbs = e.toNat := by omega
          rw [e1] at this; simpa using this
      have := Nat.dvd_gcd k3 k4
      rw [q3] at this
      exact Nat.dvd_one.1 this
    refine ⟨hM, by omega, ?_, ?_⟩
    · intro hy0
      have := dvd1 x.natAbs (Int.natAbs_dvd.2 (Int.dvd_refl x)) (by rw [hy0]; exact Int.dvd_zero _)
      omega
    · intro h0 h1 h2
      have hF2 : IsF x y := by
        refine ⟨⟨h0, h1⟩, ⟨by omega, h2⟩, ?_⟩
        refine dvd1 _ ?_ ?_
        · have := Int.natCast_dvd_natCast.2 (Nat.gcd_dvd_left x.toNat y.toNat)
          rwa [Int.toNat_of_nonneg h0] at this
        · have := Int.natCast_dvd_natCast.2 (Nat.gcd_dvd_right x.toNat y.toNat)
          rwa [Int.toNat_of_nonneg (show 0 ≤ y by omega)] at this
      refine ⟨hF2, ?_⟩
      unfold mvf
      rw [if_pos ⟨hM2, hF2⟩, bn, be]
      have he0 : e = 0 → n = 1 := fun e0 => by
        rw [e0] at q3
        have : n.toNat = 1 := by simpa using q3
        omega
      have hcap : cap n e = (n, e, true) := by unfold cap; rw [if_neg (by omega)]
      unfold nrm
      rcases hs with rfl | rfl
      · rw [if_neg (by omega), show (1 : Int) * n = n by omega, show (1 : Int) * e = e by omega]; exact hcap
      · rw [if_pos (by omega), show -(-1 * n) = n by omega, show -(-1 * e) = e by omega]; exact hcap
  · rw [if_neg hc] at h; cases h
end Go.Proofs.YtdclgghdilbheaaDoor.P

/- The cursor that draws the laws' inputs: each draw answers, and its numbers lie where they are said to lie. -/
namespace Go.Proofs.YtdclgghdilbheaaDoor.P
open Go.RowKit Go.Proofs.YtdclgghdilbheaaDoorW.PrintWords Go.Proofs.YtdclgghdilbheaaDoorW.PrintLast Go.Proofs.YtdclgghdilbheaaDoorW.PrintMore
/-- The cursor's place: it has not gone far. -/
def At (a : Int) (n : Nat) : Prop := 0 ≤ a ∧ a ≤ (n : Int) ∧ n ≤ 1000000000000
theorem At.mono {a : Int} {n m : Nat} (h : At a n) (hn : n ≤ m) (hm : m ≤ 1000000000000) : At a m := ⟨h.1, by have := h.2.1; omega, hm⟩
theorem wrap_u64_small (m : Nat) (h : m ≤ 255) : IntKind.u64.wrap (m : Int) = m := by
  simp [IntKind.wrap, IntKind.signed, IntKind.bits]; omega
theorem and_255 (x : Int) : 0 ≤ wrap64 (Go.bits .and .u64 x 255) ∧ wrap64 (Go.bits .and .u64 x 255) ≤ 255 := by
  have h : 0 ≤ Go.bits .and .u64 x 255 ∧ Go.bits .and .u64 x 255 ≤ 255 := by
    have h2 : (BitVec.ofInt 64 x &&& BitVec.ofInt 64 255).toNat ≤ 255 := by
      rw [BitVec.toNat_and]
      exact Nat.le_trans Nat.and_le_right (by decide)
    have h3 : Go.bits .and .u64 x 255 = IntKind.u64.wrap ((BitVec.ofInt 64 x &&& BitVec.ofInt 64 255).toNat : Nat) := rfl
    rw [h3, wrap_u64_small _ h2]
    omega
  rw [wrap64_id (by omega) (by omega)]; exact h
theorem next_T (l : List Int) (hl : Bytes l) (a s : Int) (n : Nat) (h : At a n) (hn : n + 1 ≤ 1000000000000) :
    ∃ v a' s', spec_l1Cur_next.f l a s = some (v, a', s') ∧ (0 ≤ v ∧ v ≤ 255) ∧ At a' (n + 1) := by
  obtain ⟨h0, h1, h2⟩ := h
  have hw : wrap64 (a + 1) = a + 1 := wrap64_id (by omega) (by omega)
  have hA : At (a + 1) (n + 1) := ⟨by omega, by omega, hn⟩
  unfold spec_l1Cur_next.f
  rw [hw]
  by_cases c1 : a < (l.length : Int)
  · rw [if_pos c1, if_pos h0]
    have hm := hl _ (rd_mem h0 c1)
    by_cases c2 : a + 1 ≤ (l.length : Int)
    · rw [if_pos c2]
      exact ⟨_, _, _, rfl, by rw [wrap64_id (by omega) (by omega)]; exact hm, hA⟩
    · rw [if_neg c2]
      exact ⟨_, _, _, rfl, and_255 _, hA⟩
  · rw [if_neg c1]
    by_cases c2 : a + 1 ≤ (l.length : Int)
    · rw [if_pos c2]; exact ⟨_, _, _, rfl, ⟨by omega, by omega⟩, hA⟩
    · rw [if_neg c2]
      exact ⟨_, _, _, rfl, and_255 _, hA⟩
theorem pick_ex (l : List Int) (hl : Bytes l) (a s m : Int) (n : Nat) (h : At a n) (hn : n + 2 ≤ 1000000000000) (hm : m ≤ 1000000000) :
    ∃ v a' s', spec_l1Cur_pick.f l a s m = some (v, a', s') ∧ (0 ≤ v ∧ (1 ≤ m → v < m) ∧ (m ≤ 1 → v = 0)) ∧ At a' (n + 2) := by
  unfold spec_l1Cur_pick.f
  by_cases c1 : m ≤ 1
  · rw [if_pos c1]; exact ⟨_, _, _, rfl, ⟨by omega, by omega, by omega⟩, h.mono (by omega) hn⟩
  · rw [if_neg c1]
    obtain ⟨v, a1, s1, e1, hv, hA⟩ := next_T l hl a s n h (by omega)
    rw [e1]; simp only [Option.bind_some]
    by_cases c2 : m > 200
    · rw [if_pos c2]
      obtain ⟨v2, a2, s2, e2, hv2, hA2⟩ := next_T l hl a1 s1 (n + 1) hA (by omega)
      rw [e2]; simp only [Option.bind_some]
      rw [if_neg (by omega)]
      refine ⟨_, _, _, rfl, ?_, hA2⟩
      rw [wrap64_id (x := v * 256) (by omega) (by omega), wrap64_id (by omega) (by omega), Int.tmod_eq_emod_of_nonneg (by omega)]
      exact ⟨Int.emod_nonneg _ (by omega), fun _ => Int.emod_lt_of_pos _ (by omega), by omega⟩
    · rw [if_neg c2, if_neg (by omega)]
      refine ⟨_, _, _, rfl, ?_, hA.mono (by omega) hn⟩
      rw [Int.tmod_eq_emod_of_nonneg (by omega)]
      exact ⟨Int.emod_nonneg _ (by omega), fun _ => Int.emod_lt_of_pos _ (by omega), by omega⟩
theorem pick_T (l : List Int) (hl : Bytes l) (a s m : Int) (n : Nat) (h : At a n) (hn : n + 2 ≤ 1000000000000 := by omega) (hm : m ≤ 1000000000 := by omega) :
    T (fun _ => spec_l1Cur_pick.f l a s m) fun r => (0 ≤ r.1 ∧ (1 ≤ m → r.1 < m) ∧ (m ≤ 1 → r.1 = 0)) ∧ At r.2.1 (n + 2) := by
  obtain ⟨v, a', s', e, h1, h2⟩ := pick_ex l hl a s m n h hn hm
  exact T.of_eq e ⟨h1, h2⟩
theorem one_T (l : List Int) (hl : Bytes l) (a s m : Int) (n : Nat) (h : At a n) (hn : n + 2 ≤ 1000000000000 := by omega) (hm : m ≤ 1000000000 := by omega) :
    T (fun _ => spec_l1Cur_one.f l a s m) fun r => At r.2.1 (n + 2) := by
  obtain ⟨v, a', s', e, h1, h2⟩ := pick_ex l hl a s m n h hn hm
  refine T.of_eq (r := ((v == 0), a', s')) ?_ h2
  unfold spec_l1Cur_one.f; rw [e]; rfl
theorem of_T (l : List Int) (hl : Bytes l) (a s : Int) (xs : List ByteArray) (n : Nat) (h : At a n) (hx : 0 < xs.length) (hx2 : xs.length ≤ 1000) (hn : n + 2 ≤ 1000000000000 := by omega) :
    T (fun _ => spec_l1Cur_of.f l a s xs) fun r => r.1 ∈ xs ∧ At r.2.1 (n + 2) := by
  obtain ⟨v, a', s', e, ⟨h1, h2, _⟩, h3⟩ := pick_ex l hl a s (xs.length : Int) n h hn (by omega)
  have hv := h2 (by omega)
  refine T.of_eq (r := (rdOf ByteArray.empty xs v, a', s')) ?_ ⟨?_, h3⟩
  · unfold spec_l1Cur_of.f; rw [e]; simp only [Option.bind_some]; rw [if_pos h1, if_pos hv]
  · unfold rdOf
    have : v.toNat < xs.length := by omega
    simp [List.getD, List.getElem?_eq_getElem this]
theorem among_T (l : List Int) (hl : Bytes l) (a s : Int) (xs : List Int) (n : Nat) (h : At a n) (hx : 0 < xs.length) (hx2 : xs.length ≤ 1000) (hn : n + 2 ≤ 1000000000000 := by omega) :
    T (fun _ => spec_l1Cur_among.f l a s xs) fun r => r.1 ∈ xs ∧ At r.2.1 (n + 2) := by
  obtain ⟨v, a', s', e, ⟨h1, h2, _⟩, h3⟩ := pick_ex l hl a s (xs.length : Int) n h hn (by omega)
  have hv := h2 (by omega)
  refine T.of_eq (r := (rd xs v, a', s')) ?_ ⟨rd_mem h1 hv, h3⟩
  unfold spec_l1Cur_among.f; rw [e]; simp only [Option.bind_some]; rw [if_pos h1, if_pos hv]
/-- Texts that draws make are short. -/
def Short (s : ByteArray) (n : Nat) : Prop := s.size ≤ n ∧ n ≤ 1000000000
theorem strOf_one (x : Int) : (strOfNums [x]).size = 1 := rfl
theorem spoilt_l0_T (l : List Int) (hl : Bytes l) (w : ByteArray) (hw : 0 < w.size) (hw2 : w.size ≤ 1000000) : ∀ (d : Nat) (t : ByteArray) (m a s : Int) (n z : Nat), m ≤ d → 0 ≤ m → d ≤ 10 → Short t z → z + d ≤ 1000000000 → At a n → n + 6 * d ≤ 1000000000000 →
    T (fun k => spec_l1Cur_spoilt.l0 k t w m l a s) fun r => Short r.1 (z + d) ∧ At r.2.1 (n + 6 * d) := by
  intro d
  induction d with
  | zero =>
    intro t m a s n z h1 h2 h3 hz hzd hA hn
    have hz1 := hz.1
    have hz2 := hz.2
    refine T.step (fun k => rfl) ?_
    refine T.neg (by omega) ?_
    refine T.step (fun k => rfl) ?_
    exact T.ret ⟨(⟨by omega, by omega⟩ : Short t _), hA.mono (by omega) (by omega)⟩
  | succ d ih =>
    intro t m a s n z h1 h2 h3 hz hzd hA hn
    have hz1 := hz.1
    have hz2 := hz.2
    by_cases hm : m > 0
    · refine T.step (fun k => rfl) ?_
      refine T.pos hm ?_
      refine T.step (fun k => rfl) ?_
      refine T.ite (fun c => ?_) (fun c => ?_)
      · have ht : 0 < t.size := by have := of_decide_eq_true c; omega
        refine T.bind (pick_T l hl a s (t.size : Int) n hA) ?_
        rintro ⟨i, a1, s1⟩ ⟨⟨i0, i1, _⟩, hA1⟩
        dsimp only at i0 i1 hA1 ⊢
        have i2 := i1 (by omega)
        refine T.bind (pick_T l hl a1 s1 (w.size : Int) _ hA1) ?_
        rintro ⟨j, a2, s2⟩ ⟨⟨j0, j1, _⟩, hA2⟩
        dsimp only at j0 j1 hA2 ⊢
        refine T.pos j0 (T.pos (j1 (by omega)) ?_)
        refine T.some_bind ?_
        refine T.bind (pick_T l hl a2 s2 3 _ hA2) ?_
        rintro ⟨q, a3, s3⟩ ⟨⟨q0, q1, _⟩, hA3⟩
        dsimp only at q0 q1 hA3 ⊢
        have hm1 : wrap64 (m - 1) = m - 1 := wrap64_id (by omega) (by omega)
        have hi1 : wrap64 (i + 1) = i + 1 := wrap64_id (by omega) (by omega)
        have e1 : (t.extract 0 i.toNat).size = i.toNat := by rw [ByteArray.size_extract]; omega
        have e2 : (t.extract i.toNat t.size).size = t.size - i.toNat := by rw [ByteArray.size_extract]; omega
        have e3 : (t.extract (i + 1).toNat t.size).size = t.size - (i.toNat + 1) := by rw [ByteArray.size_extract]; omega
        have fin : ∀ t' : ByteArray, t'.size ≤ t.size + 1 → T (fun k => spec_l1Cur_spoilt.l0 k t' w (m - 1) l a3 s3) fun r => Short r.1 (z + (d + 1)) ∧ At r.2.1 (n + 6 * (d + 1)) := by
          intro t' ht'
          refine (ih t' (m - 1) a3 s3 (n + 2 + 2 + 2) (z + 1) (by omega) (by omega) (by omega) ⟨by omega, by omega⟩ (by omega) hA3 (by omega)).mono ?_
          rintro ⟨r1, r2, r3⟩ ⟨⟨g1, g2⟩, g3⟩
          exact ⟨⟨by omega, by omega⟩, g3.mono (by omega) (by omega)⟩
        rw [hm1, hi1]
        refine T.ite (fun c1 => ?_) (fun c1 => T.ite (fun c2 => ?_) (fun c2 => ?_))
        · refine T.pos i0 (T.pos (by omega) (T.pos (by rw [e1, strOf_one]; omega) (T.pos (by rw [ByteArray.size_append, e1, e2, strOf_one]; omega) ?_)))
          exact fin _ (by rw [ByteArray.size_append, ByteArray.size_append, e1, e2, strOf_one]; omega)
        · refine T.pos i0 (T.pos (by omega) (T.pos (by rw [e1, strOf_one]; omega) (T.pos (by omega) (T.pos (by omega) (T.pos (by rw [ByteArray.size_append, e1, e3, strOf_one]; omega) ?_)))))
          exact fin _ (by rw [ByteArray.size_append, ByteArray.size_append, e1, e3, strOf_one]; omega)
        · refine T.pos i0 (T.pos (by omega) (T.pos (by omega) (T.pos (by omega) (T.pos (by rw [e1, e3]; omega) ?_))))
          exact fin _ (by rw [ByteArray.size_append, e1, e3]; omega)
      · exact T.ret ⟨(⟨by omega, by omega⟩ : Short t _), hA.mono (by omega) (by omega)⟩
    · refine T.step (fun k => rfl) ?_
      refine T.neg hm ?_
      refine T.step (fun k => rfl) ?_
      exact T.ret ⟨(⟨by omega, by omega⟩ : Short t _), hA.mono (by omega) (by omega)⟩
theorem spoilt_T (l : List Int) (hl : Bytes l) (t w : ByteArray) (a s : Int) (n z : Nat) (hw : 0 < w.size) (hw2 : w.size ≤ 1000000) (hz : Short t z) (hz2 : z ≤ 1000000) (hA : At a n) (hn : n + 14 ≤ 1000000000000 := by omega) :
    T (fun k => spec_l1Cur_spoilt.f k l a s t w) fun r => Short r.1 (z + 2) ∧ At r.2.1 (n + 14) := by
  refine T.bind (pick_T l hl a s 2 n hA) ?_
  rintro ⟨q, a1, s1⟩ ⟨⟨q0, q1, _⟩, hA1⟩
  dsimp only at q0 q1 hA1 ⊢
  have q2 := q1 (by omega)
  rw [wrap64_id (x := 1 + q) (by omega) (by omega)]
  exact spoilt_l0_T l hl w hw hw2 2 t (1 + q) a1 s1 (n + 2) z (by omega) (by omega) (by omega) hz (by omega) hA1 (by omega)
end Go.Proofs.YtdclgghdilbheaaDoor.P

/- The draws of words, terms, matrices and fractions answer. -/
namespace Go.Proofs.YtdclgghdilbheaaDoor.P
open Go.RowKit Go.Proofs.YtdclgghdilbheaaDoorW.PrintWords Go.Proofs.YtdclgghdilbheaaDoorW.PrintLast Go.Proofs.YtdclgghdilbheaaDoorW.PrintMore
theorem Ev.T {α : Type} {g : Nat → Option α} {r : α} (h : Ev g r) : T g (fun x => x = r) := ⟨r, h, rfl⟩
theorem T.any {α : Type} {Q : α → Prop} {g : Nat → Option α} (h : T g Q) : T g (fun _ => True) := h.mono fun _ _ => trivial
theorem word_l1_T (l : List Int) (hl : Bytes l) : ∀ (d : Nat) (t : ByteArray) (a s : Int) (n : Nat), 42 - t.size ≤ d → t.size ≤ 60 → At a n → n + 4 * d + 4 ≤ 1000000000000 →
    T (fun k => spec_l1Cur_word.l1 k t l a s) fun r => Short r.1 60 ∧ At r.2.1 (n + 4 * d + 4) := by
  intro d
  induction d with
  | zero =>
    intro t a s n h1 h2 hA hn
    refine T.step (fun k => rfl) ?_
    simp only [spec_l1Cur_word.l1]
    refine T.bind (pick_T l hl a s 2 n hA) ?_
    rintro ⟨q, a1, s1⟩ ⟨⟨q0, q1, _⟩, hA1⟩
    dsimp only at q0 q1 hA1 ⊢
    have := q1 (by omega)
    rw [wrap64_id (x := 40 + q) (by omega) (by omega)]
    refine T.neg (by omega) ?_
    exact T.ret ⟨⟨h2, by omega⟩, hA1.mono (by omega) (by omega)⟩
  | succ d ih =>
    intro t a s n h1 h2 hA hn
    refine T.step (fun k => rfl) ?_
    simp only [spec_l1Cur_word.l1]
    refine T.bind (pick_T l hl a s 2 n hA) ?_
    rintro ⟨q, a1, s1⟩ ⟨⟨q0, q1, _⟩, hA1⟩
    dsimp only at q0 q1 hA1 ⊢
    have := q1 (by omega)
    rw [wrap64_id (x := 40 + q) (by omega) (by omega)]
    refine T.ite (fun c => ?_) (fun c => T.ret ⟨⟨h2, by omega⟩, hA1.mono (by omega) (by omega)⟩)
    refine T.bind (of_T l hl a1 s1 _ (n + 2) hA1 (by decide) (by decide)) ?_
    rintro ⟨w, a2, s2⟩ ⟨hw, hA2⟩
    dsimp only at hw hA2 ⊢
    have hsz : 1 ≤ w.size ∧ w.size ≤ 2 := by
      simp only [List.mem_cons, List.not_mem_nil, or_false] at hw
      rcases hw with rfl | rfl | rfl <;> decide
    refine T.pos (by omega) ?_
    refine (ih (t ++ w) a2 s2 (n + 2 + 2) (by rw [ByteArray.size_append]; omega) (by rw [ByteArray.size_append]; omega) hA2 (by omega)).mono ?_
    rintro ⟨r1, r2, r3⟩ ⟨g1, g2⟩
    exact ⟨g1, g2.mono (by omega) (by omega)⟩
theorem word_l0_T (l : List Int) (hl : Bytes l) : ∀ (d : Nat) (t : ByteArray) (m a s : Int) (n : Nat), m = d → t.size + d ≤ 20 → At a n → n + 2 * d + 300 ≤ 1000000000000 →
    T (fun k => spec_l1Cur_word.l0 k t m l a s) fun r => Short r.1 60 ∧ At r.2.1 (n + 2 * d + 300) := by
  intro d
  induction d with
  | zero =>
    intro t m a s n h1 h2 hA hn
    refine T.step (fun k => rfl) ?_
    simp only [spec_l1Cur_word.l0]
    refine T.neg (by omega) ?_
    refine T.bind (pick_T l hl a s 14 n hA) ?_
    rintro ⟨q, a1, s1⟩ ⟨⟨q0, q1, _⟩, hA1⟩
    dsimp only at q0 q1 hA1 ⊢
    refine T.ite (fun c => ?_) (fun c => T.ite (fun c2 => ?_) (fun c2 => ?_))
    · refine T.bind (spoilt_T l hl t _ a1 s1 (n + 2) 20 (by decide) (by decide) ⟨by omega, by omega⟩ (by omega) hA1) ?_
      rintro ⟨r1, r2, r3⟩ ⟨⟨g1, g2⟩, g3⟩
      exact T.ret ⟨(⟨by dsimp only at g1 ⊢; omega, by omega⟩ : Short r1 60), g3.mono (by omega) (by omega)⟩
    · refine (word_l1_T l hl 42 t a1 s1 (n + 2) (by omega) (by omega) hA1 (by omega)).mono ?_
      rintro ⟨r1, r2, r3⟩ ⟨g1, g2⟩
      exact ⟨g1, g2.mono (by omega) (by omega)⟩
    · exact T.ret ⟨(⟨by omega, by omega⟩ : Short t 60), hA1.mono (by omega) (by omega)⟩
  | succ d ih =>
    intro t m a s n h1 h2 hA hn
    refine T.step (fun k => rfl) ?_
    simp only [spec_l1Cur_word.l0]
    refine T.pos (by omega) ?_
    refine T.bind (of_T l hl a s _ n hA (by decide) (by decide)) ?_
    rintro ⟨w, a2, s2⟩ ⟨hw, hA2⟩
    dsimp only at hw hA2 ⊢
    have hsz : w.size = 1 := by
      simp only [List.mem_cons, List.not_mem_nil, or_false] at hw
      rcases hw with rfl | rfl <;> decide
    refine T.pos (by omega) ?_
    rw [wrap64_id (x := m - 1) (by omega) (by omega)]
    refine (ih (t ++ w) (m - 1) a2 s2 (n + 2) (by omega) (by rw [ByteArray.size_append]; omega) hA2 (by omega)).mono ?_
    rintro ⟨r1, r2, r3⟩ ⟨g1, g2⟩
    exact ⟨g1, g2.mono (by omega) (by omega)⟩
theorem word_T (l : List Int) (hl : Bytes l) (a s : Int) (n : Nat) (hA : At a n) (hn : n + 400 ≤ 1000000000000 := by omega) :
    T (fun k => spec_l1Cur_word.f k l a s) fun r => Short r.1 60 ∧ At r.2.1 (n + 400) := by
  refine T.bind (pick_T l hl a s 12 n hA) ?_
  rintro ⟨q, a1, s1⟩ ⟨⟨q0, q1, _⟩, hA1⟩
  dsimp only at q0 q1 hA1 ⊢
  have := q1 (by omega)
  refine (word_l0_T l hl q.toNat _ q a1 s1 (n + 2) (by omega) (by show (0 : Nat) + _ ≤ 20; omega) hA1 (by omega)).mono ?_
  rintro ⟨r1, r2, r3⟩ ⟨g1, g2⟩
  exact ⟨g1, g2.mono (by omega) (by omega)⟩
theorem terms_l2_T (l : List Int) : ∀ (d : Nat) (t : List Int) (a s : Int) (n : Nat), 10 - t.length ≤ d → t.length ≤ 60 → At a n →
    T (fun k => spec_l1Cur_terms.l2 k t l a s) fun r => r.1.length ≤ 60 ∧ At r.2.1 n := by
  intro d
  induction d with
  | zero =>
    intro t a s n h1 h2 hA
    refine T.step (fun k => rfl) ?_
    simp only [spec_l1Cur_terms.l2]
    exact T.neg (by omega) (T.ret ⟨h2, hA⟩)
  | succ d ih =>
    intro t a s n h1 h2 hA
    refine T.step (fun k => rfl) ?_
    simp only [spec_l1Cur_terms.l2]
    refine T.ite (fun c => T.pos (by omega) ?_) (fun c => T.ret ⟨h2, hA⟩)
    exact ih _ a s n (by simp; omega) (by simp; omega) hA
theorem terms_l1_T (l : List Int) (hl : Bytes l) : ∀ (d : Nat) (t : List Int) (a s : Int) (n : Nat), 12 - t.length ≤ d → t.length ≤ 60 → At a n → n + 2 * d + 2 ≤ 1000000000000 →
    T (fun k => spec_l1Cur_terms.l1 k t l a s) fun r => r.1.length ≤ 60 ∧ At r.2.1 (n + 2 * d + 2) := by
  intro d
  induction d with
  | zero =>
    intro t a s n h1 h2 hA hn
    refine T.step (fun k => rfl) ?_
    simp only [spec_l1Cur_terms.l1]
    refine T.bind (pick_T l hl a s 2 n hA) ?_
    rintro ⟨q, a1, s1⟩ ⟨⟨q0, q1, _⟩, hA1⟩
    dsimp only at q0 q1 hA1 ⊢
    have := q1 (by omega)
    rw [wrap64_id (x := 10 + q) (by omega) (by omega)]
    exact T.neg (by omega) (T.ret ⟨h2, hA1.mono (by omega) (by omega)⟩)
  | succ d ih =>
    intro t a s n h1 h2 hA hn
    refine T.step (fun k => rfl) ?_
    simp only [spec_l1Cur_terms.l1]
    refine T.bind (pick_T l hl a s 2 n hA) ?_
    rintro ⟨q, a1, s1⟩ ⟨⟨q0, q1, _⟩, hA1⟩
    dsimp only at q0 q1 hA1 ⊢
    have := q1 (by omega)
    rw [wrap64_id (x := 10 + q) (by omega) (by omega)]
    refine T.ite (fun c => T.pos (by omega) ?_) (fun c => T.ret ⟨h2, hA1.mono (by omega) (by omega)⟩)
    refine (ih _ a1 s1 (n + 2) (by simp; omega) (by simp; omega) hA1 (by omega)).mono ?_
    rintro ⟨r1, r2, r3⟩ ⟨g1, g2⟩
    exact ⟨g1, g2.mono (by omega) (by omega)⟩
theorem terms_l0_T (l : List Int) (hl : Bytes l) (lo hi : Int) (h3 : -1000 ≤ lo) (h4 : lo ≤ hi) (h5 : hi ≤ 1000) : ∀ (d : Nat) (t : List Int) (m a s : Int) (n : Nat), m = d → t.length + d ≤ 20 → At a n → n + 2 * d + 50 ≤ 1000000000000 →
    T (fun k => spec_l1Cur_terms.l0 k lo hi t m l a s) fun r => r.1.length ≤ 60 ∧ At r.2.1 (n + 2 * d + 50) := by
  intro d
  induction d with
  | zero =>
    intro t m a s n h1 h2 hA hn
    refine T.step (fun k => rfl) ?_
    simp only [spec_l1Cur_terms.l0]
    refine T.neg (by omega) ?_
    refine T.bind (pick_T l hl a s 14 n hA) ?_
    rintro ⟨q, a1, s1⟩ ⟨⟨q0, q1, _⟩, hA1⟩
    dsimp only at q0 q1 hA1 ⊢
    refine T.ite (fun c => ?_) (fun c => T.ite (fun c2 => ?_) (fun c2 => T.ite (fun c3 => ?_) (fun c3 => ?_)))
    · refine T.bind (among_T l hl a1 s1 _ (n + 2) hA1 (by decide) (by decide)) ?_
      rintro ⟨w, a2, s2⟩ ⟨hw, hA2⟩
      dsimp only at hw hA2 ⊢
      exact T.pos (by omega) (T.ret ⟨by simp; omega, hA2.mono (by omega) (by omega)⟩)
    · refine (terms_l1_T l hl 12 t a1 s1 (n + 2) (by omega) (by omega) hA1 (by omega)).mono ?_
      rintro ⟨r1, r2, r3⟩ ⟨g1, g2⟩
      exact ⟨g1, g2.mono (by omega) (by omega)⟩
    · refine (terms_l2_T l 10 t a1 s1 (n + 2) (by omega) (by omega) hA1).mono ?_
      rintro ⟨r1, r2, r3⟩ ⟨g1, g2⟩
      exact ⟨g1, g2.mono (by omega) (by omega)⟩
    · exact T.ret ⟨by dsimp only; omega, hA1.mono (by omega) (by omega)⟩
  | succ d ih =>
    intro t m a s n h1 h2 hA hn
    refine T.step (fun k => rfl) ?_
    simp only [spec_l1Cur_terms.l0]
    refine T.pos (by omega) ?_
    rw [wrap64_id (x := hi - lo) (by omega) (by omega), wrap64_id (x := hi - lo + 1) (by omega) (by omega), wrap64_id (x := m - 1) (by omega) (by omega)]
    refine T.bind (pick_T l hl a s (hi - lo + 1) n hA) ?_
    rintro ⟨q, a1, s1⟩ ⟨⟨q0, q1, _⟩, hA1⟩
    dsimp only at q0 q1 hA1 ⊢
    refine T.pos (by omega) ?_
    refine (ih _ (m - 1) a1 s1 (n + 2) (by omega) (by simp; omega) hA1 (by omega)).mono ?_
    rintro ⟨r1, r2, r3⟩ ⟨g1, g2⟩
    exact ⟨g1, g2.mono (by omega) (by omega)⟩
theorem terms_T (l : List Int) (hl : Bytes l) (a s lo hi : Int) (n : Nat) (h3 : -1000 ≤ lo) (h4 : lo ≤ hi) (h5 : hi ≤ 1000) (hA : At a n) (hn : n + 100 ≤ 1000000000000 := by omega) :
    T (fun k => spec_l1Cur_terms.f k l a s lo hi) fun r => r.1.length ≤ 60 ∧ At r.2.1 (n + 100) := by
  refine T.bind (pick_T l hl a s 8 n hA) ?_
  rintro ⟨q, a1, s1⟩ ⟨⟨q0, q1, _⟩, hA1⟩
  dsimp only at q0 q1 hA1 ⊢
  have := q1 (by omega)
  refine (terms_l0_T l hl lo hi h3 h4 h5 q.toNat [] q a1 s1 (n + 2) (by omega) (by simp; omega) hA1 (by omega)).mono ?_
  rintro ⟨r1, r2, r3⟩ ⟨g1, g2⟩
  exact ⟨g1, g2.mono (by omega) (by omega)⟩
theorem ctValue_l0_T (sg : Int) (l : List Int) (hl : l.length ≤ 1000000) : ∀ (d i : Nat) (p q : Int), l.length - i = d → i ≤ l.length → T (fun k => spec_ctValue.l0 k sg p q l (l.length : Int) (i : Int)) fun _ => True := by
  intro d
  induction d with
  | zero =>
    intro i p q h1 h2
    refine T.step (fun k => rfl) ?_
    simp only [spec_ctValue.l0]
    exact T.neg (by omega) (T.ret trivial)
  | succ d ih =>
    intro i p q h1 h2
    refine T.step (fun k => rfl) ?_
    simp only [spec_ctValue.l0]
    have hw : wrap64 ((i : Int) + 1) = ((i + 1 : Nat) : Int) := by rw [wrap64_id (by omega) (by omega)]; omega
    rw [hw]
    exact T.pos (by omega) (T.pos (by omega) (T.pos (by omega) (ih (i + 1) _ _ (by omega) (by omega))))
theorem ctValue_T (l : List Int) (sg : Int) (hl : l.length ≤ 1000000) : T (fun k => spec_ctValue.f k l sg) fun _ => True :=
  ctValue_l0_T sg l hl l.length 0 0 1 (by omega) (by omega)
theorem mxList_T (l : List Int) (hl : l.length ≤ 1000000) : T (fun k => spec_mxList.f k l) fun _ => True := by
  unfold spec_mxList.f
  refine T.ite (fun c => T.ret trivial) (fun c => ?_)
  rw [wrap64_id (x := (l.length : Int) - 1) (by omega) (by omega)]
  refine T.bind (ctValue_T l (-1) hl) (fun v1 _ => ?_)
  refine T.pos (by omega) (T.pos (by omega) ?_)
  refine T.bind (ctValue_T _ (-1) (by rw [List.length_take]; omega)) (fun v2 _ => ?_)
  refine T.pos (by omega) ?_
  refine T.bind (ctValue_T _ (-1) (by rw [List.length_drop]; omega)) (fun v3 _ => ?_)
  refine T.ite (fun c1 => ?_) (fun c1 => T.ret trivial)
  refine T.pos (by omega) ?_
  exact T.bind (ctValue_T _ (-1) (by rw [List.length_drop, List.length_take]; omega)) (fun v4 _ => T.ret trivial)
theorem ctGood_Ev (l : List Int) (hl : l.length ≤ 1000000) : Ev (fun k => spec_ctGood.f k l) (decide (l.length ≤ 10) && l.all fun x => decide (-30 ≤ x ∧ x ≤ 30)) := by
  unfold spec_ctGood.f
  by_cases h : l.length ≤ 10
  · refine Ev.congr (fun k => if_pos (by omega)) ?_
    rw [decide_eq_true h, Bool.true_and]
    exact Ev.bind (f := fun _ t => some t) (l1All_Ev (-30) 30 l (by omega)) (Ev.now _)
  · refine Ev.congr (fun k => if_neg (by omega)) ?_
    rw [decide_eq_false h, Bool.false_and]
    exact Ev.now _
theorem matrixOfList_T (l : List Int) (hl : l.length ≤ 1000000) : T (fun k => spec_MatrixOfList.f k l) fun _ => True := by
  unfold spec_MatrixOfList.f
  refine T.bind (Ev.T (ctGood_Ev l hl)) (fun t _ => ?_)
  refine T.ite (fun c => ?_) (fun c => T.ret trivial)
  refine T.bind (mxList_T l hl) (fun m _ => ?_)
  exact T.bind (Ev.T (mxIf_Ev _ _ _ _)) (fun m _ => T.ret trivial)
theorem matrix_j0_T (l : List Int) (hl : Bytes l) (x : Int) (b : Bool) (a s : Int) (n : Nat) (hA : At a n) (hn : n + 450 ≤ 1000000000000 := by omega) :
    T (fun k => spec_l1Cur_matrix.j0 k x b l a s) fun r => At r.2.2.2.2.1 (n + 450) := by
  refine T.step (fun k => rfl) ?_
  simp only [spec_l1Cur_matrix.j0]
  refine T.ite (fun c => ?_) (fun c => T.ite (fun c2 => ?_) (fun c2 => T.ite (fun c3 => T.ret (hA.mono (by omega) (by omega))) (fun c3 => ?_)))
  · refine T.bind (word_T l hl a s n hA) ?_
    rintro ⟨w, a1, s1⟩ ⟨hw, hA1⟩
    exact T.bind (Ev.T (spec_mow w)) (fun m _ => T.ret (hA1.mono (by omega) (by omega)))
  · refine T.some_bind ?_
    refine T.bind (pick_T l hl a s 6 n hA) ?_
    rintro ⟨q, a1, s1⟩ ⟨⟨q0, q1, _⟩, hA1⟩
    dsimp only at q0 q1 hA1 ⊢
    exact T.pos q0 (T.pos (q1 (by omega)) (T.ret (hA1.mono (by omega) (by omega))))
  · refine T.bind (terms_T l hl a s (-2) 4 n (by omega) (by omega) (by omega) hA) ?_
    rintro ⟨w, a1, s1⟩ ⟨hw, hA1⟩
    exact T.bind (matrixOfList_T w (by dsimp only at hw; omega)) (fun m _ => T.ret (hA1.mono (by omega) (by omega)))
theorem matrix_T (l : List Int) (hl : Bytes l) (a s : Int) (n : Nat) (hA : At a n) (hn : n + 500 ≤ 1000000000000 := by omega) :
    T (fun k => spec_l1Cur_matrix.f k l a s) fun r => At r.2.2.2.2.1 (n + 500) := by
  unfold spec_l1Cur_matrix.f
  refine T.bind (pick_T l hl a s 10 n hA) ?_
  rintro ⟨q, a1, s1⟩ ⟨⟨q0, q1, _⟩, hA1⟩
  dsimp only at q0 q1 hA1 ⊢
  have fin : ∀ x b, T (fun k => spec_l1Cur_matrix.j0 k x b l a1 s1) fun r => At r.2.2.2.2.1 (n + 500) := fun x b =>
    (matrix_j0_T l hl x b a1 s1 (n + 2) hA1).mono fun r h => h.mono (by omega) (by omega)
  refine T.ite (fun c => ?_) (fun c => T.ite (fun c2 => fin _ _) (fun c2 => T.ite (fun c3 => fin _ _) (fun c3 => fin _ _)))
  refine T.bind (among_T l hl a1 s1 _ (n + 2) hA1 (by decide) (by decide)) ?_
  rintro ⟨w2, a2, s2⟩ ⟨_, hA2⟩
  refine T.bind (among_T l hl a2 s2 _ _ hA2 (by decide) (by decide)) ?_
  rintro ⟨w3, a3, s3⟩ ⟨_, hA3⟩
  refine T.bind (among_T l hl a3 s3 _ _ hA3 (by decide) (by decide)) ?_
  rintro ⟨w4, a4, s4⟩ ⟨_, hA4⟩
  refine T.bind (among_T l hl a4 s4 _ _ hA4 (by decide) (by decide)) ?_
  rintro ⟨w5, a5, s5⟩ ⟨_, hA5⟩
  exact T.ret (hA5.mono (by omega) (by omega))
theorem fraction_l0_T (l : List Int) (hl : Bytes l) : ∀ (d : Nat) (m a s p q u v : Int) (n : Nat), m = d → d ≤ 100 → At a n → n + 2 * d ≤ 1000000000000 →
    T (fun k => spec_l1Cur_fraction.l0 k m l a s p q u v) fun r => At r.2.2.1 (n + 2 * d) := by
  intro d
  induction d with
  | zero =>
    intro m a s p q u v n h1 h2 hA hn
    refine T.step (fun k => rfl) ?_
    simp only [spec_l1Cur_fraction.l0]
    exact T.neg (by omega) (T.ret (hA.mono (by omega) (by omega)))
  | succ d ih =>
    intro m a s p q u v n h1 h2 hA hn
    refine T.step (fun k => rfl) ?_
    simp only [spec_l1Cur_fraction.l0]
    refine T.pos (by omega) ?_
    refine T.bind (T.of_eq (Q := fun _ => True) rfl trivial) (fun m1 _ => ?_)
    refine T.bind (one_T l hl a s 2 n hA) ?_
    rintro ⟨b, a1, s1⟩ hA1
    dsimp only at hA1 ⊢
    rw [wrap64_id (x := m - 1) (by omega) (by omega)]
    refine T.ite (fun c => ?_) (fun c => ?_)
    · exact (ih (m - 1) a1 s1 _ _ _ _ (n + 2) (by omega) (by omega) hA1 (by omega)).mono fun r h => h.mono (by omega) (by omega)
    · exact (ih (m - 1) a1 s1 _ _ _ _ (n + 2) (by omega) (by omega) hA1 (by omega)).mono fun r h => h.mono (by omega) (by omega)
theorem fraction_T (l : List Int) (hl : Bytes l) (a s : Int) (n : Nat) (hA : At a n) (hn : n + 50 ≤ 1000000000000 := by omega) :
    T (fun k => spec_l1Cur_fraction.f k l a s) fun r => At r.2.2.1 (n + 50) := by
  unfold spec_l1Cur_fraction.f
  refine T.bind (one_T l hl a s 10 n hA) ?_
  rintro ⟨b, a1, s1⟩ hA1
  dsimp only at hA1 ⊢
  refine T.ite (fun c => ?_) (fun c => ?_)
  · refine T.bind (among_T l hl a1 s1 _ (n + 2) hA1 (by decide) (by decide)) ?_
    rintro ⟨w2, a2, s2⟩ ⟨_, hA2⟩
    refine T.bind (among_T l hl a2 s2 _ _ hA2 (by decide) (by decide)) ?_
    rintro ⟨w3, a3, s3⟩ ⟨_, hA3⟩
    exact T.ret (hA3.mono (by omega) (by omega))
  · refine T.bind (pick_T l hl a1 s1 8 _ hA1) ?_
    rintro ⟨q, a2, s2⟩ ⟨⟨q0, q1, _⟩, hA2⟩
    dsimp only at q0 q1 hA2 ⊢
    have := q1 (by omega)
    exact (fraction_l0_T l hl q.toNat q a2 s2 _ _ _ _ (n + 2 + 2) (by omega) (by omega) hA2 (by omega)).mono fun r h => h.mono (by omega) (by omega)
end Go.Proofs.YtdclgghdilbheaaDoor.P

/- The law FnWordsTold over numbers and lists: words tell matrices and are told by them, fractions are moved as products tell. -/
namespace Go.Proofs.YtdclgghdilbheaaDoor.Pure
set_option linter.unusedVariables false
set_option linter.unusedSimpArgs false
open Go.RowKit Go.Proofs.YtdclgghdilbheaaDoor.P Go.Proofs.YtdclgghdilbheaaDoorW.PrintWords Go.Proofs.YtdclgghdilbheaaDoorW.PrintLast Go.Proofs.YtdclgghdilbheaaDoorW.PrintMore
theorem wt_j6 {a b c d n e x y : Int} (h : mvf a b c d n e = (x, y, true)) (t : Bool) (h0 : t = true → 0 ≤ x ∧ x ≤ 1000000 ∧ y ≤ 1000000) : P.T (fun k => laws_FnWordsTold.j6 k x y t a b c d n e) (· = true) := by
  obtain ⟨hM, _, _, h4⟩ := moved h
  refine P.T.step (fun k => rfl) ?_
  simp only [laws_FnWordsTold.j6]
  refine P.T.ite (fun ht => ?_) (fun ht => P.T.ret rfl)
  obtain ⟨g1, g2, g3⟩ := h0 ht
  obtain ⟨hF, hm⟩ := h4 g1 g2 g3
  rw [inverse_eq, if_pos hM]
  refine P.T.some_bind ?_
  have hb := hM.2.1
  have hc := hM.2.2.1
  unfold ent at hb hc
  rw [wrap64_id (x := -b) (by omega) (by omega), wrap64_id (x := -c) (by omega) (by omega)]
  have e1 := impl_mvf d (-b) (-c) a x y
  rw [hm] at e1
  refine P.T.bind (Ev.T e1) (fun v hv => ?_)
  subst hv
  refine P.T.bind (Ev.T (isF_Ev x y)) (fun v hv => ?_)
  subst hv
  rw [decide_eq_true hF]
  simp only [if_true]
  exact P.T.ret rfl
theorem wt_j4 (a b c d n e x y : Int) (o : Bool) (h : mvf a b c d n e = (x, y, o)) : P.T (fun k => laws_FnWordsTold.j4 k x y o a b c d n e) (· = true) := by
  refine P.T.step (fun k => rfl) ?_
  simp only [laws_FnWordsTold.j4]
  refine P.T.ite (fun ho => ?_) (fun ho => P.T.ret rfl)
  subst ho
  obtain ⟨hM, h1, h2, _⟩ := moved h
  refine P.T.neg h1 ?_
  have five : P.T (fun k => laws_FnWordsTold.j5 k x y false a b c d n e) (· = true) := by
    refine P.T.step (fun k => rfl) ?_
    simp only [laws_FnWordsTold.j5, Bool.false_eq_true, if_false]
    refine P.T.ite (fun c1 => P.T.ite (fun c2 => ?_) (fun c2 => ?_)) (fun c1 => ?_)
    · exact wt_j6 h _ (fun h => ⟨c1, c2, of_decide_eq_true h⟩)
    · exact wt_j6 h _ (fun h => by cases h)
    · exact wt_j6 h _ (fun h => by cases h)
  refine P.T.ite (fun c1 => ?_) (fun c1 => five)
  have : (x != 1) = false := by rw [h2 c1]; rfl
  rw [this]
  exact five
theorem bytes_LR {w : List Int} (h : LR w) : bytesOf (strOfNums w) = w := by
  unfold bytesOf strOfNums
  rw [List.map_map]
  conv => rhs; rw [← List.map_id w]
  refine List.map_congr_left fun c hc => ?_
  rcases h c hc with rfl | rfl <;> rfl
theorem strOf_bytes (s : ByteArray) : strOfNums (bytesOf s) = s := by
  apply ByteArray.ext
  unfold bytesOf strOfNums
  rw [List.map_map]
  have : (fun n : Int => UInt8.ofNat n.toNat) ∘ (fun b : UInt8 => (b.toNat : Int)) = id := by funext b; simp
  rw [this, List.map_id]
theorem mow_of {w : List Int} (h : LR w) (hl : w.length ≤ 40) : mow (strOfNums w) = chk (wz w) := by
  unfold mow
  have e := bytes_LR h
  rw [if_pos (by rw [strOfNums_size]; exact hl), if_pos ((bytesOf_lr _).2 (by rw [e]; exact h)), e, wordM_I w (by omega)]
theorem mow_true {s : ByteArray} {a b c d : Int} (h : mow s = (a, b, c, d, true)) : LR (bytesOf s) ∧ (bytesOf s).length ≤ 40 ∧ wz (bytesOf s) = (a, b, c, d) ∧ IsM a b c d := by
  unfold mow at h
  by_cases h1 : s.size ≤ 40
  · rw [if_pos h1] at h
    by_cases h2 : lr s.data.toList = true
    · rw [if_pos h2] at h
      have hl : (bytesOf s).length ≤ 40 := by rw [bytesOf_length]; exact h1
      rw [wordM_I _ (by omega)] at h
      unfold chk at h
      split at h
      · rename_i hM
        simp only [Prod.mk.injEq, and_true] at h
        obtain ⟨rfl, rfl, rfl, rfl⟩ := h
        exact ⟨(bytesOf_lr s).1 h2, hl, rfl, hM⟩
      · cases h
    · rw [if_neg h2] at h; cases h
  · rw [if_neg h1] at h; cases h
theorem wom_true {a b c d : Int} {t : ByteArray} (h : wom a b c d = (t, true)) : mow t = (a, b, c, d, true) := by
  unfold wom at h
  by_cases hc : IsM a b c d ∧ 0 ≤ a ∧ 0 ≤ b ∧ 0 ≤ c ∧ 0 ≤ d
  · rw [if_pos hc] at h
    cases hw : wo 40 (a, b, c, d) with
    | none => rw [hw] at h; cases h
    | some w =>
      rw [hw] at h
      simp only [wres, List.nil_append, Prod.mk.injEq, and_true] at h
      obtain ⟨e1, e2, e3⟩ := wz_wo 40 _ w hw
      rw [← h, mow_of e2 e3, e1]
      unfold chk
      rw [if_pos hc.1]
  · rw [if_neg hc] at h; cases h
theorem mow_wom {s : ByteArray} {a b c d : Int} (h : mow s = (a, b, c, d, true)) : wom a b c d = (s, true) ∧ 0 ≤ a ∧ 0 ≤ b ∧ 0 ≤ c ∧ 0 ≤ d := by
  obtain ⟨h1, h2, h3, h4⟩ := mow_true h
  have hN := (wz_bd (bytesOf s)).1
  rw [h3] at hN
  refine ⟨?_, hN⟩
  unfold wom
  rw [if_pos ⟨h4, hN⟩, ← h3, wo_wz _ 40 h1 h2]
  simp only [wres, List.nil_append, strOf_bytes]
theorem wt_j3 (a b c d : Int) (told : ByteArray) (one : Bool) (h : wom a b c d = (told, one)) (p q r s n e x y : Int) (o : Bool) (h2 : mvf p q r s n e = (x, y, o)) :
    P.T (fun k => laws_FnWordsTold.j3 k told one x y o false a b c d p q r s n e) (· = true) := by
  refine P.T.step (fun k => rfl) ?_
  simp only [laws_FnWordsTold.j3, Bool.false_eq_true, if_false]
  refine P.T.ite (fun ho => ?_) (fun ho => wt_j4 _ _ _ _ _ _ _ _ _ h2)
  subst ho
  have e := impl_mow told
  rw [wom_true h] at e
  refine P.T.bind (Ev.T e) (fun v hv => ?_)
  subst hv
  simp only [beq_self_eq_true, Bool.not_true, Bool.or_self, Bool.false_eq_true, if_false, if_true]
  exact wt_j4 _ _ _ _ _ _ _ _ _ h2
theorem wt_j2 (l : List Int) (hl : Bytes l) : P.T (fun k => laws_FnWordsTold.j2 k l) (· = true) := by
  refine P.T.step (fun k => rfl) ?_
  simp only [laws_FnWordsTold.j2]
  have hA : At 0 0 := ⟨by omega, by omega, by omega⟩
  have hdraw : P.T (fun k => spec_DrawWordOfMatrix.f k l) (fun _ => True) := by
    unfold spec_DrawWordOfMatrix.f spec_DrawIsMatrix.f
    have h1 : P.T (fun k => (spec_l1Cur_matrix.f k l 0 0).bind fun bt => some (bt.1, bt.2.1, bt.2.2.1, bt.2.2.2.1)) (fun _ => True) := P.T.bind (matrix_T l hl 0 0 0 hA) (fun m _ => P.T.ret trivial)
    exact P.T.bind h1 (fun m _ => P.T.ret trivial)
  refine P.T.bind hdraw ?_
  rintro ⟨a, b, c, d⟩ _
  refine P.T.bind (Ev.T (impl_wom a b c d)) (fun v hv => ?_)
  subst hv
  refine P.T.bind (Ev.T (spec_wom a b c d)) (fun v hv => ?_)
  subst hv
  have hdraw2 : P.T (fun k => spec_DrawMoveFraction.f k l) (fun _ => True) := by
    unfold spec_DrawMoveFraction.f
    refine P.T.bind (matrix_T l hl 0 0 0 hA) ?_
    rintro ⟨m1, m2, m3, m4, a1, s1⟩ hA1
    exact P.T.bind (fraction_T l hl a1 s1 _ hA1) (fun m _ => P.T.ret trivial)
  refine P.T.bind hdraw2 ?_
  rintro ⟨p, q, r, s, n, e⟩ _
  refine P.T.bind (Ev.T (impl_mvf p q r s n e)) (fun v hv => ?_)
  subst hv
  refine P.T.bind (Ev.T (spec_mvf p q r s n e)) (fun v hv => ?_)
  subst hv
  simp only [bne_self_eq_false, Bool.false_eq_true, if_false, if_true]
  exact wt_j3 a b c d _ _ rfl p q r s n e _ _ _ rfl
theorem bytes_take (s : ByteArray) (h : Nat) (_hh : h ≤ s.size) : bytesOf (s.extract 0 h) = (bytesOf s).take h := by
  unfold bytesOf
  rw [← List.map_take]
  congr 1
  simp [ByteArray.data_extract]
theorem bytes_drop (s : ByteArray) (h : Nat) (_hh : h ≤ s.size) : bytesOf (s.extract h s.size) = (bytesOf s).drop h := by
  unfold bytesOf
  rw [← List.map_drop]
  congr 1
  simp [ByteArray.data_extract]
  exact List.take_of_length_le (by rw [List.length_drop, data_length]; omega)
theorem wt_j1 (l : List Int) (hl : Bytes l) (w : ByteArray) (a b c d : Int) (h : mow w = (a, b, c, d, true)) : P.T (fun k => laws_FnWordsTold.j1 k l w false a b c d) (· = true) := by
  obtain ⟨h1, h2, h3, h4⟩ := mow_true h
  rw [bytesOf_length] at h2
  refine P.T.step (fun k => rfl) ?_
  simp only [laws_FnWordsTold.j1, Bool.false_eq_true, if_false]
  rw [wrap64_id (x := (w.size : Int) / 2) (by omega) (by omega)]
  have ht : ((w.size : Int) / 2).toNat = w.size / 2 := by omega
  rw [ht]
  refine P.T.pos (by omega) (P.T.pos (by omega) ?_)
  have half : ∀ v : ByteArray, LR (bytesOf v) → (bytesOf v).length ≤ 29 → mow v = ((wz (bytesOf v)).1, (wz (bytesOf v)).2.1, (wz (bytesOf v)).2.2.1, (wz (bytesOf v)).2.2.2, true) := fun v k1 k2 => by
    have := mow_of k1 (by omega)
    rw [strOf_bytes] at this
    rw [this]
    unfold chk
    rw [if_pos (isM_wz _ k2)]
  have b1 := bytes_take w (w.size / 2) (by omega)
  have b2 := bytes_drop w (w.size / 2) (by omega)
  have hlen := bytesOf_length w
  have e1 := impl_mow (w.extract 0 (w.size / 2))
  rw [half _ (by rw [b1]; exact fun c hc => h1 c (List.mem_of_mem_take hc)) (by rw [b1, List.length_take]; omega), b1] at e1
  refine P.T.bind (Ev.T e1) (fun v hv => ?_)
  subst hv
  have e2 := impl_mow (w.extract (w.size / 2) w.size)
  rw [half _ (by rw [b2]; exact fun c hc => h1 c (List.mem_of_mem_drop hc)) (by rw [b2, List.length_drop]; omega), b2] at e2
  refine P.T.bind (Ev.T e2) (fun v hv => ?_)
  subst hv
  have m1 := isM_wz ((bytesOf w).take (w.size / 2)) (by rw [List.length_take]; omega)
  have m2 := isM_wz ((bytesOf w).drop (w.size / 2)) (by rw [List.length_drop]; omega)
  have d1 := (wz_bd ((bytesOf w).take (w.size / 2))).2.1
  have d2 := (wz_bd ((bytesOf w).drop (w.size / 2))).2.1
  have hprod : tm (wz ((bytesOf w).take (w.size / 2))) (wz ((bytesOf w).drop (w.size / 2))) = (a, b, c, d) := by
    have p1 : 2 ^ ((bytesOf w).take (w.size / 2)).length ≤ 2 ^ 29 := Nat.pow_le_pow_right (by decide) (by rw [List.length_take]; omega)
    have p2 : 2 ^ ((bytesOf w).drop (w.size / 2)).length ≤ 2 ^ 29 := Nat.pow_le_pow_right (by decide) (by rw [List.length_drop]; omega)
    have p3 := Nat.mul_le_mul p1 p2
    rw [(tm_mm d1 d2 (by omega)).1, ← wz_append, List.take_append_drop, h3]
  have e3 : Ev (fun k => impl_TimesMatrix.f k (wz ((bytesOf w).take (w.size / 2))).1 (wz ((bytesOf w).take (w.size / 2))).2.1 (wz ((bytesOf w).take (w.size / 2))).2.2.1 (wz ((bytesOf w).take (w.size / 2))).2.2.2 (wz ((bytesOf w).drop (w.size / 2))).1 (wz ((bytesOf w).drop (w.size / 2))).2.1 (wz ((bytesOf w).drop (w.size / 2))).2.2.1 (wz ((bytesOf w).drop (w.size / 2))).2.2.2) (a, b, c, d, true) := by
    unfold impl_TimesMatrix.f
    rw [isMatrix_eq, isMatrix_eq, decide_eq_true m1, decide_eq_true m2]
    refine Ev.step (fun k => rfl) ?_
    simp only [impl_TimesMatrix.j0, Bool.not_true, Bool.false_eq_true, if_false, times_eq, Option.bind_some, checked_eq]
    rw [show ((wz ((bytesOf w).take (w.size / 2))).1, (wz ((bytesOf w).take (w.size / 2))).2.1, (wz ((bytesOf w).take (w.size / 2))).2.2.1, (wz ((bytesOf w).take (w.size / 2))).2.2.2) = wz ((bytesOf w).take (w.size / 2)) from rfl,
      show ((wz ((bytesOf w).drop (w.size / 2))).1, (wz ((bytesOf w).drop (w.size / 2))).2.1, (wz ((bytesOf w).drop (w.size / 2))).2.2.1, (wz ((bytesOf w).drop (w.size / 2))).2.2.2) = wz ((bytesOf w).drop (w.size / 2)) from rfl, hprod]
    unfold chk
    rw [if_pos h4]
    exact Ev.now _
  refine P.T.bind (Ev.T e3) (fun v hv => ?_)
  subst hv
  simp only [beq_self_eq_true, Bool.not_true, Bool.or_self, Bool.false_eq_true, if_false, if_true]
  exact wt_j2 l hl
theorem wt_j0 (l : List Int) (hl : Bytes l) (w : ByteArray) (a b c d : Int) (o : Bool) (h : mow w = (a, b, c, d, o)) : P.T (fun k => laws_FnWordsTold.j0 k l w o false a b c d) (· = true) := by
  refine P.T.step (fun k => rfl) ?_
  simp only [laws_FnWordsTold.j0, Bool.false_eq_true, if_false]
  refine P.T.ite (fun ho => ?_) (fun ho => wt_j2 l hl)
  subst ho
  obtain ⟨hw, n1, n2, n3, n4⟩ := mow_wom h
  have e := impl_wom a b c d
  rw [hw] at e
  refine P.T.bind (Ev.T e) (fun v hv => ?_)
  subst hv
  simp only [if_true]
  refine P.T.neg (by omega) (P.T.neg (by omega) (P.T.neg (by omega) ?_))
  rw [decide_eq_false (by omega)]
  exact wt_j1 l hl w a b c d h
theorem FnWordsTold : laws_FnWordsTold.Pure := by
  intro l0 l1 _ _ hb0 _ _ hb1
  have h0 := bytes_of hb0
  have h1 := bytes_of hb1
  refine P.T.rounds ?_
  unfold laws_FnWordsTold.f
  have hbig : ∃ b, laws_big.f l0 l1 = some b := by unfold laws_big.f; split <;> exact ⟨_, rfl⟩
  obtain ⟨b, hb⟩ := hbig
  rw [hb]
  refine P.T.some_bind ?_
  refine P.T.ite (fun _ => P.T.ret rfl) (fun _ => ?_)
  have hA : At 0 0 := ⟨by omega, by omega, by omega⟩
  have hdraw : P.T (fun k => spec_DrawMatrixOfWord.f k l0) (fun _ => True) := by
    unfold spec_DrawMatrixOfWord.f
    exact P.T.bind (word_T l0 h0 0 0 0 hA) (fun m _ => P.T.ret trivial)
  refine P.T.bind hdraw (fun w _ => ?_)
  refine P.T.bind (Ev.T (impl_mow w)) (fun v hv => ?_)
  subst hv
  refine P.T.bind (Ev.T (spec_mow w)) (fun v hv => ?_)
  subst hv
  simp only [bne_self_eq_false, Bool.false_eq_true, if_false, beq_self_eq_true, Bool.not_true, Bool.or_self]
  exact wt_j0 l1 h1 w _ _ _ _ _ rfl
end Go.Proofs.YtdclgghdilbheaaDoor.Pure

-- PRINTED BY print.sh 35421559b90ae4d0a3588c463048766b98c2df88dd9212a6774a882060cdf62d: not written by this session
-- PRINTED WORDS (module Derived/Print/Sized.lean): go-gate-2's, for the rows of laws over slices: an AI agent of Go's test side, Tue Nov 17 2026; no person has read it. Lean checks it.
namespace Go.Proofs.YtdclgghdilbheaaDoorW.PrintWords
open Go.ChangeShapes Go.WideShapes
/-- A row's slice of whole numbers is no longer than its weight allows. -/
theorem sized_ints {H : Type} {enc : TypeId × Value → H} {P : Program} {W : World} {base : Nat} {spare : Nat → Bool} {held : Bool} {t e : TypeId} {k : IntKind} {a : Option Addr} {len cap : Nat} {d : DataW H} {ps : List MemPlace} {ts : List TypeId} {ds : List (DataW H)} {j : Nat}
    (hsz : (DataW.weightsEach P ts ds).all (· ≤ reachBytes) = true) (ht : ts[j]? = some t) (hd : ds[j]? = some d) (hu : P.underlying t = some (.slice e)) (he : P.underlying e = some (.int k)) (hc : P.cellsOf e = 1) {B : Nat} (hB : P.bytesOf e = B)
    (h : DataW.Trod enc P W base spare held t (.slice a len cap) d ps) : len * B ≤ 140737488351232 := by
  obtain ⟨fuel, hf⟩ := h
  rcases open_ints hu he hc hf with ⟨hcs, _⟩ | ⟨x, l, c, zs, hcs, _, hl, _, hz, hx, _, _⟩
  · simp [Value.cells] at hcs
    obtain ⟨rfl, rfl, rfl⟩ := hcs
    simp
  · simp [Value.cells] at hcs
    obtain ⟨rfl, rfl, rfl⟩ := hcs
    obtain ⟨hx, _⟩ := Prod.mk.inj hx
    subst hx
    have z := sized_slice hsz ht hd hu
    rw [hB] at z
    have hl2 : len ≤ zs.length := by
      rw [hz]
      split
      · exact hl
      · exact Nat.le_refl _
    have h1 : (lits (H := H) k (zs.take len)).length + (lits (H := H) k (zs.drop len)).length = zs.length := by
      simp [lits]
      omega
    rw [h1] at z
    exact Nat.le_trans (Nat.mul_le_mul_right _ hl2) z
end Go.Proofs.YtdclgghdilbheaaDoorW.PrintWords

-- By a program of this session: the row of laws_FnWordsTold.
namespace Go.Proofs.YtdclgghdilbheaaDoor.fnWordsTold
open Go.ChangeShapes Go.WideShapes Go.ChangeAt Go.RowKit
open Go.ChangeMaps (open_string shut_string)
set_option linter.unusedVariables false
theorem own : ownKnob Tryd.prog.godebug = none := by kernel_rfl
theorem laidOut : laidOutB Tryd.prog = true := by kernel_rfl
def IsRow (k : IntKind) (w : World) (a : Option Addr) (len cap : Nat) (zs : List Int) : Prop :=
  (a = none ∧ len = 0 ∧ cap = 0 ∧ zs = []) ∨
  ∃ x, a = some x ∧ len ≤ cap ∧ cap ≤ maxLen ∧ zs.length = cap ∧ (∀ i, i < zs.length → w.cell? (x.add i) = some (.int k (zs.getD i 0))) ∧ ∀ n ∈ zs, (Lit.int k n).wf = true
set_option maxRecDepth 100000 in
theorem lifted (os : Os) (started : os.Started) (H : Type) (enc : TypeId × Value → H) :
    ReturnsInHanded {} Tryd.checked os 4 .any (fun w args => (Rows.fnWordsToldSpec.pre enc Tryd.prog Tryd.f4 Rows.fnWordsToldRow.domain false w args ∧ laidMetH Tryd.prog Rows.fnWordsToldRow.laid w) ∧ sizedMet enc Tryd.prog Tryd.f4 (OpenSpec.ofChange Rows.fnWordsToldSpec) false w args)
      (Rows.fnWordsToldSpec.post enc Tryd.prog Tryd.f4 false true false false) := by
  refine returnsInHanded_of_change_and (C := Tryd.checked) (X := fun w _ => laidMetH Tryd.prog Rows.fnWordsToldRow.laid w) (fun _ _ _ hh h => h.of_heap hh) own started (by kernel_rfl) Tryd.func4
    (ChangeSpec.witness_shaped (enc := enc) (C := Tryd.checked) (os := os) (X := fun w _ => laidMetH Tryd.prog Rows.fnWordsToldRow.laid w) false (World.laidAll Tryd.prog os Rows.fnWordsToldRow.laid) #[.slice none 0 0, .slice none 0 0] 8 (World.laidAll_os _ _ _)
      (World.shaped_of_ZipB (by kernel_rfl) (by kernel_rfl)) (by kernel_rfl) (by kernel_rfl) (by kernel_rfl)
      (by rw [MakeChecks.laidMetH_plain _ _ _ (by kernel_rfl)]; exact laidMet_laidAll _ (by kernel_rfl) (by kernel_rfl))) ?_
  intro W base args ds gs before hval0 hW hcnd hsz0 hL _
  have hsz : (DataW.weightsEach Tryd.prog (Tryd.f4.params.toList ++ Rows.fnWordsToldSpec.plain.varTypes Tryd.prog) (ds ++ gs)).all (· ≤ reachBytes) = true := hsz0
  have hval : ∀ (j : Nat) t v, Tryd.f4.params[j]? = some t → args[j]? = some v → Value.okWide Tryd.prog W .any base t v := hval0
  have hW' := hW
  obtain ⟨p, q, hA0, hV, rfl, hfz, hnd⟩ := hW
  have hA : DataW.TrodAll enc Tryd.prog W 0 (fun _ => true) true Tryd.f4.params.toList args.toList ds p := hA0
  rw [Tryd.params4] at hA hval hsz
  obtain ⟨v0, vs0, d0, ds0, p0, q0, hargs, rfl, rfl, h0, r0⟩ := trodAll_cons hA
  obtain ⟨v1, vs1, d1, ds1, p1, q1, rfl, rfl, rfl, h1, r1⟩ := trodAll_cons r0
  obtain ⟨rfl, rfl, rfl⟩ := trodAll_nil r1
  obtain rfl : args = #[v0, v1] := by cases args; simp_all
  obtain ⟨rfl, rfl⟩ := trodVars_none hV
  obtain ⟨a0, len0, cap0, rfl⟩ := okWide_slice Tryd.underlying32 (hval 0 32 v0 rfl rfl)
  have k0 := h0
  have lt0 : ∀ x ∈ p0, x.block < W.heap.size := by obtain ⟨m, hm⟩ := k0; exact DataW.trod_lt m _ _ _ hm
  obtain ⟨z0, w0⟩ : ∃ zs, IsRow .u8 W a0 len0 cap0 zs := by
    obtain ⟨fuel, hf⟩ := h0
    rcases open_ints Tryd.underlying32 Tryd.underlying5 (by kernel_rfl) hf with ⟨hcs, _⟩ | ⟨x, l, c, zs, hcs, _, hl, hm, hz, _, hcell, hwz⟩
    · simp [Value.cells] at hcs
      obtain ⟨rfl, rfl, rfl⟩ := hcs
      exact ⟨[], .inl ⟨rfl, rfl, rfl, rfl⟩⟩
    · simp [Value.cells] at hcs
      obtain ⟨rfl, rfl, rfl⟩ := hcs
      exact ⟨zs, .inr ⟨_, rfl, hl, hm, by simpa using hz, hcell, hwz⟩⟩
  have y0 : len0 * 1 ≤ 140737488351232 := Go.Proofs.YtdclgghdilbheaaDoorW.PrintWords.sized_ints hsz (j := 0) (t := 32) rfl rfl Tryd.underlying32 Tryd.underlying5 (by kernel_rfl) (by kernel_rfl) h0
  obtain ⟨a1, len1, cap1, rfl⟩ := okWide_slice Tryd.underlying32 (hval 1 32 v1 rfl rfl)
  have k1 := h1
  have lt1 : ∀ x ∈ p1, x.block < W.heap.size := by obtain ⟨m, hm⟩ := k1; exact DataW.trod_lt m _ _ _ hm
  obtain ⟨z1, w1⟩ : ∃ zs, IsRow .u8 W a1 len1 cap1 zs := by
    obtain ⟨fuel, hf⟩ := h1
    rcases open_ints Tryd.underlying32 Tryd.underlying5 (by kernel_rfl) hf with ⟨hcs, _⟩ | ⟨x, l, c, zs, hcs, _, hl, hm, hz, _, hcell, hwz⟩
    · simp [Value.cells] at hcs
      obtain ⟨rfl, rfl, rfl⟩ := hcs
      exact ⟨[], .inl ⟨rfl, rfl, rfl, rfl⟩⟩
    · simp [Value.cells] at hcs
      obtain ⟨rfl, rfl, rfl⟩ := hcs
      exact ⟨zs, .inr ⟨_, rfl, hl, hm, by simpa using hz, hcell, hwz⟩⟩
  have y1 : len1 * 1 ≤ 140737488351232 := Go.Proofs.YtdclgghdilbheaaDoorW.PrintWords.sized_ints hsz (j := 1) (t := 32) rfl rfl Tryd.underlying32 Tryd.underlying5 (by kernel_rfl) (by kernel_rfl) h1
  clear hA0 hval0 hsz0 hsz
  refine (P.laws_FnWordsTold.walk Pure.FnWordsTold a0 len0 cap0 z0 a1 len1 cap1 z1 W w0 y0 w1 y1).mono fun e W' ⟨he, bel⟩ => ?_
  subst he
  exact ⟨_, rfl, _, _, _, [], _, [], hW', trodAll_mk1 (shut_bool Tryd.underlying4 _), (trodAll_cons_mk (Below.trod laidOut (by kernel_rfl) (of_decide_eq_true (by kernel_rfl)) k0 bel lt0) (trodAll_cons_mk (Below.trod laidOut (by kernel_rfl) (of_decide_eq_true (by kernel_rfl)) k1 bel lt1) trodAll_mk0)), rfl, bel.frame _, fun h => by cases h⟩
theorem over : Rows.fnWordsToldRow.holds Tryd.pinned (OpenSpec.ofChange Rows.fnWordsToldSpec) :=
  OpenClaim.holds_of_wide 4 Tryd.f4 rfl rfl rfl rfl rfl rfl rfl ⟨rfl, rfl, rfl, rfl, rfl⟩ rfl rfl rfl rfl rfl (by kernel_rfl) Tryd.func4 (by kernel_rfl)
    (of_decide_eq_true (by kernel_rfl)) (by unfold Func.isWrapper; first | (rw [if_pos (by decide +kernel)]; kernel_rfl) | (rw [if_neg (by decide +kernel)]; exact ⟨rfl, rfl⟩))
    (fun os started H enc _ => lifted os started H enc)
theorem proved : Rows.FnWordsToldSaid := over
end Go.Proofs.YtdclgghdilbheaaDoor.fnWordsTold
namespace Go.Proofs.YtdclgghdilbheaaDoor
theorem fnWordsTold_holds : Rows.FnWordsToldCardSaid :=
  Claim7.holds_tied_plain_at .later [] [.data, .pinned] true (true, "d6de4e49925afa08cf9e3df908ddb61331563b87161b30ec64413b32a4c6a20d") false
    fnWordsTold.proved (fun _ h => by cases h) (by kernel_rfl) (fun _ h => by cases h) fnWordsTold_row_tie rfl ⟨rfl, rfl⟩ (by kernel_rfl) rfl
    (fun f fn hf hfn => by
      obtain rfl : f = 4 := Option.some.inj ((show Tryd.prog.funcNamed "loop.example/g01236/laws.FnWordsTold" = some 4 by kernel_rfl).symm.trans hf) |>.symm
      obtain rfl : fn = Tryd.f4 := (Option.some.inj (Tryd.func4.symm.trans hfn)).symm
      exact ⟨by kernel_rfl, fun j t ht => by
        have hm : t ∈ Tryd.f4.params.toList := by
          rw [Array.mem_toList_iff]; exact Array.mem_of_getElem? ht
        have hall : (Tryd.f4.params.toList.all fun u => !Tryd.prog.wantsStandIn u) = true := by kernel_rfl
        exact (show Tryd.prog.wantsStandIn t = false by simpa using List.all_eq_true.1 hall t hm)⟩)
    (by kernel_rfl)
end Go.Proofs.YtdclgghdilbheaaDoor

