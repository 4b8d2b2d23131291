/- Proof of FnWordsToldCardSaid, part 6 of 6: the texts DrawMx, PureFnWordsTold, LawFnWordsTold, joined by a program of this session. -/
import Derived.Test.YtdclgghdilbheaaDoorBLawFnWordsTold4
import Derived.Test.YtdclgghdilbheaaDoorBLawFnWordsTold1
import Derived.Test.YtdclgghdilbheaaDoorBLawFnWordsTold2
import Derived.Test.YtdclgghdilbheaaDoorBLawFnWordsTold3
import Derived.Test.YtdclgghdilbheaaDoorRows
import Derived.WalkKit
import Derived.ProofKit
import Derived.OpenShut
import Derived.ShutString
import Derived.ChangeOld
import Derived.SevenTiedAt
import Derived.Test.YtdclgghdilbheaaDoorCards
import Derived.Test.YtdclgghdilbheaaDoorTie
import Derived.LaidMore
import Derived.Lay
import Derived.Stop.Joined
import Derived.HandedShaped
import Derived.Below
import Derived.SizedLaws
import Derived.Test.YtdclgghdilbheaaDoorBLawFnWordsTold0
/- The draws of words, terms, matrices and fractions answer. -/
namespace Go.Proofs.YtdclgghdilbheaaDoor.P
open Go.RowKit Go.Proofs.YtdclgghdilbheaaDoorW.PrintWords Go.Proofs.YtdclgghdilbheaaDoorW.PrintLast Go.Proofs.YtdclgghdilbheaaDoorW.PrintMore
theorem Ev.T {α : Type} {g : Nat → Option α} {r : α} (h : Ev g r) : T g (fun x => x = r) := ⟨r, h, rfl⟩
theorem T.any {α : Type} {Q : α → Prop} {g : Nat → Option α} (h : T g Q) : T g (fun _ => True) := h.mono fun _ _ => trivial
theorem word_l1_T (l : List Int) (hl : Bytes l) : ∀ (d : Nat) (t : ByteArray) (a s : Int) (n : Nat), 42 - t.size ≤ d → t.size ≤ 60 → At a n → n + 4 * d + 4 ≤ 1000000000000 →
    T (fun k => spec_l1Cur_word.l1 k t l a s) fun r => Short r.1 60 ∧ At r.2.1 (n + 4 * d + 4) := by
  intro d
  induction d with
  | zero =>
    intro t a s n h1 h2 hA hn
    refine T.step (fun k => rfl) ?_
    simp only [spec_l1Cur_word.l1]
    refine T.bind (pick_T l hl a s 2 n hA) ?_
    rintro ⟨q, a1, s1⟩ ⟨⟨q0, q1, _⟩, hA1⟩
    dsimp only at q0 q1 hA1 ⊢
    have := q1 (by omega)
    rw [wrap64_id (x := 40 + q) (by omega) (by omega)]
    refine T.neg (by omega) ?_
    exact T.ret ⟨⟨h2, by omega⟩, hA1.mono (by omega) (by omega)⟩
  | succ d ih =>
    intro t a s n h1 h2 hA hn
    refine T.step (fun k => rfl) ?_
    simp only [spec_l1Cur_word.l1]
    refine T.bind (pick_T l hl a s 2 n hA) ?_
    rintro ⟨q, a1, s1⟩ ⟨⟨q0, q1, _⟩, hA1⟩
    dsimp only at q0 q1 hA1 ⊢
    have := q1 (by omega)
    rw [wrap64_id (x := 40 + q) (by omega) (by omega)]
    refine T.ite (fun c => ?_) (fun c => T.ret ⟨⟨h2, by omega⟩, hA1.mono (by omega) (by omega)⟩)
    refine T.bind (of_T l hl a1 s1 _ (n + 2) hA1 (by decide) (by decide)) ?_
    rintro ⟨w, a2, s2⟩ ⟨hw, hA2⟩
    dsimp only at hw hA2 ⊢
    have hsz : 1 ≤ w.size ∧ w.size ≤ 2 := by
      simp only [List.mem_cons, List.not_mem_nil, or_false] at hw
      rcases hw with rfl | rfl | rfl <;> decide
    refine T.pos (by omega) ?_
    refine (ih (t ++ w) a2 s2 (n + 2 + 2) (by rw [ByteArray.size_append]; omega) (by rw [ByteArray.size_append]; omega) hA2 (by omega)).mono ?_
    rintro ⟨r1, r2, r3⟩ ⟨g1, g2⟩
    exact ⟨g1, g2.mono (by omega) (by omega)⟩
theorem word_l0_T (l : List Int) (hl : Bytes l) : ∀ (d : Nat) (t : ByteArray) (m a s : Int) (n : Nat), m = d → t.size + d ≤ 20 → At a n → n + 2 * d + 300 ≤ 1000000000000 →
    T (fun k => spec_l1Cur_word.l0 k t m l a s) fun r => Short r.1 60 ∧ At r.2.1 (n + 2 * d + 300) := by
  intro d
  induction d with
  | zero =>
    intro t m a s n h1 h2 hA hn
    refine T.step (fun k => rfl) ?_
    simp only [spec_l1Cur_word.l0]
    refine T.neg (by omega) ?_
    refine T.bind (pick_T l hl a s 14 n hA) ?_
    rintro ⟨q, a1, s1⟩ ⟨⟨q0, q1, _⟩, hA1⟩
    dsimp only at q0 q1 hA1 ⊢
    refine T.ite (fun c => ?_) (fun c => T.ite (fun c2 => ?_) (fun c2 => ?_))
    · refine T.bind (spoilt_T l hl t _ a1 s1 (n + 2) 20 (by decide) (by decide) ⟨by omega, by omega⟩ (by omega) hA1) ?_
      rintro ⟨r1, r2, r3⟩ ⟨⟨g1, g2⟩, g3⟩
      exact T.ret ⟨(⟨by dsimp only at g1 ⊢; omega, by omega⟩ : Short r1 60), g3.mono (by omega) (by omega)⟩
    · refine (word_l1_T l hl 42 t a1 s1 (n + 2) (by omega) (by omega) hA1 (by omega)).mono ?_
      rintro ⟨r1, r2, r3⟩ ⟨g1, g2⟩
      exact ⟨g1, g2.mono (by omega) (by omega)⟩
    · exact T.ret ⟨(⟨by omega, by omega⟩ : Short t 60), hA1.mono (by omega) (by omega)⟩
  | succ d ih =>
    intro t m a s n h1 h2 hA hn
    refine T.step (fun k => rfl) ?_
    simp only [spec_l1Cur_word.l0]
    refine T.pos (by omega) ?_
    refine T.bind (of_T l hl a s _ n hA (by decide) (by decide)) ?_
    rintro ⟨w, a2, s2⟩ ⟨hw, hA2⟩
    dsimp only at hw hA2 ⊢
    have hsz : w.size = 1 := by
      simp only [List.mem_cons, List.not_mem_nil, or_false] at hw
      rcases hw with rfl | rfl <;> decide
    refine T.pos (by omega) ?_
    rw [wrap64_id (x := m - 1) (by omega) (by omega)]
    refine (ih (t ++ w) (m - 1) a2 s2 (n + 2) (by omega) (by rw [ByteArray.size_append]; omega) hA2 (by omega)).mono ?_
    rintro ⟨r1, r2, r3⟩ ⟨g1, g2⟩
    exact ⟨g1, g2.mono (by omega) (by omega)⟩
theorem word_T (l : List Int) (hl : Bytes l) (a s : Int) (n : Nat) (hA : At a n) (hn : n + 400 ≤ 1000000000000 := by omega) :
    T (fun k => spec_l1Cur_word.f k l a s) fun r => Short r.1 60 ∧ At r.2.1 (n + 400) := by
  refine T.bind (pick_T l hl a s 12 n hA) ?_
  rintro ⟨q, a1, s1⟩ ⟨⟨q0, q1, _⟩, hA1⟩
  dsimp only at q0 q1 hA1 ⊢
  have := q1 (by omega)
  refine (word_l0_T l hl q.toNat _ q a1 s1 (n + 2) (by omega) (by show (0 : Nat) + _ ≤ 20; omega) hA1 (by omega)).mono ?_
  rintro ⟨r1, r2, r3⟩ ⟨g1, g2⟩
  exact ⟨g1, g2.mono (by omega) (by omega)⟩
theorem terms_l2_T (l : List Int) : ∀ (d : Nat) (t : List Int) (a s : Int) (n : Nat), 10 - t.length ≤ d → t.length ≤ 60 → At a n →
    T (fun k => spec_l1Cur_terms.l2 k t l a s) fun r => r.1.length ≤ 60 ∧ At r.2.1 n := by
  intro d
  induction d with
  | zero =>
    intro t a s n h1 h2 hA
    refine T.step (fun k => rfl) ?_
    simp only [spec_l1Cur_terms.l2]
    exact T.neg (by omega) (T.ret ⟨h2, hA⟩)
  | succ d ih =>
    intro t a s n h1 h2 hA
    refine T.step (fun k => rfl) ?_
    simp only [spec_l1Cur_terms.l2]
    refine T.ite (fun c => T.pos (by omega) ?_) (fun c => T.ret ⟨h2, hA⟩)
    exact ih _ a s n (by simp; omega) (by simp; omega) hA
theorem terms_l1_T (l : List Int) (hl : Bytes l) : ∀ (d : Nat) (t : List Int) (a s : Int) (n : Nat), 12 - t.length ≤ d → t.length ≤ 60 → At a n → n + 2 * d + 2 ≤ 1000000000000 →
    T (fun k => spec_l1Cur_terms.l1 k t l a s) fun r => r.1.length ≤ 60 ∧ At r.2.1 (n + 2 * d + 2) := by
  intro d
  induction d with
  | zero =>
    intro t a s n h1 h2 hA hn
    refine T.step (fun k => rfl) ?_
    simp only [spec_l1Cur_terms.l1]
    refine T.bind (pick_T l hl a s 2 n hA) ?_
    rintro ⟨q, a1, s1⟩ ⟨⟨q0, q1, _⟩, hA1⟩
    dsimp only at q0 q1 hA1 ⊢
    have := q1 (by omega)
    rw [wrap64_id (x := 10 + q) (by omega) (by omega)]
    exact T.neg (by omega) (T.ret ⟨h2, hA1.mono (by omega) (by omega)⟩)
  | succ d ih =>
    intro t a s n h1 h2 hA hn
    refine T.step (fun k => rfl) ?_
    simp only [spec_l1Cur_terms.l1]
    refine T.bind (pick_T l hl a s 2 n hA) ?_
    rintro ⟨q, a1, s1⟩ ⟨⟨q0, q1, _⟩, hA1⟩
    dsimp only at q0 q1 hA1 ⊢
    have := q1 (by omega)
    rw [wrap64_id (x := 10 + q) (by omega) (by omega)]
    refine T.ite (fun c => T.pos (by omega) ?_) (fun c => T.ret ⟨h2, hA1.mono (by omega) (by omega)⟩)
    refine (ih _ a1 s1 (n + 2) (by simp; omega) (by simp; omega) hA1 (by omega)).mono ?_
    rintro ⟨r1, r2, r3⟩ ⟨g1, g2⟩
    exact ⟨g1, g2.mono (by omega) (by omega)⟩
theorem terms_l0_T (l : List Int) (hl : Bytes l) (lo hi : Int) (h3 : -1000 ≤ lo) (h4 : lo ≤ hi) (h5 : hi ≤ 1000) : ∀ (d : Nat) (t : List Int) (m a s : Int) (n : Nat), m = d → t.length + d ≤ 20 → At a n → n + 2 * d + 50 ≤ 1000000000000 →
    T (fun k => spec_l1Cur_terms.l0 k lo hi t m l a s) fun r => r.1.length ≤ 60 ∧ At r.2.1 (n + 2 * d + 50) := by
  intro d
  induction d with
  | zero =>
    intro t m a s n h1 h2 hA hn
    refine T.step (fun k => rfl) ?_
    simp only [spec_l1Cur_terms.l0]
    refine T.neg (by omega) ?_
    refine T.bind (pick_T l hl a s 14 n hA) ?_
    rintro ⟨q, a1, s1⟩ ⟨⟨q0, q1, _⟩, hA1⟩
    dsimp only at q0 q1 hA1 ⊢
    refine T.ite (fun c => ?_) (fun c => T.ite (fun c2 => ?_) (fun c2 => T.ite (fun c3 => ?_) (fun c3 => ?_)))
    · refine T.bind (among_T l hl a1 s1 _ (n + 2) hA1 (by decide) (by decide)) ?_
      rintro ⟨w, a2, s2⟩ ⟨hw, hA2⟩
      dsimp only at hw hA2 ⊢
      exact T.pos (by omega) (T.ret ⟨by simp; omega, hA2.mono (by omega) (by omega)⟩)
    · refine (terms_l1_T l hl 12 t a1 s1 (n + 2) (by omega) (by omega) hA1 (by omega)).mono ?_
      rintro ⟨r1, r2, r3⟩ ⟨g1, g2⟩
      exact ⟨g1, g2.mono (by omega) (by omega)⟩
    · refine (terms_l2_T l 10 t a1 s1 (n + 2) (by omega) (by omega) hA1).mono ?_
      rintro ⟨r1, r2, r3⟩ ⟨g1, g2⟩
      exact ⟨g1, g2.mono (by omega) (by omega)⟩
    · exact T.ret ⟨by dsimp only; omega, hA1.mono (by omega) (by omega)⟩
  | succ d ih =>
    intro t m a s n h1 h2 hA hn
    refine T.step (fun k => rfl) ?_
    simp only [spec_l1Cur_terms.l0]
    refine T.pos (by omega) ?_
    rw [wrap64_id (x := hi - lo) (by omega) (by omega), wrap64_id (x := hi - lo + 1) (by omega) (by omega), wrap64_id (x := m - 1) (by omega) (by omega)]
    refine T.bind (pick_T l hl a s (hi - lo + 1) n hA) ?_
    rintro ⟨q, a1, s1⟩ ⟨⟨q0, q1, _⟩, hA1⟩
    dsimp only at q0 q1 hA1 ⊢
    refine T.pos (by omega) ?_
    refine (ih _ (m - 1) a1 s1 (n + 2) (by omega) (by simp; omega) hA1 (by omega)).mono ?_
    rintro ⟨r1, r2, r3⟩ ⟨g1, g2⟩
    exact ⟨g1, g2.mono (by omega) (by omega)⟩
theorem terms_T (l : List Int) (hl : Bytes l) (a s lo hi : Int) (n : Nat) (h3 : -1000 ≤ lo) (h4 : lo ≤ hi) (h5 : hi ≤ 1000) (hA : At a n) (hn : n + 100 ≤ 1000000000000 := by omega) :
    T (fun k => spec_l1Cur_terms.f k l a s lo hi) fun r => r.1.length ≤ 60 ∧ At r.2.1 (n + 100) := by
  refine T.bind (pick_T l hl a s 8 n hA) ?_
  rintro ⟨q, a1, s1⟩ ⟨⟨q0, q1, _⟩, hA1⟩
  dsimp only at q0 q1 hA1 ⊢
  have := q1 (by omega)
  refine (terms_l0_T l hl lo hi h3 h4 h5 q.toNat [] q a1 s1 (n + 2) (by omega) (by simp; omega) hA1 (by omega)).mono ?_
  rintro ⟨r1, r2, r3⟩ ⟨g1, g2⟩
  exact ⟨g1, g2.mono (by omega) (by omega)⟩
theorem ctValue_l0_T (sg : Int) (l : List Int) (hl : l.length ≤ 1000000) : ∀ (d i : Nat) (p q : Int), l.length - i = d → i ≤ l.length → T (fun k => spec_ctValue.l0 k sg p q l (l.length : Int) (i : Int)) fun _ => True := by
  intro d
  induction d with
  | zero =>
    intro i p q h1 h2
    refine T.step (fun k => rfl) ?_
    simp only [spec_ctValue.l0]
    exact T.neg (by omega) (T.ret trivial)
  | succ d ih =>
    intro i p q h1 h2
    refine T.step (fun k => rfl) ?_
    simp only [spec_ctValue.l0]
    have hw : wrap64 ((i : Int) + 1) = ((i + 1 : Nat) : Int) := by rw [wrap64_id (by omega) (by omega)]; omega
    rw [hw]
    exact T.pos (by omega) (T.pos (by omega) (T.pos (by omega) (ih (i + 1) _ _ (by omega) (by omega))))
theorem ctValue_T (l : List Int) (sg : Int) (hl : l.length ≤ 1000000) : T (fun k => spec_ctValue.f k l sg) fun _ => True :=
  ctValue_l0_T sg l hl l.length 0 0 1 (by omega) (by omega)
theorem mxList_T (l : List Int) (hl : l.length ≤ 1000000) : T (fun k => spec_mxList.f k l) fun _ => True := by
  unfold spec_mxList.f
  refine T.ite (fun c => T.ret trivial) (fun c => ?_)
  rw [wrap64_id (x := (l.length : Int) - 1) (by omega) (by omega)]
  refine T.bind (ctValue_T l (-1) hl) (fun v1 _ => ?_)
  refine T.pos (by omega) (T.pos (by omega) ?_)
  refine T.bind (ctValue_T _ (-1) (by rw [List.length_take]; omega)) (fun v2 _ => ?_)
  refine T.pos (by omega) ?_
  refine T.bind (ctValue_T _ (-1) (by rw [List.length_drop]; omega)) (fun v3 _ => ?_)
  refine T.ite (fun c1 => ?_) (fun c1 => T.ret trivial)
  refine T.pos (by omega) ?_
  exact T.bind (ctValue_T _ (-1) (by rw [List.length_drop, List.length_take]; omega)) (fun v4 _ => T.ret trivial)
theorem ctGood_Ev (l : List Int) (hl : l.length ≤ 1000000) : Ev (fun k => spec_ctGood.f k l) (decide (l.length ≤ 10) && l.all fun x => decide (-30 ≤ x ∧ x ≤ 30)) := by
  unfold spec_ctGood.f
  by_cases h : l.length ≤ 10
  · refine Ev.congr (fun k => if_pos (by omega)) ?_
    rw [decide_eq_true h, Bool.true_and]
    exact Ev.bind (f := fun _ t => some t) (l1All_Ev (-30) 30 l (by omega)) (Ev.now _)
  · refine Ev.congr (fun k => if_neg (by omega)) ?_
    rw [decide_eq_false h, Bool.false_and]
    exact Ev.now _
theorem matrixOfList_T (l : List Int) (hl : l.length ≤ 1000000) : T (fun k => spec_MatrixOfList.f k l) fun _ => True := by
  unfold spec_MatrixOfList.f
  refine T.bind (Ev.T (ctGood_Ev l hl)) (fun t _ => ?_)
  refine T.ite (fun c => ?_) (fun c => T.ret trivial)
  refine T.bind (mxList_T l hl) (fun m _ => ?_)
  exact T.bind (Ev.T (mxIf_Ev _ _ _ _)) (fun m _ => T.ret trivial)
theorem matrix_j0_T (l : List Int) (hl : Bytes l) (x : Int) (b : Bool) (a s : Int) (n : Nat) (hA : At a n) (hn : n + 450 ≤ 1000000000000 := by omega) :
    T (fun k => spec_l1Cur_matrix.j0 k x b l a s) fun r => At r.2.2.2.2.1 (n + 450) := by
  refine T.step (fun k => rfl) ?_
  simp only [spec_l1Cur_matrix.j0]
  refine T.ite (fun c => ?_) (fun c => T.ite (fun c2 => ?_) (fun c2 => T.ite (fun c3 => T.ret (hA.mono (by omega) (by omega))) (fun c3 => ?_)))
  · refine T.bind (word_T l hl a s n hA) ?_
    rintro ⟨w, a1, s1⟩ ⟨hw, hA1⟩
    exact T.bind (Ev.T (spec_mow w)) (fun m _ => T.ret (hA1.mono (by omega) (by omega)))
  · refine T.some_bind ?_
    refine T.bind (pick_T l hl a s 6 n hA) ?_
    rintro ⟨q, a1, s1⟩ ⟨⟨q0, q1, _⟩, hA1⟩
    dsimp only at q0 q1 hA1 ⊢
    exact T.pos q0 (T.pos (q1 (by omega)) (T.ret (hA1.mono (by omega) (by omega))))
  · refine T.bind (terms_T l hl a s (-2) 4 n (by omega) (by omega) (by omega) hA) ?_
    rintro ⟨w, a1, s1⟩ ⟨hw, hA1⟩
    exact T.bind (matrixOfList_T w (by dsimp only at hw; omega)) (fun m _ => T.ret (hA1.mono (by omega) (by omega)))
theorem matrix_T (l : List Int) (hl : Bytes l) (a s : Int) (n : Nat) (hA : At a n) (hn : n + 500 ≤ 1000000000000 := by omega) :
    T (fun k => spec_l1Cur_matrix.f k l a s) fun r => At r.2.2.2.2.1 (n + 500) := by
  unfold spec_l1Cur_matrix.f
  refine T.bind (pick_T l hl a s 10 n hA) ?_
  rintro ⟨q, a1, s1⟩ ⟨⟨q0, q1, _⟩, hA1⟩
  dsimp only at q0 q1 hA1 ⊢
  have fin : ∀ x b, T (fun k => spec_l1Cur_matrix.j0 k x b l a1 s1) fun r => At r.2.2.2.2.1 (n + 500) := fun x b =>
    (matrix_j0_T l hl x b a1 s1 (n + 2) hA1).mono fun r h => h.mono (by omega) (by omega)
  refine T.ite (fun c => ?_) (fun c => T.ite (fun c2 => fin _ _) (fun c2 => T.ite (fun c3 => fin _ _) (fun c3 => fin _ _)))
  refine T.bind (among_T l hl a1 s1 _ (n + 2) hA1 (by decide) (by decide)) ?_
  rintro ⟨w2, a2, s2⟩ ⟨_, hA2⟩
  refine T.bind (among_T l hl a2 s2 _ _ hA2 (by decide) (by decide)) ?_
  rintro ⟨w3, a3, s3⟩ ⟨_, hA3⟩
  refine T.bind (among_T l hl a3 s3 _ _ hA3 (by decide) (by decide)) ?_
  rintro ⟨w4, a4, s4⟩ ⟨_, hA4⟩
  refine T.bind (among_T l hl a4 s4 _ _ hA4 (by decide) (by decide)) ?_
  rintro ⟨w5, a5, s5⟩ ⟨_, hA5⟩
  exact T.ret (hA5.mono (by omega) (by omega))
theorem fraction_l0_T (l : List Int) (hl : Bytes l) : ∀ (d : Nat) (m a s p q u v : Int) (n : Nat), m = d → d ≤ 100 → At a n → n + 2 * d ≤ 1000000000000 →
    T (fun k => spec_l1Cur_fraction.l0 k m l a s p q u v) fun r => At r.2.2.1 (n + 2 * d) := by
  intro d
  induction d with
  | zero =>
    intro m a s p q u v n h1 h2 hA hn
    refine T.step (fun k => rfl) ?_
    simp only [spec_l1Cur_fraction.l0]
    exact T.neg (by omega) (T.ret (hA.mono (by omega) (by omega)))
  | succ d ih =>
    intro m a s p q u v n h1 h2 hA hn
    refine T.step (fun k => rfl) ?_
    simp only [spec_l1Cur_fraction.l0]
    refine T.pos (by omega) ?_
    refine T.bind (T.of_eq (Q := fun _ => True) rfl trivial) (fun m1 _ => ?_)
    refine T.bind (one_T l hl a s 2 n hA) ?_
    rintro ⟨b, a1, s1⟩ hA1
    dsimp only at hA1 ⊢
    rw [wrap64_id (x := m - 1) (by omega) (by omega)]
    refine T.ite (fun c => ?_) (fun c => ?_)
    · exact (ih (m - 1) a1 s1 _ _ _ _ (n + 2) (by omega) (by omega) hA1 (by omega)).mono fun r h => h.mono (by omega) (by omega)
    · exact (ih (m - 1) a1 s1 _ _ _ _ (n + 2) (by omega) (by omega) hA1 (by omega)).mono fun r h => h.mono (by omega) (by omega)
theorem fraction_T (l : List Int) (hl : Bytes l) (a s : Int) (n : Nat) (hA : At a n) (hn : n + 50 ≤ 1000000000000 := by omega) :
    T (fun k => spec_l1Cur_fraction.f k l a s) fun r => At r.2.2.1 (n + 50) := by
  unfold spec_l1Cur_fraction.f
  refine T.bind (one_T l hl a s 10 n hA) ?_
  rintro ⟨b, a1, s1⟩ hA1
  dsimp only at hA1 ⊢
  refine T.ite (fun c => ?_) (fun c => ?_)
  · refine T.bind (among_T l hl a1 s1 _ (n + 2) hA1 (by decide) (by decide)) ?_
    rintro ⟨w2, a2, s2⟩ ⟨_, hA2⟩
    refine T.bind (among_T l hl a2 s2 _ _ hA2 (by decide) (by decide)) ?_
    rintro ⟨w3, a3, s3⟩ ⟨_, hA3⟩
    exact T.ret (hA3.mono (by omega) (by omega))
  · refine T.bind (pick_T l hl a1 s1 8 _ hA1) ?_
    rintro ⟨q, a2, s2⟩ ⟨⟨q0, q1, _⟩, hA2⟩
    dsimp only at q0 q1 hA2 ⊢
    have := q1 (by omega)
    exact (fraction_l0_T l hl q.toNat q a2 s2 _ _ _ _ (n + 2 + 2) (by omega) (by omega) hA2 (by omega)).mono fun r h => h.mono (by omega) (by omega)
end Go.Proofs.YtdclgghdilbheaaDoor.P

/- The law FnWordsTold over numbers and lists: words tell matrices and are told by them, fractions are moved as products tell. -/
namespace Go.Proofs.YtdclgghdilbheaaDoor.Pure
set_option linter.unusedVariables false
set_option linter.unusedSimpArgs false
open Go.RowKit Go.Proofs.YtdclgghdilbheaaDoor.P Go.Proofs.YtdclgghdilbheaaDoorW.PrintWords Go.Proofs.YtdclgghdilbheaaDoorW.PrintLast Go.Proofs.YtdclgghdilbheaaDoorW.PrintMore
theorem wt_j6 {a b c d n e x y : Int} (h : mvf a b c d n e = (x, y, true)) (t : Bool) (h0 : t = true → 0 ≤ x ∧ x ≤ 1000000 ∧ y ≤ 1000000) : P.T (fun k => laws_FnWordsTold.j6 k x y t a b c d n e) (· = true) := by
  obtain ⟨hM, _, _, h4⟩ := moved h
  refine P.T.step (fun k => rfl) ?_
  simp only [laws_FnWordsTold.j6]
  refine P.T.ite (fun ht => ?_) (fun ht => P.T.ret rfl)
  obtain ⟨g1, g2, g3⟩ := h0 ht
  obtain ⟨hF, hm⟩ := h4 g1 g2 g3
  rw [inverse_eq, if_pos hM]
  refine P.T.some_bind ?_
  have hb := hM.2.1
  have hc := hM.2.2.1
  unfold ent at hb hc
  rw [wrap64_id (x := -b) (by omega) (by omega), wrap64_id (x := -c) (by omega) (by omega)]
  have e1 := impl_mvf d (-b) (-c) a x y
  rw [hm] at e1
  refine P.T.bind (Ev.T e1) (fun v hv => ?_)
  subst hv
  refine P.T.bind (Ev.T (isF_Ev x y)) (fun v hv => ?_)
  subst hv
  rw [decide_eq_true hF]
  simp only [if_true]
  exact P.T.ret rfl
theorem wt_j4 (a b c d n e x y : Int) (o : Bool) (h : mvf a b c d n e = (x, y, o)) : P.T (fun k => laws_FnWordsTold.j4 k x y o a b c d n e) (· = true) := by
  refine P.T.step (fun k => rfl) ?_
  simp only [laws_FnWordsTold.j4]
  refine P.T.ite (fun ho => ?_) (fun ho => P.T.ret rfl)
  subst ho
  obtain ⟨hM, h1, h2, _⟩ := moved h
  refine P.T.neg h1 ?_
  have five : P.T (fun k => laws_FnWordsTold.j5 k x y false a b c d n e) (· = true) := by
    refine P.T.step (fun k => rfl) ?_
    simp only [laws_FnWordsTold.j5, Bool.false_eq_true, if_false]
    refine P.T.ite (fun c1 => P.T.ite (fun c2 => ?_) (fun c2 => ?_)) (fun c1 => ?_)
    · exact wt_j6 h _ (fun h => ⟨c1, c2, of_decide_eq_true h⟩)
    · exact wt_j6 h _ (fun h => by cases h)
    · exact wt_j6 h _ (fun h => by cases h)
  refine P.T.ite (fun c1 => ?_) (fun c1 => five)
  have : (x != 1) = false := by rw [h2 c1]; rfl
  rw [this]
  exact five
theorem bytes_LR {w : List Int} (h : LR w) : bytesOf (strOfNums w) = w := by
  unfold bytesOf strOfNums
  rw [List.map_map]
  conv => rhs; rw [← List.map_id w]
  refine List.map_congr_left fun c hc => ?_
  rcases h c hc with rfl | rfl <;> rfl
theorem strOf_bytes (s : ByteArray) : strOfNums (bytesOf s) = s := by
  apply ByteArray.ext
  unfold bytesOf strOfNums
  rw [List.map_map]
  have : (fun n : Int => UInt8.ofNat n.toNat) ∘ (fun b : UInt8 => (b.toNat : Int)) = id := by funext b; simp
  rw [this, List.map_id]
theorem mow_of {w : List Int} (h : LR w) (hl : w.length ≤ 40) : mow (strOfNums w) = chk (wz w) := by
  unfold mow
  have e := bytes_LR h
  rw [if_pos (by rw [strOfNums_size]; exact hl), if_pos ((bytesOf_lr _).2 (by rw [e]; exact h)), e, wordM_I w (by omega)]
theorem mow_true {s : ByteArray} {a b c d : Int} (h : mow s = (a, b, c, d, true)) : LR (bytesOf s) ∧ (bytesOf s).length ≤ 40 ∧ wz (bytesOf s) = (a, b, c, d) ∧ IsM a b c d := by
  unfold mow at h
  by_cases h1 : s.size ≤ 40
  · rw [if_pos h1] at h
    by_cases h2 : lr s.data.toList = true
    · rw [if_pos h2] at h
      have hl : (bytesOf s).length ≤ 40 := by rw [bytesOf_length]; exact h1
      rw [wordM_I _ (by omega)] at h
      unfold chk at h
      split at h
      · rename_i hM
        simp only [Prod.mk.injEq, and_true] at h
        obtain ⟨rfl, rfl, rfl, rfl⟩ := h
        exact ⟨(bytesOf_lr s).1 h2, hl, rfl, hM⟩
      · cases h
    · rw [if_neg h2] at h; cases h
  · rw [if_neg h1] at h; cases h
theorem wom_true {a b c d : Int} {t : ByteArray} (h : wom a b c d = (t, true)) : mow t = (a, b, c, d, true) := by
  unfold wom at h
  by_cases hc : IsM a b c d ∧ 0 ≤ a ∧ 0 ≤ b ∧ 0 ≤ c ∧ 0 ≤ d
  · rw [if_pos hc] at h
    cases hw : wo 40 (a, b, c, d) with
    | none => rw [hw] at h; cases h
    | some w =>
      rw [hw] at h
      simp only [wres, List.nil_append, Prod.mk.injEq, and_true] at h
      obtain ⟨e1, e2, e3⟩ := wz_wo 40 _ w hw
      rw [← h, mow_of e2 e3, e1]
      unfold chk
      rw [if_pos hc.1]
  · rw [if_neg hc] at h; cases h
theorem mow_wom {s : ByteArray} {a b c d : Int} (h : mow s = (a, b, c, d, true)) : wom a b c d = (s, true) ∧ 0 ≤ a ∧ 0 ≤ b ∧ 0 ≤ c ∧ 0 ≤ d := by
  obtain ⟨h1, h2, h3, h4⟩ := mow_true h
  have hN := (wz_bd (bytesOf s)).1
  rw [h3] at hN
  refine ⟨?_, hN⟩
  unfold wom
  rw [if_pos ⟨h4, hN⟩, ← h3, wo_wz _ 40 h1 h2]
  simp only [wres, List.nil_append, strOf_bytes]
theorem wt_j3 (a b c d : Int) (told : ByteArray) (one : Bool) (h : wom a b c d = (told, one)) (p q r s n e x y : Int) (o : Bool) (h2 : mvf p q r s n e = (x, y, o)) :
    P.T (fun k => laws_FnWordsTold.j3 k told one x y o false a b c d p q r s n e) (· = true) := by
  refine P.T.step (fun k => rfl) ?_
  simp only [laws_FnWordsTold.j3, Bool.false_eq_true, if_false]
  refine P.T.ite (fun ho => ?_) (fun ho => wt_j4 _ _ _ _ _ _ _ _ _ h2)
  subst ho
  have e := impl_mow told
  rw [wom_true h] at e
  refine P.T.bind (Ev.T e) (fun v hv => ?_)
  subst hv
  simp only [beq_self_eq_true, Bool.not_true, Bool.or_self, Bool.false_eq_true, if_false, if_true]
  exact wt_j4 _ _ _ _ _ _ _ _ _ h2
theorem wt_j2 (l : List Int) (hl : Bytes l) : P.T (fun k => laws_FnWordsTold.j2 k l) (· = true) := by
  refine P.T.step (fun k => rfl) ?_
  simp only [laws_FnWordsTold.j2]
  have hA : At 0 0 := ⟨by omega, by omega, by omega⟩
  have hdraw : P.T (fun k => spec_DrawWordOfMatrix.f k l) (fun _ => True) := by
    unfold spec_DrawWordOfMatrix.f spec_DrawIsMatrix.f
    have h1 : P.T (fun k => (spec_l1Cur_matrix.f k l 0 0).bind fun bt => some (bt.1, bt.2.1, bt.2.2.1, bt.2.2.2.1)) (fun _ => True) := P.T.bind (matrix_T l hl 0 0 0 hA) (fun m _ => P.T.ret trivial)
    exact P.T.bind h1 (fun m _ => P.T.ret trivial)
  refine P.T.bind hdraw ?_
  rintro ⟨a, b, c, d⟩ _
  refine P.T.bind (Ev.T (impl_wom a b c d)) (fun v hv => ?_)
  subst hv
  refine P.T.bind (Ev.T (spec_wom a b c d)) (fun v hv => ?_)
  subst hv
  have hdraw2 : P.T (fun k => spec_DrawMoveFraction.f k l) (fun _ => True) := by
    unfold spec_DrawMoveFraction.f
    refine P.T.bind (matrix_T l hl 0 0 0 hA) ?_
    rintro ⟨m1, m2, m3, m4, a1, s1⟩ hA1
    exact P.T.bind (fraction_T l hl a1 s1 _ hA1) (fun m _ => P.T.ret trivial)
  refine P.T.bind hdraw2 ?_
  rintro ⟨p, q, r, s, n, e⟩ _
  refine P.T.bind (Ev.T (impl_mvf p q r s n e)) (fun v hv => ?_)
  subst hv
  refine P.T.bind (Ev.T (spec_mvf p q r s n e)) (fun v hv => ?_)
  subst hv
  simp only [bne_self_eq_false, Bool.false_eq_true, if_false, if_true]
  exact wt_j3 a b c d _ _ rfl p q r s n e _ _ _ rfl
theorem bytes_take (s : ByteArray) (h : Nat) (_hh : h ≤ s.size) : bytesOf (s.extract 0 h) = (bytesOf s).take h := by
  unfold bytesOf
  rw [← List.map_take]
  congr 1
  simp [ByteArray.data_extract]
theorem bytes_drop (s : ByteArray) (h : Nat) (_hh : h ≤ s.size) : bytesOf (s.extract h s.size) = (bytesOf s).drop h := by
  unfold bytesOf
  rw [← List.map_drop]
  congr 1
  simp [ByteArray.data_extract]
  exact List.take_of_length_le (by rw [List.length_drop, data_length]; omega)
theorem wt_j1 (l : List Int) (hl : Bytes l) (w : ByteArray) (a b c d : Int) (h : mow w = (a, b, c, d, true)) : P.T (fun k => laws_FnWordsTold.j1 k l w false a b c d) (· = true) := by
  obtain ⟨h1, h2, h3, h4⟩ := mow_true h
  rw [bytesOf_length] at h2
  refine P.T.step (fun k => rfl) ?_
  simp only [laws_FnWordsTold.j1, Bool.false_eq_true, if_false]
  rw [wrap64_id (x := (w.size : Int) / 2) (by omega) (by omega)]
  have ht : ((w.size : Int) / 2).toNat = w.size / 2 := by omega
  rw [ht]
  refine P.T.pos (by omega) (P.T.pos (by omega) ?_)
  have half : ∀ v : ByteArray, LR (bytesOf v) → (bytesOf v).length ≤ 29 → mow v = ((wz (bytesOf v)).1, (wz (bytesOf v)).2.1, (wz (bytesOf v)).2.2.1, (wz (bytesOf v)).2.2.2, true) := fun v k1 k2 => by
    have := mow_of k1 (by omega)
    rw [strOf_bytes] at this
    rw [this]
    unfold chk
    rw [if_pos (isM_wz _ k2)]
  have b1 := bytes_take w (w.size / 2) (by omega)
  have b2 := bytes_drop w (w.size / 2) (by omega)
  have hlen := bytesOf_length w
  have e1 := impl_mow (w.extract 0 (w.size / 2))
  rw [half _ (by rw [b1]; exact fun c hc => h1 c (List.mem_of_mem_take hc)) (by rw [b1, List.length_take]; omega), b1] at e1
  refine P.T.bind (Ev.T e1) (fun v hv => ?_)
  subst hv
  have e2 := impl_mow (w.extract (w.size / 2) w.size)
  rw [half _ (by rw [b2]; exact fun c hc => h1 c (List.mem_of_mem_drop hc)) (by rw [b2, List.length_drop]; omega), b2] at e2
  refine P.T.bind (Ev.T e2) (fun v hv => ?_)
  subst hv
  have m1 := isM_wz ((bytesOf w).take (w.size / 2)) (by rw [List.length_take]; omega)
  have m2 := isM_wz ((bytesOf w).drop (w.size / 2)) (by rw [List.length_drop]; omega)
  have d1 := (wz_bd ((bytesOf w).take (w.size / 2))).2.1
  have d2 := (wz_bd ((bytesOf w).drop (w.size / 2))).2.1
  have hprod : tm (wz ((bytesOf w).take (w.size / 2))) (wz ((bytesOf w).drop (w.size / 2))) = (a, b, c, d) := by
    have p1 : 2 ^ ((bytesOf w).take (w.size / 2)).length ≤ 2 ^ 29 := Nat.pow_le_pow_right (by decide) (by rw [List.length_take]; omega)
    have p2 : 2 ^ ((bytesOf w).drop (w.size / 2)).length ≤ 2 ^ 29 := Nat.pow_le_pow_right (by decide) (by rw [List.length_drop]; omega)
    have p3 := Nat.mul_le_mul p1 p2
    rw [(tm_mm d1 d2 (by omega)).1, ← wz_append, List.take_append_drop, h3]
  have e3 : Ev (fun k => impl_TimesMatrix.f k (wz ((bytesOf w).take (w.size / 2))).1 (wz ((bytesOf w).take (w.size / 2))).2.1 (wz ((bytesOf w).take (w.size / 2))).2.2.1 (wz ((bytesOf w).take (w.size / 2))).2.2.2 (wz ((bytesOf w).drop (w.size / 2))).1 (wz ((bytesOf w).drop (w.size / 2))).2.1 (wz ((bytesOf w).drop (w.size / 2))).2.2.1 (wz ((bytesOf w).drop (w.size / 2))).2.2.2) (a, b, c, d, true) := by
    unfold impl_TimesMatrix.f
    rw [isMatrix_eq, isMatrix_eq, decide_eq_true m1, decide_eq_true m2]
    refine Ev.step (fun k => rfl) ?_
    simp only [impl_TimesMatrix.j0, Bool.not_true, Bool.false_eq_true, if_false, times_eq, Option.bind_some, checked_eq]
    rw [show ((wz ((bytesOf w).take (w.size / 2))).1, (wz ((bytesOf w).take (w.size / 2))).2.1, (wz ((bytesOf w).take (w.size / 2))).2.2.1, (wz ((bytesOf w).take (w.size / 2))).2.2.2) = wz ((bytesOf w).take (w.size / 2)) from rfl,
      show ((wz ((bytesOf w).drop (w.size / 2))).1, (wz ((bytesOf w).drop (w.size / 2))).2.1, (wz ((bytesOf w).drop (w.size / 2))).2.2.1, (wz ((bytesOf w).drop (w.size / 2))).2.2.2) = wz ((bytesOf w).drop (w.size / 2)) from rfl, hprod]
    unfold chk
    rw [if_pos h4]
    exact Ev.now _
  refine P.T.bind (Ev.T e3) (fun v hv => ?_)
  subst hv
  simp only [beq_self_eq_true, Bool.not_true, Bool.or_self, Bool.false_eq_true, if_false, if_true]
  exact wt_j2 l hl
theorem wt_j0 (l : List Int) (hl : Bytes l) (w : ByteArray) (a b c d : Int) (o : Bool) (h : mow w = (a, b, c, d, o)) : P.T (fun k => laws_FnWordsTold.j0 k l w o false a b c d) (· = true) := by
  refine P.T.step (fun k => rfl) ?_
  simp only [laws_FnWordsTold.j0, Bool.false_eq_true, if_false]
  refine P.T.ite (fun ho => ?_) (fun ho => wt_j2 l hl)
  subst ho
  obtain ⟨hw, n1, n2, n3, n4⟩ := mow_wom h
  have e := impl_wom a b c d
  rw [hw] at e
  refine P.T.bind (Ev.T e) (fun v hv => ?_)
  subst hv
  simp only [if_true]
  refine P.T.neg (by omega) (P.T.neg (by omega) (P.T.neg (by omega) ?_))
  rw [decide_eq_false (by omega)]
  exact wt_j1 l hl w a b c d h
theorem FnWordsTold : laws_FnWordsTold.Pure := by
  intro l0 l1 _ _ hb0 _ _ hb1
  have h0 := bytes_of hb0
  have h1 := bytes_of hb1
  refine P.T.rounds ?_
  unfold laws_FnWordsTold.f
  have hbig : ∃ b, laws_big.f l0 l1 = some b := by unfold laws_big.f; split <;> exact ⟨_, rfl⟩
  obtain ⟨b, hb⟩ := hbig
  rw [hb]
  refine P.T.some_bind ?_
  refine P.T.ite (fun _ => P.T.ret rfl) (fun _ => ?_)
  have hA : At 0 0 := ⟨by omega, by omega, by omega⟩
  have hdraw : P.T (fun k => spec_DrawMatrixOfWord.f k l0) (fun _ => True) := by
    unfold spec_DrawMatrixOfWord.f
    exact P.T.bind (word_T l0 h0 0 0 0 hA) (fun m _ => P.T.ret trivial)
  refine P.T.bind hdraw (fun w _ => ?_)
  refine P.T.bind (Ev.T (impl_mow w)) (fun v hv => ?_)
  subst hv
  refine P.T.bind (Ev.T (spec_mow w)) (fun v hv => ?_)
  subst hv
  simp only [bne_self_eq_false, Bool.false_eq_true, if_false, beq_self_eq_true, Bool.not_true, Bool.or_self]
  exact wt_j0 l1 h1 w _ _ _ _ _ rfl
end Go.Proofs.YtdclgghdilbheaaDoor.Pure

-- By a program of this session: the row of laws_FnWordsTold.
namespace Go.Proofs.YtdclgghdilbheaaDoor.fnWordsTold
open Go.ChangeShapes Go.WideShapes Go.ChangeAt Go.RowKit
open Go.ChangeMaps (open_string shut_string)
set_option linter.unusedVariables false
theorem own : ownKnob Tryd.prog.godebug = none := by kernel_rfl
theorem laidOut : laidOutB Tryd.prog = true := by kernel_rfl
def IsRow (k : IntKind) (w : World) (a : Option Addr) (len cap : Nat) (zs : List Int) : Prop :=
  (a = none ∧ len = 0 ∧ cap = 0 ∧ zs = []) ∨
  ∃ x, a = some x ∧ len ≤ cap ∧ cap ≤ maxLen ∧ zs.length = cap ∧ (∀ i, i < zs.length → w.cell? (x.add i) = some (.int k (zs.getD i 0))) ∧ ∀ n ∈ zs, (Lit.int k n).wf = true
set_option maxRecDepth 100000 in
theorem lifted (os : Os) (started : os.Started) (H : Type) (enc : TypeId × Value → H) :
    ReturnsInHanded {} Tryd.checked os 4 .any (fun w args => (Rows.fnWordsToldSpec.pre enc Tryd.prog Tryd.f4 Rows.fnWordsToldRow.domain false w args ∧ laidMetH Tryd.prog Rows.fnWordsToldRow.laid w) ∧ sizedMet enc Tryd.prog Tryd.f4 (OpenSpec.ofChange Rows.fnWordsToldSpec) false w args)
      (Rows.fnWordsToldSpec.post enc Tryd.prog Tryd.f4 false true false false) := by
  refine returnsInHanded_of_change_and (C := Tryd.checked) (X := fun w _ => laidMetH Tryd.prog Rows.fnWordsToldRow.laid w) (fun _ _ _ hh h => h.of_heap hh) own started (by kernel_rfl) Tryd.func4
    (ChangeSpec.witness_shaped (enc := enc) (C := Tryd.checked) (os := os) (X := fun w _ => laidMetH Tryd.prog Rows.fnWordsToldRow.laid w) false (World.laidAll Tryd.prog os Rows.fnWordsToldRow.laid) #[.slice none 0 0, .slice none 0 0] 8 (World.laidAll_os _ _ _)
      (World.shaped_of_ZipB (by kernel_rfl) (by kernel_rfl)) (by kernel_rfl) (by kernel_rfl) (by kernel_rfl)
      (by rw [MakeChecks.laidMetH_plain _ _ _ (by kernel_rfl)]; exact laidMet_laidAll _ (by kernel_rfl) (by kernel_rfl))) ?_
  intro W base args ds gs before hval0 hW hcnd hsz0 hL _
  have hsz : (DataW.weightsEach Tryd.prog (Tryd.f4.params.toList ++ Rows.fnWordsToldSpec.plain.varTypes Tryd.prog) (ds ++ gs)).all (· ≤ reachBytes) = true := hsz0
  have hval : ∀ (j : Nat) t v, Tryd.f4.params[j]? = some t → args[j]? = some v → Value.okWide Tryd.prog W .any base t v := hval0
  have hW' := hW
  obtain ⟨p, q, hA0, hV, rfl, hfz, hnd⟩ := hW
  have hA : DataW.TrodAll enc Tryd.prog W 0 (fun _ => true) true Tryd.f4.params.toList args.toList ds p := hA0
  rw [Tryd.params4] at hA hval hsz
  obtain ⟨v0, vs0, d0, ds0, p0, q0, hargs, rfl, rfl, h0, r0⟩ := trodAll_cons hA
  obtain ⟨v1, vs1, d1, ds1, p1, q1, rfl, rfl, rfl, h1, r1⟩ := trodAll_cons r0
  obtain ⟨rfl, rfl, rfl⟩ := trodAll_nil r1
  obtain rfl : args = #[v0, v1] := by cases args; simp_all
  obtain ⟨rfl, rfl⟩ := trodVars_none hV
  obtain ⟨a0, len0, cap0, rfl⟩ := okWide_slice Tryd.underlying32 (hval 0 32 v0 rfl rfl)
  have k0 := h0
  have lt0 : ∀ x ∈ p0, x.block < W.heap.size := by obtain ⟨m, hm⟩ := k0; exact DataW.trod_lt m _ _ _ hm
  obtain ⟨z0, w0⟩ : ∃ zs, IsRow .u8 W a0 len0 cap0 zs := by
    obtain ⟨fuel, hf⟩ := h0
    rcases open_ints Tryd.underlying32 Tryd.underlying5 (by kernel_rfl) hf with ⟨hcs, _⟩ | ⟨x, l, c, zs, hcs, _, hl, hm, hz, _, hcell, hwz⟩
    · simp [Value.cells] at hcs
      obtain ⟨rfl, rfl, rfl⟩ := hcs
      exact ⟨[], .inl ⟨rfl, rfl, rfl, rfl⟩⟩
    · simp [Value.cells] at hcs
      obtain ⟨rfl, rfl, rfl⟩ := hcs
      exact ⟨zs, .inr ⟨_, rfl, hl, hm, by simpa using hz, hcell, hwz⟩⟩
  have y0 : len0 * 1 ≤ 140737488351232 := Go.Proofs.YtdclgghdilbheaaDoorW.PrintWords.sized_ints hsz (j := 0) (t := 32) rfl rfl Tryd.underlying32 Tryd.underlying5 (by kernel_rfl) (by kernel_rfl) h0
  obtain ⟨a1, len1, cap1, rfl⟩ := okWide_slice Tryd.underlying32 (hval 1 32 v1 rfl rfl)
  have k1 := h1
  have lt1 : ∀ x ∈ p1, x.block < W.heap.size := by obtain ⟨m, hm⟩ := k1; exact DataW.trod_lt m _ _ _ hm
  obtain ⟨z1, w1⟩ : ∃ zs, IsRow .u8 W a1 len1 cap1 zs := by
    obtain ⟨fuel, hf⟩ := h1
    rcases open_ints Tryd.underlying32 Tryd.underlying5 (by kernel_rfl) hf with ⟨hcs, _⟩ | ⟨x, l, c, zs, hcs, _, hl, hm, hz, _, hcell, hwz⟩
    · simp [Value.cells] at hcs
      obtain ⟨rfl, rfl, rfl⟩ := hcs
      exact ⟨[], .inl ⟨rfl, rfl, rfl, rfl⟩⟩
    · simp [Value.cells] at hcs
      obtain ⟨rfl, rfl, rfl⟩ := hcs
      exact ⟨zs, .inr ⟨_, rfl, hl, hm, by simpa using hz, hcell, hwz⟩⟩
  have y1 : len1 * 1 ≤ 140737488351232 := Go.Proofs.YtdclgghdilbheaaDoorW.PrintWords.sized_ints hsz (j := 1) (t := 32) rfl rfl Tryd.underlying32 Tryd.underlying5 (by kernel_rfl) (by kernel_rfl) h1
  clear hA0 hval0 hsz0 hsz
  refine (P.laws_FnWordsTold.walk Pure.FnWordsTold a0 len0 cap0 z0 a1 len1 cap1 z1 W w0 y0 w1 y1).mono fun e W' ⟨he, bel⟩ => ?_
  subst he
  exact ⟨_, rfl, _, _, _, [], _, [], hW', trodAll_mk1 (shut_bool Tryd.underlying4 _), (trodAll_cons_mk (Below.trod laidOut (by kernel_rfl) (of_decide_eq_true (by kernel_rfl)) k0 bel lt0) (trodAll_cons_mk (Below.trod laidOut (by kernel_rfl) (of_decide_eq_true (by kernel_rfl)) k1 bel lt1) trodAll_mk0)), rfl, bel.frame _, fun h => by cases h⟩
theorem over : Rows.fnWordsToldRow.holds Tryd.pinned (OpenSpec.ofChange Rows.fnWordsToldSpec) :=
  OpenClaim.holds_of_wide 4 Tryd.f4 rfl rfl rfl rfl rfl rfl rfl ⟨rfl, rfl, rfl, rfl, rfl⟩ rfl rfl rfl rfl rfl (by kernel_rfl) Tryd.func4 (by kernel_rfl)
    (of_decide_eq_true (by kernel_rfl)) (by unfold Func.isWrapper; first | (rw [if_pos (by decide +kernel)]; kernel_rfl) | (rw [if_neg (by decide +kernel)]; exact ⟨rfl, rfl⟩))
    (fun os started H enc _ => lifted os started H enc)
theorem proved : Rows.FnWordsToldSaid := over
end Go.Proofs.YtdclgghdilbheaaDoor.fnWordsTold
namespace Go.Proofs.YtdclgghdilbheaaDoor
theorem fnWordsTold_holds : Rows.FnWordsToldCardSaid :=
  Claim7.holds_tied_plain_at .later [] [.data, .pinned] true (true, "d6de4e49925afa08cf9e3df908ddb61331563b87161b30ec64413b32a4c6a20d") false
    fnWordsTold.proved (fun _ h => by cases h) (by kernel_rfl) (fun _ h => by cases h) fnWordsTold_row_tie rfl ⟨rfl, rfl⟩ (by kernel_rfl) rfl
    (fun f fn hf hfn => by
      obtain rfl : f = 4 := Option.some.inj ((show Tryd.prog.funcNamed "loop.example/g01236/laws.FnWordsTold" = some 4 by kernel_rfl).symm.trans hf) |>.symm
      obtain rfl : fn = Tryd.f4 := (Option.some.inj (Tryd.func4.symm.trans hfn)).symm
      exact ⟨by kernel_rfl, fun j t ht => by
        have hm : t ∈ Tryd.f4.params.toList := by
          rw [Array.mem_toList_iff]; exact Array.mem_of_getElem? ht
        have hall : (Tryd.f4.params.toList.all fun u => !Tryd.prog.wantsStandIn u) = true := by kernel_rfl
        exact (show Tryd.prog.wantsStandIn t = false by simpa using List.all_eq_true.1 hall t hm)⟩)
    (by kernel_rfl)
end Go.Proofs.YtdclgghdilbheaaDoor

