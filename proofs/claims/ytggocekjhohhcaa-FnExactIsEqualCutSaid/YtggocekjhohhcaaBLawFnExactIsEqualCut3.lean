/- Proof of FnExactIsEqualCutSaid, part 4 of 4: the texts Pf6, PureFnExactIsEqualCut, LawFnExactIsEqualCut, joined by a program of this session. -/
import Derived.Test.YtggocekjhohhcaaBLawFnExactIsEqualCut1
import Derived.Test.YtggocekjhohhcaaBLawFnExactIsEqualCut2
import Derived.Test.YtggocekjhohhcaaRows
import Derived.WalkKit
import Derived.ProofKit
import Derived.OpenShut
import Derived.ShutString
import Derived.ChangeOld
import Derived.Below
import Derived.SizedLaws
-- By a program of this session.
namespace Go.Proofs.Ytggocekjhohhcaa.P
open Go.RowKit Go.Proofs.YtggocekjhohhcaaW.PrintWords Go.Proofs.YtggocekjhohhcaaW.PrintLast Go.Proofs.YtggocekjhohhcaaW.PrintMore
attribute [local go_sem] max2_int min2_int max_two min_two max_three min_three max_four min_four
set_option linter.unusedVariables false
set_option linter.unusedSimpArgs false

/-! ### laws_FnExactIsEqualCut: function 6 -/
def laws_FnExactIsEqualCut.j0 : Nat → List (S61) → List (S59) → Bool → Option (Bool)
 | 0, _, _, _ => none
 | k + 1, x1, x10, x42 => if x42 = true then (some false) else ((laws_toDiagonalS.f k x1).bind fun t487 => ((laws_eqDiagonalS.f k x10 t487).bind fun t490 => (if t490 = true then (some true) else (some false))))
def laws_FnExactIsEqualCut.f (k : Nat) (a0 : Int) (l1 : List (S61)) (a2 : Int) : Option (Bool) := (laws_szDiagonalS.f l1 1048576).bind fun t476 => (if t476 < 0 then (some true) else ((laws_toDiagonalS.f k l1).bind fun t477 => ((spec_IsEqualCut.f k a0 t477 a2).bind fun bt480 => ((laws_toDiagonalS.f k l1).bind fun t482 => ((impl_IsEqualCut.f k a0 t482 a2).bind fun bt485 => (if (bt485.1 != bt480.1) = true then (laws_FnExactIsEqualCut.j0 k l1 t482 true) else (laws_FnExactIsEqualCut.j0 k l1 t482 (bt485.2 != bt480.2))))))))
theorem laws_FnExactIsEqualCut.mono_l : ∀ k, (∀ y0 y1 y2, LeO (laws_FnExactIsEqualCut.j0 k y0 y1 y2) (laws_FnExactIsEqualCut.j0 (k + 1) y0 y1 y2))
 | 0 => fun _ _ _ r h => by simp [laws_FnExactIsEqualCut.j0] at h
 | k + 1 => by
  have ih0 := laws_FnExactIsEqualCut.mono_l k
  ·intro y0 y1 y2
   unfold laws_FnExactIsEqualCut.j0
   repeat' first
   | (with_reducible exact ih0 _ _ _)
   | (with_reducible exact impl_IsEqualCut.mono _ _ _ _)
   | (with_reducible exact laws_eqDiagonalS.mono _ _ _)
   | (with_reducible exact laws_toDiagonalS.mono _ _)
   | (with_reducible exact spec_IsEqualCut.mono _ _ _ _)
   | (with_reducible exact LeO.refl _)
   | (with_reducible exact LeO.none _)
   | (with_reducible refine LeO.ite ?_ ?_)
   | (with_reducible refine LeO.bind ?_ (fun _ => ?_))
   | apply ih0
   | apply impl_IsEqualCut.mono
   | apply laws_eqDiagonalS.mono
   | apply laws_toDiagonalS.mono
   | apply spec_IsEqualCut.mono
   | apply LeO.none
   | refine LeO.ite ?_ ?_
   | refine LeO.bind ?_ (fun _ => ?_)
theorem laws_FnExactIsEqualCut.mono : ∀ a0 a1 a2 k, LeO (laws_FnExactIsEqualCut.f k a0 a1 a2) (laws_FnExactIsEqualCut.f (k + 1) a0 a1 a2) := by
 intro a0 a1 a2 k
 have ih0 := laws_FnExactIsEqualCut.mono_l k
 unfold laws_FnExactIsEqualCut.f
 repeat' first
   | (with_reducible exact ih0 _ _ _)
   | (with_reducible exact impl_IsEqualCut.mono _ _ _ _)
   | (with_reducible exact laws_eqDiagonalS.mono _ _ _)
   | (with_reducible exact laws_toDiagonalS.mono _ _)
   | (with_reducible exact spec_IsEqualCut.mono _ _ _ _)
   | (with_reducible exact LeO.refl _)
   | (with_reducible exact LeO.none _)
   | (with_reducible refine LeO.ite ?_ ?_)
   | (with_reducible refine LeO.bind ?_ (fun _ => ?_))
   | apply ih0
   | apply impl_IsEqualCut.mono
   | apply laws_eqDiagonalS.mono
   | apply laws_toDiagonalS.mono
   | apply spec_IsEqualCut.mono
   | apply LeO.none
   | refine LeO.ite ?_ ?_
   | refine LeO.bind ?_ (fun _ => ?_)
theorem laws_FnExactIsEqualCut.j0.dead : ∀ {k : Nat} {x1 : List (S61)} {x10 : List (S59)} {r : Bool}, laws_FnExactIsEqualCut.j0 k x1 x10 true = some r → r = false := by
 intro k x1 x10 r h
 cases k with
 | zero => cases h
 | succ k => exact (Option.some.inj (show some false = some r from h)).symm
set_option maxHeartbeats 8000000 in
set_option maxRecDepth 100000 in
theorem laws_FnExactIsEqualCut.calls (k : Nat) (a0 : Int) (A1 : Option Addr) (c1 : Nat) (l1 : List (S61)) (a2 : Int) (r : Bool) (w : World) (hr1 : Kd.C k61 w A1 l1.length l1) (hc1 : l1.length ≤ c1) (hrt : r = true) (h : laws_FnExactIsEqualCut.f k a0 l1 a2 = some r) :
  Calls Try.prog 6 #[.int .i64 a0, .slice A1 l1.length c1, .int .i64 a2] w fun e w' => e = .returned (.bool r) ∧ Below w.heap.size w w' := by
 have HR1 := Aside0.mk hr1
 have HC1 := Aside0.mk hc1
 clear hr1 hc1
 have HB := Aside0.mk (Below.refl w.heap.size w)
 have H := h
 clear h
 unfold laws_FnExactIsEqualCut.f at H
 replace H := Option.bind_eq_some_iff.mp H
 obtain ⟨t476, A40, H⟩ := H
 have A4 := Aside0.mk A40
 clear A40
 by_cases c5 : t476 < 0
 ·rw [if_pos c5] at H
  have c5b0 : decide (t476 < 0) = true := decide_eq_true c5
  clear c5
  as_aux_lemma =>
   obtain rfl := Option.some.inj H
   clear hrt
   go_enter Try.func6, Try.ntmps6
   go_wp2_with (first | ((with_reducible refine gate_callee (f := 10) rfl ?_); refine gof_ (some 15) Try.func10 #[.slice A1 l1.length c1, .int .i64 1048576] ?_; (with_reducible refine (laws_szDiagonalS.calls _ _ l1 1048576 t476 _ ?side1 ?side2 A4.out).mono ?_); (case side1 => repeat (first | exact HR1.out | (with_reducible refine Kd.C_alloc ?_ _) | (with_reducible refine Kd.C_drewN ?_ _) | (with_reducible refine Kd.C_drew ?_))); (case side2 => exact HC1.out); rintro e w' ⟨rfl, ⟨nd, rfl⟩⟩; refine ⟨_, rfl, ?_⟩))
   go_ret
   exact ⟨eqr, hk HB⟩
 ·rw [if_neg c5] at H
  have c5b0 : decide (t476 < 0) = false := decide_eq_false c5
  clear c5
  replace H := Option.bind_eq_some_iff.mp H
  obtain ⟨t477, A60, H⟩ := H
  have A6 := Aside0.mk A60
  clear A60
  replace H := Option.bind_eq_some_iff.mp H
  obtain ⟨⟨t480, t481⟩, A70, H⟩ := H
  try dsimp only at H
  have A7 := Aside0.mk A70
  clear A70
  replace H := Option.bind_eq_some_iff.mp H
  obtain ⟨t482, A80, H⟩ := H
  have A8 := Aside0.mk A80
  clear A80
  replace H := Option.bind_eq_some_iff.mp H
  obtain ⟨⟨t485, t486⟩, A90, H⟩ := H
  try dsimp only at H
  have A9 := Aside0.mk A90
  clear A90
  have HC10 := Aside0.mk H
  clear H
  go_enter Try.func6, Try.ntmps6
  go_upto_region 8 with (first | ((with_reducible refine gate_callee (f := 10) rfl ?_); refine gof_ (some 15) Try.func10 #[.slice A1 l1.length c1, .int .i64 1048576] ?_; (with_reducible refine (laws_szDiagonalS.calls _ _ l1 1048576 t476 _ ?side1 ?side2 A4.out).mono ?_); (case side1 => repeat (first | exact HR1.out | (with_reducible refine Kd.C_alloc ?_ _) | (with_reducible refine Kd.C_drewN ?_ _) | (with_reducible refine Kd.C_drew ?_))); (case side2 => exact HC1.out); rintro e w' ⟨rfl, ⟨nd, rfl⟩⟩; refine ⟨_, rfl, ?_⟩) | ((with_reducible refine gate_callee (f := 12) rfl ?_); refine gof_ (some 21) Try.func12 #[.slice A1 l1.length c1] ?_; (with_reducible refine (laws_toDiagonalS.calls k _ _ l1 t477 _ ?side1 ?side2 A6.out).mono ?_); (case side1 => repeat (first | exact HR1.out | (with_reducible refine Kd.C_alloc ?_ _) | (with_reducible refine Kd.C_drewN ?_ _) | (with_reducible refine Kd.C_drew ?_))); (case side2 => exact HC1.out); rintro e w11 ⟨v478, rfl, ho0, hb⟩; refine ⟨_, rfl, ?_⟩; have HO479 := Aside0.mk (Kd.R_lower ho0 (below_size (hk HB))); replace HB := hh HB hb; (try clear hb); (try clear hb2); (try clear hk); (try clear hi); (try clear ho0); obtain ⟨Ao12, co12, eo12⟩ := Kd.R_slice HO479.out; subst eo12) | ((with_reducible refine gate_callee (f := 30) rfl ?_); refine gof_ (some 23) Try.func30 #[.int .i64 a0, .slice Ao12 t477.length co12, .int .i64 a2] ?_; (with_reducible refine (spec_IsEqualCut.calls k a0 _ _ t477 a2 t480 t481 _ ?side1 ?side2 A7.out).mono ?_); (case side1 => repeat (first | exact (Kd.R_reads' HO479.out).2.2 | (with_reducible refine Kd.C_alloc ?_ _) | (with_reducible refine Kd.C_drewN ?_ _) | (with_reducible refine Kd.C_drew ?_))); (case side2 => exact (Kd.R_reads' HO479.out).2.1); rintro e w13 ⟨rfl, hb⟩; refine ⟨_, rfl, ?_⟩; replace HO479 := Aside0.mk (Kd.R_below (by (with_reducible repeat (first | apply Kd.R_alloc | apply Kd.R_drewN | apply Kd.R_drew)); exact HO479.out) hb); replace HB := hh HB hb; clear hb) | ((with_reducible refine gate_callee (f := 12) rfl ?_); refine gof_ (some 27) Try.func12 #[.slice A1 l1.length c1] ?_; (with_reducible refine (laws_toDiagonalS.calls k _ _ l1 t482 _ ?side1 ?side2 A8.out).mono ?_); (case side1 => repeat (first | exact (Kd.C_below HR1.out HB.out) | (with_reducible refine Kd.C_alloc ?_ _) | (with_reducible refine Kd.C_drewN ?_ _) | (with_reducible refine Kd.C_drew ?_))); (case side2 => exact HC1.out); rintro e w14 ⟨v483, rfl, ho0, hb⟩; refine ⟨_, rfl, ?_⟩; have HO484 := Aside0.mk (Kd.R_lower (Kd.R_new' ho0 (Kd.R_lt (by (with_reducible repeat (first | apply Kd.R_alloc | apply Kd.R_drewN | apply Kd.R_drew)); exact HO479.out))) (below_size (hk HB))); replace HO479 := Aside0.mk (Kd.R_elder' (by (with_reducible repeat (first | apply Kd.R_alloc | apply Kd.R_drewN | apply Kd.R_drew)); exact HO479.out) (Kd.R_base ho0) hb); replace HB := hh HB hb; (try clear hb); (try clear hb2); (try clear hk); (try clear hi); (try clear ho0); obtain ⟨Ao15, co15, eo15⟩ := Kd.R_slice HO484.out; subst eo15) | ((with_reducible refine gate_callee (f := 31) rfl ?_); refine gof_ (some 32) Try.func31 #[.int .i64 a0, .slice Ao15 t482.length co15, .int .i64 a2] ?_; (with_reducible refine (impl_IsEqualCut.calls k a0 _ _ t482 a2 t485 t486 _ ?side1 ?side2 A9.out).mono ?_); (case side1 => repeat (first | exact (Kd.R_reads' HO484.out).2.2 | (with_reducible refine Kd.C_alloc ?_ _) | (with_reducible refine Kd.C_drewN ?_ _) | (with_reducible refine Kd.C_drew ?_))); (case side2 => exact (Kd.R_reads' HO484.out).2.1); rintro e w16 ⟨rfl, hb⟩; refine ⟨_, rfl, ?_⟩; replace HO479 := Aside0.mk (Kd.R_below (by (with_reducible repeat (first | apply Kd.R_alloc | apply Kd.R_drewN | apply Kd.R_drew)); exact HO479.out) hb); replace HO484 := Aside0.mk (Kd.R_below (by (with_reducible repeat (first | apply Kd.R_alloc | apply Kd.R_drewN | apply Kd.R_drew)); exact HO484.out) hb); replace HB := hh HB hb; clear hb))
  (try simp only [Act.put, List.setIfInBounds_toArray, List.set_cons_zero, List.set_cons_succ])
  go_cut [42] (fun v42 wc => ∃ (kq : Nat) (x42_9 : Bool), v42 = .bool x42_9 ∧ Aside0 (laws_FnExactIsEqualCut.j0 kq l1 t482 x42_9 = some r) ∧ Aside0 (kq ≤ k) ∧ Aside0 (Kd.R k59 59 wc w.heap.size (fun _ => True) (.slice Ao15 t482.length co15) t482) ∧ Aside0 (Below w.heap.size w wc))
  case first =>
   have H := HC10.out
   clear HC10
   by_cases c17 : (t485 != t480) = true
   ·rw [if_pos c17] at H
    have c17b0 : (t485 != t480) = true := c17
    (try (have c17b1 : decide (t485 = t480) = false := by simpa using c17))
    (try (have c17b2 : (t485 == t480) = false := by simpa using c17))
    (try (have c17b3 : ¬ (t485 = t480) := by simpa using c17))
    clear c17
    (first | rw [c17b0] | (simp only [i64_w, i32_w]; rw [c17b0]) | skip)
    cases (laws_FnExactIsEqualCut.j0.dead H).symm.trans hrt
   ·rw [if_neg c17] at H
    have c17b0 : (t485 != t480) = false := by simpa using c17
    (try (have c17b1 : decide (t485 = t480) = true := by simpa using c17))
    (try (have c17b2 : (t485 == t480) = true := by simpa using c17))
    clear c17
    (first | rw [c17b0] | (simp only [i64_w, i32_w]; rw [c17b0]) | skip)
    as_aux_lemma =>
     have H' := Aside0.mk H
     clear H
     go_wp2
     go_meet
     case rel => exact ⟨_, ((t486 != t481)), (by first | rfl | (simp; done) | (simp [*]; done)), H', ⟨by first | omega | exact Nat.le_refl _⟩, ⟨by (with_reducible repeat (first | apply Kd.R_alloc | apply Kd.R_drewN | apply Kd.R_drew)); exact Kd.R_mono HO484.out (fun _ hk => trivial)⟩, ⟨by repeat (first | (with_reducible first | exact HB.out | apply below_alloc | apply pw_below_drewN | apply below_drew1) | exact HB.out)⟩⟩
  case rest =>
   clear HC10
   (try clear c1);(try clear c5);(try clear c5b0);(try clear c17);(try clear c17b0);(try clear c17b1);(try clear c17b2)
   obtain ⟨kq, x42_9, rfl, HA, HJ9, HO_10, HB⟩ := hcut
   cases kq with
   | zero => exact absurd HA.out (by simp [laws_FnExactIsEqualCut.j0])
   | succ kj9 =>
    have H := HA.out
    clear HA
    simp only [laws_FnExactIsEqualCut.j0] at H
    by_cases c18 : x42_9 = true
    ·subst c18
     rw [if_pos rfl] at H
     obtain rfl := Option.some.inj H
     cases hrt
    ·replace c18 := Bool.eq_false_iff.mpr c18
     subst c18
     rw [if_neg (show ¬ (false = true) by decide)] at H
     replace H := Option.bind_eq_some_iff.mp H
     obtain ⟨t487, A190, H⟩ := H
     have A19 := Aside0.mk A190
     clear A190
     replace H := Option.bind_eq_some_iff.mp H
     obtain ⟨t490, A200, H⟩ := H
     have A20 := Aside0.mk A200
     clear A200
     by_cases c21 : t490 = true
     ·subst c21
      rw [if_pos rfl] at H
      as_aux_lemma =>
       obtain rfl := Option.some.inj H
       clear hrt
       go_wp2_with (first | ((with_reducible refine gate_callee (f := 12) rfl ?_); refine gof_ (some 45) Try.func12 #[.slice A1 l1.length c1] ?_; (with_reducible refine (laws_toDiagonalS.calls kj9 _ _ l1 t487 _ ?side1 ?side2 A19.out).mono ?_); (case side1 => repeat (first | exact (Kd.C_below HR1.out HB.out) | (with_reducible refine Kd.C_alloc ?_ _) | (with_reducible refine Kd.C_drewN ?_ _) | (with_reducible refine Kd.C_drew ?_))); (case side2 => exact HC1.out); rintro e w22 ⟨v488, rfl, ho0, hb⟩; refine ⟨_, rfl, ?_⟩; have HO489 := Aside0.mk (Kd.R_lower (Kd.R_new' ho0 (Kd.R_lt (by (with_reducible repeat (first | apply Kd.R_alloc | apply Kd.R_drewN | apply Kd.R_drew)); exact HO_10.out))) (below_size (hk HB))); replace HO_10 := Aside0.mk (Kd.R_elder' (by (with_reducible repeat (first | apply Kd.R_alloc | apply Kd.R_drewN | apply Kd.R_drew)); exact HO_10.out) (Kd.R_base ho0) hb); replace HB := hh HB hb; (try clear hb); (try clear hb2); (try clear hk); (try clear hi); (try clear ho0); obtain ⟨Ao23, co23, eo23⟩ := Kd.R_slice HO489.out; subst eo23) | ((with_reducible refine gate_callee (f := 15) rfl ?_); refine gof_ (some 46) Try.func15 #[.slice Ao15 t482.length co15, .slice Ao23 t487.length co23] ?_; (with_reducible refine (laws_eqDiagonalS.calls kj9 _ _ t482 _ _ t487 true _ ?side1 ?side2 ?side3 ?side4 A20.out).mono ?_); (case side1 => repeat (first | exact (Kd.R_reads' HO_10.out).2.2 | (with_reducible refine Kd.C_alloc ?_ _) | (with_reducible refine Kd.C_drewN ?_ _) | (with_reducible refine Kd.C_drew ?_))); (case side2 => exact (Kd.R_reads' HO_10.out).2.1); (case side3 => repeat (first | exact (Kd.R_reads' HO489.out).2.2 | (with_reducible refine Kd.C_alloc ?_ _) | (with_reducible refine Kd.C_drewN ?_ _) | (with_reducible refine Kd.C_drew ?_))); (case side4 => exact (Kd.R_reads' HO489.out).2.1); rintro e w24 ⟨rfl, hb⟩; refine ⟨_, rfl, ?_⟩; replace HO_10 := Aside0.mk (Kd.R_below (by (with_reducible repeat (first | apply Kd.R_alloc | apply Kd.R_drewN | apply Kd.R_drew)); exact HO_10.out) hb); replace HO489 := Aside0.mk (Kd.R_below (by (with_reducible repeat (first | apply Kd.R_alloc | apply Kd.R_drewN | apply Kd.R_drew)); exact HO489.out) hb); replace HB := hh HB hb; clear hb))
       go_ret
       exact ⟨eqr, hk HB⟩
     ·replace c21 := Bool.eq_false_iff.mpr c21
      subst c21
      rw [if_neg (show ¬ (false = true) by decide)] at H
      obtain rfl := Option.some.inj H
      cases hrt

end Go.Proofs.Ytggocekjhohhcaa.P

/- FnExactIsEqualCut: what both sides answer. -/
namespace Go.Proofs.Ytggocekjhohhcaa.P
set_option linter.unusedVariables false
set_option linter.unusedSimpArgs false
open Go.RowKit Go.Proofs.YtggocekjhohhcaaW.PrintWords
def allSize (rows : List (List Int)) (size : Int) : Bool := rows.all fun r => decide ((r.length : Int) = size)
theorem equal_l0 (rows : List (List Int)) (size : Int) (hl : rows.length ≤ 2000000) : ∀ m j, rows.length - j = m → j ≤ rows.length → Ev (fun k => spec_cuEqual.l0 k size rows (rows.length : Int) (j : Int)) (allSize (rows.drop j) size)
  | 0, j, hm, hj => by
    have e : j = rows.length := by omega
    subst e
    refine Ev.succ (Ev.const fun k => ?_)
    simp only [spec_cuEqual.l0]
    rw [if_neg (by omega), List.drop_length]
    rfl
  | m + 1, j, hm, hj => by
    have hlt : j < rows.length := by omega
    have hd : rows.drop j = rows[j] :: rows.drop (j + 1) := List.drop_eq_getElem_cons hlt
    have hg : rd_L3 rows (j : Int) = rows[j] := by unfold rd_L3; rw [Int.toNat_natCast]; simp [hlt]
    have ih := equal_l0 rows size hl m (j + 1) (by omega) (by omega)
    refine Ev.succ ?_
    rw [hd]
    unfold allSize
    rw [List.all_cons]
    by_cases h : (rows[j].length : Int) = size
    · rw [decide_eq_true h, Bool.true_and]
      refine Ev.congr ih fun k => ?_
      simp only [spec_cuEqual.l0]
      rw [if_pos (by omega), if_pos (by omega), if_pos (by omega), hg, if_pos h, w64s (by omega)]
    · rw [decide_eq_false h, Bool.false_and]
      refine Ev.const fun k => ?_
      simp only [spec_cuEqual.l0]
      rw [if_pos (by omega), if_pos (by omega), if_pos (by omega), hg, if_neg h]
theorem allSize_perm {a b : List (List Int)} (h : a.Perm b) (size : Int) : allSize a size = allSize b size := by
  unfold allSize
  rw [Bool.eq_iff_iff, List.all_eq_true, List.all_eq_true]
  exact ⟨fun h2 x hx => h2 x (h.mem_iff.2 hx), fun h2 x hx => h2 x (h.mem_iff.1 hx)⟩
theorem cuEqual_eq {n : Int} {ds : List Dia} (h : GoodD n ds) (size : Int) : Ev (fun k => spec_cuEqual.f k n ds size) (allSize (cutAll n ds) size) := by
  have h2 := h.hi
  have h3 := h.few
  have hl := cutAll_length n ds
  have hp := Lex.sort_perm (cutAll n ds)
  unfold spec_cuEqual.f
  refine Ev.bind (g := fun k t345 => spec_cuEqual.l0 k size t345 (t345.length : Int) 0) (cuPieces_eq h.cut h.lo h.hi (by omega)) ?_
  have h0 := equal_l0 (Lex.sort (cutAll n ds)) size (by rw [hp.length_eq]; omega) _ 0 rfl (by omega)
  rw [List.drop_zero, allSize_perm hp] at h0
  exact h0
theorem sizes_all {n : Int} {ds : List Dia} (size : Int) : (sizesAll n ds).all (fun x => decide (x = size)) = allSize (cutAll n ds) size := by
  have hp : (sizesAll n ds).Perm (lensOf (cutAll n ds)) := (List.mergeSort_perm _ _).trans ((Lex.sort_perm (cutAll n ds)).map _)
  unfold allSize
  rw [Bool.eq_iff_iff, List.all_eq_true, List.all_eq_true]
  constructor
  · intro h x hx
    exact h _ (hp.mem_iff.2 (List.mem_map_of_mem hx))
  · intro h x hx
    obtain ⟨y, hy, rfl⟩ := List.mem_map.1 (hp.mem_iff.1 hx)
    exact h y hy
theorem sizes_sorted (n : Int) (ds : List Dia) : (sizesAll n ds).Pairwise (· ≤ ·) := by
  have h := List.pairwise_mergeSort (le := fun x y : Int => decide (x ≤ y)) (fun a b c h1 h2 => by rw [decide_eq_true_eq] at *; omega) (fun a b => by rw [Bool.or_eq_true, decide_eq_true_eq, decide_eq_true_eq]; omega) (lensOf (Lex.sort (cutAll n ds)))
  exact h.imp fun h => of_decide_eq_true h
theorem ends_all {l : List Int} (hs : l.Pairwise (· ≤ ·)) (hp : 0 < l.length) (size : Int) : (l[0] = size ∧ l[l.length - 1] = size) ↔ l.all (fun x => decide (x = size)) = true := by
  rw [List.all_eq_true]
  rw [List.pairwise_iff_getElem] at hs
  constructor
  · rintro ⟨h1, h2⟩ x hx
    obtain ⟨i, hi, rfl⟩ := List.getElem_of_mem hx
    rw [decide_eq_true_eq]
    have a1 : l[0] ≤ l[i] := by
      rcases Nat.eq_zero_or_pos i with h | h
      · subst h; exact Int.le_refl _
      · exact hs 0 i hp hi h
    have a2 : l[i] ≤ l[l.length - 1] := by
      rcases Nat.lt_or_ge i (l.length - 1) with h | h
      · exact hs i _ hi (by omega) h
      · have e : i = l.length - 1 := by omega
        subst e; exact Int.le_refl _
    omega
  · intro h
    exact ⟨of_decide_eq_true (h _ (List.getElem_mem hp)), of_decide_eq_true (h _ (List.getElem_mem (by omega)))⟩
theorem isEqual_eq {n : Int} {ds : List Dia} (h : GoodD n ds) (size : Int) : impl_isEqual.f n ds size = some (allSize (cutAll n ds) size) := by
  have h2 := h.hi
  have h3 := h.few
  have hl := cutAll_length n ds
  have hp : (sizesAll n ds).Perm (lensOf (cutAll n ds)) := (List.mergeSort_perm _ _).trans ((Lex.sort_perm (cutAll n ds)).map _)
  have hlen : (sizesAll n ds).length = (cutAll n ds).length := by rw [hp.length_eq]; exact List.length_map _
  have hce := Cut.cuts_eq (n := n) h.lo (ds.map dpair) [] (by rw [List.nil_append]; exact h.cut)
  have hca : cutAll n ds = ((0, n - 1) :: ds.map dpair).map (Cut.piece (ds.map dpair)) := by
    unfold cutAll
    rw [← Cut.piece_whole]
    exact hce
  have hpos : 0 < (sizesAll n ds).length := by rw [hlen, hca, List.length_map, List.length_cons]; omega
  have hea := ends_all (sizes_sorted n ds) hpos size
  rw [sizes_all] at hea
  unfold impl_isEqual.f impl_sizes.f
  rw [if_pos h.args]
  simp only [Option.bind_some]
  have r0 : rd (sizesAll n ds) 0 = (sizesAll n ds)[0] := rd_get (i := 0) hpos
  have r1 : rd (sizesAll n ds) (wrap64 (((sizesAll n ds).length : Int) - 1)) = (sizesAll n ds)[(sizesAll n ds).length - 1] := by
    rw [w64n (by omega) (by omega), show (((sizesAll n ds).length : Int) - 1) = (((sizesAll n ds).length - 1 : Nat) : Int) from by omega]
    exact rd_get (by omega)
  rw [if_pos (by omega), r0]
  by_cases e0 : (sizesAll n ds)[0] = size
  · rw [if_pos e0, r1, w64n (by omega) (by omega), if_pos (by omega), if_pos (by omega)]
    congr 1
    rw [Bool.eq_iff_iff, beq_iff_eq, ← hea]
    exact ⟨fun h => ⟨e0, h⟩, fun h => h.2⟩
  · rw [if_neg e0]
    congr 1
    symm
    rw [Bool.eq_false_iff]
    exact fun h => e0 (hea.2 h).1
def eqCut (n : Int) (ds : List Dia) (size : Int) : Bool × Bool := if goodB n ds = true then (if size < 3 then (false, false) else (allSize (cutAll n ds) size, true)) else (false, false)
theorem spec_IsEqualCut_eq (n : Int) (ds : List Dia) (size : Int) (hl : ds.length ≤ 2000000) : Ev (fun k => spec_IsEqualCut.f k n ds size) (eqCut n ds size) := by
  unfold spec_IsEqualCut.f eqCut
  refine Ev.bind (g := fun k t349 => if t349 = true then (if size < 3 then some (false, false) else (spec_cuEqual.f k n ds size).bind fun t350 => some (t350, true)) else some (false, false)) (cuGood_eq n ds hl) ?_
  by_cases hg : goodB n ds = true
  · rw [if_pos hg]
    by_cases hs : size < 3
    · exact Ev.const fun k => by rw [if_pos hg, if_pos hs, if_pos hs]
    · refine Ev.congr (Ev.val (Ev.bind (g := fun _ t350 => some (t350, true)) (cuEqual_eq (goodB_good hg) size) (Ev.const fun _ => rfl)) (by rw [if_neg hs])) fun k => ?_
      rw [if_pos hg, if_neg hs]
  · exact Ev.const fun k => by rw [if_neg hg, if_neg hg]
theorem impl_IsEqualCut_eq (n : Int) (ds : List Dia) (size : Int) (hl : ds.length ≤ 2000000) : Ev (fun k => impl_IsEqualCut.f k n ds size) (eqCut n ds size) := by
  unfold impl_IsEqualCut.f eqCut
  refine Ev.bind (g := fun k t474 => if t474 = true then (if size < 3 then some (false, false) else (impl_isEqual.f n ds size).bind fun t475 => some (t475, true)) else some (false, false)) (IsCut_eq n ds hl) ?_
  by_cases hg : goodB n ds = true
  · by_cases hs : size < 3
    · exact Ev.const fun k => by rw [if_pos hg, if_pos hg, if_pos hs, if_pos hs]
    · exact Ev.const fun k => by rw [if_pos hg, if_pos hg, if_neg hs, if_neg hs, isEqual_eq (goodB_good hg)]; rfl
  · exact Ev.const fun k => by rw [if_neg hg, if_neg hg]
theorem FnExactIsEqualCut_pure (n : Int) (l : List LDia) (size : Int) (hl : l.length ≤ 9223372036854775807) : ∃ k, laws_FnExactIsEqualCut.f k n l size = some true := by
  refine Ev.at ?_
  unfold laws_FnExactIsEqualCut.f
  rw [sz_eq l hl]
  simp only [Option.bind_some]
  by_cases h : l.length ≤ 1048576
  · rw [if_pos h]
    have hm : (l.map toD).length ≤ 2000000 := by rw [List.length_map]; omega
    have ht := toS_eq l (by omega)
    refine Ev.congr (g := fun k => (laws_toDiagonalS.f k l).bind fun t477 => ((spec_IsEqualCut.f k n t477 size).bind fun bt480 => ((laws_toDiagonalS.f k l).bind fun t482 => ((impl_IsEqualCut.f k n t482 size).bind fun bt485 => (if (bt485.1 != bt480.1) = true then (laws_FnExactIsEqualCut.j0 k l t482 true) else (laws_FnExactIsEqualCut.j0 k l t482 (bt485.2 != bt480.2))))))) ?_ (fun k => by rw [if_neg (by omega)])
    refine Ev.bind (g := fun k t477 => ((spec_IsEqualCut.f k n t477 size).bind fun bt480 => ((laws_toDiagonalS.f k l).bind fun t482 => ((impl_IsEqualCut.f k n t482 size).bind fun bt485 => (if (bt485.1 != bt480.1) = true then (laws_FnExactIsEqualCut.j0 k l t482 true) else (laws_FnExactIsEqualCut.j0 k l t482 (bt485.2 != bt480.2))))))) ht ?_
    refine Ev.bind (g := fun k bt480 => ((laws_toDiagonalS.f k l).bind fun t482 => ((impl_IsEqualCut.f k n t482 size).bind fun bt485 => (if (bt485.1 != bt480.1) = true then (laws_FnExactIsEqualCut.j0 k l t482 true) else (laws_FnExactIsEqualCut.j0 k l t482 (bt485.2 != bt480.2)))))) (spec_IsEqualCut_eq n (l.map toD) size hm) ?_
    refine Ev.bind (g := fun k t482 => ((impl_IsEqualCut.f k n t482 size).bind fun bt485 => (if (bt485.1 != (eqCut n (l.map toD) size).1) = true then (laws_FnExactIsEqualCut.j0 k l t482 true) else (laws_FnExactIsEqualCut.j0 k l t482 (bt485.2 != (eqCut n (l.map toD) size).2))))) ht ?_
    refine Ev.bind (g := fun k bt485 => (if (bt485.1 != (eqCut n (l.map toD) size).1) = true then (laws_FnExactIsEqualCut.j0 k l (l.map toD) true) else (laws_FnExactIsEqualCut.j0 k l (l.map toD) (bt485.2 != (eqCut n (l.map toD) size).2)))) (impl_IsEqualCut_eq n (l.map toD) size hm) ?_
    refine Ev.succ ?_
    have hj : Ev (fun k => (laws_toDiagonalS.f k l).bind fun t487 => ((laws_eqDiagonalS.f k (l.map toD) t487).bind fun t490 => (if t490 = true then some true else some false))) true := by
      refine Ev.bind (g := fun k t487 => ((laws_eqDiagonalS.f k (l.map toD) t487).bind fun t490 => (if t490 = true then some true else some false))) ht ?_
      refine Ev.bind (g := fun k t490 => (if t490 = true then some true else some false)) (eqS_eq (l.map toD) hm) ?_
      exact Ev.const fun k => rfl
    refine Ev.congr hj fun k => ?_
    rw [bne_self_eq_false, bne_self_eq_false, if_neg Bool.false_ne_true]
    simp only [laws_FnExactIsEqualCut.j0]
    rw [if_neg Bool.false_ne_true]
  · rw [if_neg h]
    exact Ev.const fun k => by rw [if_pos (by omega)]
end Go.Proofs.Ytggocekjhohhcaa.P

/- The row of FnExactIsEqualCut. -/
namespace Go.Proofs.Ytggocekjhohhcaa.fnExactIsEqualCut
open Go.ChangeShapes Go.WideShapes Go.ChangeAt Go.RowKit
open Go.ChangeMaps (open_string shut_string)
set_option linter.unusedVariables false
theorem own : ownKnob Try.prog.godebug = none := by kernel_rfl
theorem laidOut : laidOutB Try.prog = true := by kernel_rfl
set_option maxRecDepth 100000 in
theorem lifted (os : Os) (started : os.Started) (H : Type) (enc : TypeId × Value → H) :
    ReturnsInHanded {} Try.checked os 6 .any (Rows.fnExactIsEqualCutSpec.pre6 enc Try.prog Try.f6 Rows.fnExactIsEqualCutRow.domain false) (Rows.fnExactIsEqualCutSpec.post enc Try.prog Try.f6 false true false false) := by
  refine returnsInHanded_of_change_sized (C := Try.checked) own started (by kernel_rfl) Try.func6
    (ChangeSpec.witness6 (enc := enc) (C := Try.checked) false ⟨#[], #[.int .i64 0, .slice none 0 0, .int .i64 0], []⟩ 8 (by kernel_rfl) (by kernel_rfl) (by kernel_rfl) (by kernel_rfl)) ?_
  intro W base args ds gs before hval0 hW hcnd hsz0 _
  have hval : ∀ (j : Nat) t v, Try.f6.params[j]? = some t → args[j]? = some v → Value.okWide Try.prog W .any base t v := hval0
  have hW' := hW
  obtain ⟨p, q, hA0, hV, rfl, hfz, hnd⟩ := hW
  have hA : DataW.TrodAll enc Try.prog W 0 (fun _ => true) true Try.f6.params.toList args.toList ds p := hA0
  rw [Try.params6] at hA hval
  obtain ⟨v0, vs0, d0, ds0, p0, q0, hargs, rfl, rfl, h0, r0⟩ := trodAll_cons hA
  obtain ⟨v1, vs1, d1, ds1, p1, q1, rfl, rfl, rfl, h1, r1⟩ := trodAll_cons r0
  obtain ⟨v2, vs2, d2, ds2, p2, q2, rfl, rfl, rfl, h2, r2⟩ := trodAll_cons r1
  obtain ⟨rfl, rfl, rfl⟩ := trodAll_nil r2
  obtain rfl : args = #[v0, v1, v2] := by cases args; simp_all
  obtain ⟨rfl, rfl⟩ := trodVars_none hV
  obtain ⟨a0, rfl, rfl, rfl, w0⟩ := open_int Try.underlying3 (hval 0 3 v0 rfl rfl) h0
  obtain ⟨a1, len1, cap1, rfl⟩ := okWide_slice Try.underlying22 (hval 1 22 v1 rfl rfl)
  have k1 := h1
  have lt1 : ∀ x ∈ p1, x.block < W.heap.size := by obtain ⟨m, hm⟩ := k1; exact DataW.trod_lt m _ _ _ hm
  obtain ⟨l1, hC1, hl1, hc1, hm1⟩ : ∃ l : List P.LDia, Go.Proofs.YtggocekjhohhcaaW.PrintWords.Kd.C P.k61 W a1 l.length l ∧ l.length = len1 ∧ l.length ≤ cap1 ∧ l.length ≤ 9223372036854775807 := by
    obtain ⟨fuel, hf⟩ := h1
    exact P.open_dias (by simpa [Value.cells] using hf)
  subst hl1
  obtain ⟨a2, rfl, rfl, rfl, w2⟩ := open_int Try.underlying3 (hval 2 3 v2 rfl rfl) h2
  clear hA0 hval0 hsz0
  obtain ⟨k, hk⟩ := P.FnExactIsEqualCut_pure a0 l1 a2 hm1
  refine (P.laws_FnExactIsEqualCut.calls k a0 a1 cap1 l1 a2 true W hC1 hc1 rfl hk).mono fun e W' ⟨he, bel⟩ => ?_
  subst he
  exact ⟨_, rfl, _, _, _, [], _, [], hW', trodAll_mk1 (shut_bool Try.underlying4 _), (trodAll_cons_mk (shut_int Try.underlying3 w0) (trodAll_cons_mk (Below.trod laidOut (by kernel_rfl) (of_decide_eq_true (by kernel_rfl)) k1 bel lt1) (trodAll_cons_mk (shut_int Try.underlying3 w2) trodAll_mk0))), rfl, bel.frame _, fun h => by cases h⟩
theorem over : Rows.fnExactIsEqualCutRow.holds Try.pinned (OpenSpec.ofChange Rows.fnExactIsEqualCutSpec) :=
  OpenClaim.holds_of_wide 6 Try.f6 rfl rfl rfl rfl rfl rfl rfl ⟨rfl, rfl, rfl, rfl, rfl⟩ rfl rfl rfl rfl rfl (by kernel_rfl) Try.func6 (by kernel_rfl)
    (of_decide_eq_true (by kernel_rfl)) (by unfold Func.isWrapper; first | (rw [if_pos (by decide +kernel)]; kernel_rfl) | (rw [if_neg (by decide +kernel)]; exact ⟨rfl, rfl⟩))
    (fun os started H enc _ => lifted os started H enc)
theorem proved : Rows.FnExactIsEqualCutSaid := over
#print axioms proved
end Go.Proofs.Ytggocekjhohhcaa.fnExactIsEqualCut
namespace Go.Proofs.Ytggocekjhohhcaa
/-- The row, under a short name, for the claim. -/
theorem fnExactIsEqualCut_holds : Rows.FnExactIsEqualCutSaid := fnExactIsEqualCut.proved
end Go.Proofs.Ytggocekjhohhcaa


