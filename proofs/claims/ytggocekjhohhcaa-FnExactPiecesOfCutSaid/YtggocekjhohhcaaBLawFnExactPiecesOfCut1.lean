/- Proof of FnExactPiecesOfCutSaid, part 2 of 4: the texts P0, More, MoreB, Pf96, CuLess, CuSorted, CuSortedS, OpenDia, Pf57, Pf67, Pf68, Pf69, Pf70, Pf39, ShelfE, ExtCross, Pf85, Pf73, Pf74, Pf97, Pf116, Pf98, Pf75, Pf42, Pf41, Pf12, joined by a program of this session. -/
import Derived.Test.YtggocekjhohhcaaProg
import Derived.Below
import Derived.Deep.Draws
import Derived.Deep.AppendLies
import Derived.Maps.AppendAt
import Derived.OwnWalk
import Derived.Laws.BytesArg
import Derived.Laws.MakeOwn
import Derived.Laws.OwnMore
import Derived.Deep.OwnRows
import Derived.Tactics
import Derived.Lib.ConvBytes
import Derived.Laws.Slices
import Derived.WalkKit
import Derived.KernelRfl
import Derived.RowKit3
import Derived.Deep.LoopGhost
import Derived.Deep.QuietTactic
import Derived.BigQuiet
import Derived.WideLaws
import Derived.Deep.DeepCutAuto
import Derived.Deep.CutBlock
import Derived.Deep.RegionHeld3
import Derived.Laws.Rows
import Derived.Lib.AppendStr
import Derived.ArgAppend
import Derived.Laws.IdiomCopy
import Derived.OrdersHeld
import Derived.Laws.BitsLemmas
import Derived.RowKit
import Derived.Test.YtggocekjhohhcaaBLawFnExactPiecesOfCut0
import Derived.Deep.Slices
import Derived.Deep.Fields
import Derived.ChangeSame
import Derived.Shelf.SlGeneric
import Derived.Ground.NamesProg
import Derived.Ground.SlgfProg
import Derived.Shelf.SlicesQ.IndexFunc
-- By a program of this session.
namespace Go.Proofs.Ytggocekjhohhcaa.P
open Go.RowKit Go.Proofs.YtggocekjhohhcaaW.PrintWords Go.Proofs.YtggocekjhohhcaaW.PrintLast Go.Proofs.YtggocekjhohhcaaW.PrintMore
attribute [local go_sem] max2_int min2_int max_two min_two max_three min_three max_four min_four   -- for this text's walks alone
set_option linter.unusedVariables false
set_option linter.unusedSimpArgs false



def errW : Option Int → Value
  | none => .nilIface
  | some c => .iface 0 (.int .i64 c)
theorem errW_none : errW none = .nilIface := rfl
theorem errW_some (c : Int) : errW (some c) = .iface 0 (.int .i64 c) := rfl

theorem info3 : (Try.prog.info? 3).map (fun i => (i.zero, i.size, i.bytes)) = some (some (.int .i64 0), 1, 8) := by kernel_rfl
theorem info4 : (Try.prog.info? 4).map (fun i => (i.zero, i.size, i.bytes)) = some (some (.bool false), 1, 1) := by kernel_rfl
theorem info34 : (Try.prog.info? 34).map (fun i => (i.zero, i.size, i.bytes)) = some (some (.slice none 0 0), 1, 24) := by kernel_rfl
theorem info59 : (Try.prog.info? 59).map (fun i => (i.zero, i.size, i.bytes)) = some (some (.agg #[(.int .i64 0), (.int .i64 0)]), 2, 16) := by kernel_rfl
-- the values' own types
/-! #### struct type 61 -/
structure S61 where
  f0 : Int
  f1 : Int
def z61 : S61 := ⟨(0 : Int), (0 : Int)⟩
def k61 : Kd S61 := Kd.iso (Kd.pair (Kd.int .i64) (Kd.int .i64)) (fun x : S61 => (x.f0, x.f1))
theorem k61_open {w : World} {x : S61} {cs : List Value} (h : k61.K w x cs) : cs = [.int .i64 x.f0, .int .i64 x.f1] := by
  obtain ⟨_, _, rfl, rfl, rfl⟩ := h
  exact rfl
theorem k61_mk (w : World) (x : S61)  : k61.K w x [.int .i64 x.f0, .int .i64 x.f1] := ⟨[.int .i64 x.f0], [.int .i64 x.f1], rfl, rfl, rfl⟩
def rd_T61 (xs : List S61) (i : Int) : S61 := xs.getD i.toNat z61
theorem at_T61 {w : World} {A : Option Addr} {n : Nat} {xs : List S61} (h : Kd.C k61 w A n xs) (i : Int) (h0 : 0 ≤ i) (h1 : i < n) : ∃ ad , A = some ad ∧ w.cell? (ad.add (i.toNat * 2)) = some (.int .i64 (rd_T61 xs i).f0) ∧ w.cell? ⟨(ad.add (i.toNat * 2)).block, (ad.add (i.toNat * 2)).off + 1, none⟩ = some (.int .i64 (rd_T61 xs i).f1) := by
  obtain ⟨ad, c, e, _, hK, hc0⟩ := Kd.C_get h z61 i h0 h1
  have hc : ∀ j u, c[j]? = some u → w.cell? (ad.add (i.toNat * 2 + j)) = some u := hc0
  obtain rfl := k61_open hK
  exact ⟨ad, e, hc 0 _ rfl, by rw [← add_field _ _ 1 (by omega)]; exact hc 1 _ rfl⟩

/-! #### struct type 59 -/
structure S59 where
  f0 : Int
  f1 : Int
def z59 : S59 := ⟨(0 : Int), (0 : Int)⟩
def k59 : Kd S59 := Kd.iso (Kd.pair (Kd.int .i64) (Kd.int .i64)) (fun x : S59 => (x.f0, x.f1))
theorem k59_open {w : World} {x : S59} {cs : List Value} (h : k59.K w x cs) : cs = [.int .i64 x.f0, .int .i64 x.f1] := by
  obtain ⟨_, _, rfl, rfl, rfl⟩ := h
  exact rfl
theorem k59_openM {w : World} {base : Nat} {ok : Nat → Prop} {x : S59} {cs : List Value} (h : k59.M w base ok x cs) : cs = [.int .i64 x.f0, .int .i64 x.f1] := by
  obtain ⟨_, _, rfl, rfl, rfl⟩ := h
  exact rfl
theorem k59_mkM (w : World) (base : Nat) (ok : Nat → Prop) (x : S59)  : k59.M w base ok x [.int .i64 x.f0, .int .i64 x.f1] := ⟨[.int .i64 x.f0], [.int .i64 x.f1], rfl, rfl, rfl⟩
def rd_T59 (xs : List S59) (i : Int) : S59 := xs.getD i.toNat z59
theorem at_T59 {w : World} {A : Option Addr} {n : Nat} {xs : List S59} (h : Kd.C k59 w A n xs) (i : Int) (h0 : 0 ≤ i) (h1 : i < n) : ∃ ad , A = some ad ∧ w.cell? (ad.add (i.toNat * 2)) = some (.int .i64 (rd_T59 xs i).f0) ∧ w.cell? ⟨(ad.add (i.toNat * 2)).block, (ad.add (i.toNat * 2)).off + 1, none⟩ = some (.int .i64 (rd_T59 xs i).f1) := by
  obtain ⟨ad, c, e, _, hK, hc0⟩ := Kd.C_get h z59 i h0 h1
  have hc : ∀ j u, c[j]? = some u → w.cell? (ad.add (i.toNat * 2 + j)) = some u := hc0
  obtain rfl := k59_open hK
  exact ⟨ad, e, hc 0 _ rfl, by rw [← add_field _ _ 1 (by omega)]; exact hc 1 _ rfl⟩

def rd_L3 (xs : List (List Int)) (i : Int) : (List Int) := xs.getD i.toNat ([] : List Int)
theorem at_L3 {w : World} {A : Option Addr} {n : Nat} {xs : List (List Int)} (h : Kd.C (Kd.slice 3 (Kd.int .i64)) w A n xs) (i : Int) (h0 : 0 ≤ i) (h1 : i < n) : ∃ ad A0 c0, A = some ad ∧ w.cell? (ad.add i.toNat) = some (.slice A0 (rd_L3 xs i).length c0) ∧ (rd_L3 xs i).length ≤ c0 ∧ (Kd.int .i64).C w A0 (rd_L3 xs i).length (rd_L3 xs i) := by
  obtain ⟨ad, c, e, _, hK, hc0⟩ := Kd.C_get h ([] : List Int) i h0 h1
  have hc : ∀ j u, c[j]? = some u → w.cell? (ad.add (i.toNat * 1 + j)) = some u := hc0
  obtain ⟨A0, c0, rfl, l0, g0⟩ := hK
  exact ⟨ad, A0, c0, e, by have hq := hc 0 _ rfl; rwa [Nat.mul_one, Nat.add_zero] at hq, l0, g0⟩

end Go.Proofs.Ytggocekjhohhcaa.P

/- Events of the walk that the print's words lack: a copy of a string's bytes. -/
namespace Go.Proofs.Ytggocekjhohhcaa.P
set_option linter.unusedVariables false
set_option linter.unusedSimpArgs false
open Go.RowKit Go.Proofs.YtggocekjhohhcaaW.PrintWords Go.Proofs.YtggocekjhohhcaaW.PrintLast Go.Proofs.YtggocekjhohhcaaW.PrintMore
section
variable {P : Program} {ops : Array Oper} {rest : List Oper} {o : Oper} {a : Act} {Q : Exit → Act → World → Prop}
/-! ### Short forms: what the printed walks say again and again stands here once, as a parameter's own proof -/
/-- A variable's block, some plain steps on. -/
theorem pk {w W : World} {g : Nat} {o : Obj} (_ : Aside0 (w.heap[g]? = some o)) (e : W.heap[g]? = some o := by ((with_reducible repeat (first | refine blk_drewN ?_ _ | refine blk_drew ?_ | refine blk_alloc ?_ _)); exact Aside0.out (by with_reducible assumption))) : W.heap[g]? = some o := e
/-- What lay below stands, some plain steps and stores into the call's own blocks on. -/
theorem hk {w w0 W : World} (_ : Aside0 (Below w.heap.size w w0)) (e : Below w.heap.size w W := by repeat (first | (with_reducible first | exact Aside0.out (by assumption) | apply below_alloc | apply pw_below_drewN | apply below_drew1 | refine below_set ?_ (Aside0.out (by assumption))) | exact Aside0.out (by assumption))) : Below w.heap.size w W := e
theorem gof_ {rest : List Oper} {oi : Oper} {a : Act} {w : World} (N : Option Tmp) {f : FuncId} {fn : Func} {aa : Array Operand} {ts : Array TypeId} (hf : P.funcs[f]? = some fn) (args : Array Value)
    (h : Calls P f args w fun e w' => ∃ v, e = .returned v ∧ wpList P ops Q rest (a.put N v) w')
    (hd : oi.dst = N := by rfl) (hg : oi.guard = none := by rfl) (hname : (fn.name == "runtime.NumGoroutine") = false := by kernel_rfl) (hb : fn.body.isSome = true := by rfl)
    (hop : oi.op = .call { callee := .value (.func f), args := aa, argTypes := ts } := by rfl) (hargs : aa.map a.eval = args := by ((try simp only [List.map_toArray, List.map_cons, List.map_nil]); first | done | rfl | (simp only [List.length_drop, List.length_take]; rfl))) : wpList P ops Q (oi :: rest) a w :=
  goesL_ N hd hg hf hname hb args hop hargs h
theorem c2_ {w : World} {g : Nat} {x0 x1 : Value} {t : TypeId} (h : Aside0 (w.heap[g]? = some (.cells #[x0, x1] t (0, 0)))) : w.cell? ⟨g, 0, none⟩ = some x0 ∧ w.cell? ⟨g, 1, none⟩ = some x1 ∧ w.frozen? ⟨g, 0, none⟩ = false ∧ w.frozen? ⟨g, 1, none⟩ = false :=
  ⟨(blk_cell h.out 0).trans rfl, (blk_cell h.out 1).trans rfl, blk_frozen h.out 0, blk_frozen h.out 1⟩
theorem eqr {a b : Ending} (h : a = b := by first | rfl | (simp [errW_none, errW_some] <;> rfl) | (simp [*, errW_none, errW_some] <;> rfl)) : a = b := h
theorem box_ {W : World} (N : Tmp) (cs : Array Value) (t : TypeId)
    (h : ∀ g, g = W.heap.size → ∀ w1, w1.heap[g]? = some (.cells cs t (0, 0)) → Below W.heap.size W w1 → wpList P ops Q rest (a.put o.dst (.pointer (some ⟨g, 0, none⟩))) w1)
    (hd : o.dst = some N := by rfl) (hg : o.guard = none := by rfl)
    (hr : (execOp a.eval o).run P W = .ok (.value (.pointer (some ⟨W.heap.size, 0, none⟩))) (W.alloc (.cells cs t (0, 0))) := by first | (go_simp; done) | (go_simp; rfl)) : wpList P ops Q (o :: rest) a W :=
  box_event hg hd hr h
end
end Go.Proofs.Ytggocekjhohhcaa.P

/- More short forms for the printed walks. -/
namespace Go.Proofs.Ytggocekjhohhcaa.P
set_option linter.unusedVariables false
set_option linter.unusedSimpArgs false
open Go.RowKit Go.Proofs.YtggocekjhohhcaaW.PrintWords Go.Proofs.YtggocekjhohhcaaW.PrintLast Go.Proofs.YtggocekjhohhcaaW.PrintMore
/-- The first i of n are taken. -/
def bT (i n : Nat) : Array Bool := (List.replicate i true ++ List.replicate (n - i) false).toArray
theorem pf_ {X W : World} {g : Nat} {o : Obj} (h : X.heap[g]? = some o) (st : X.heap[g]? = some o → W.heap[g]? = some o := by (intro h; (with_reducible repeat (first | refine blk_drewN ?_ _ | refine blk_drew ?_ | refine blk_alloc ?_ _)); exact h)) : W.heap[g]? = some o := st h
theorem ff_ {X W : World} {g : Nat} {o : Obj} (h : X.heap[g]? = some o) (st : X.heap[g]? = some o → W.heap[g]? = some o := by (intro h; (repeat (with_reducible first | refine blk_drewN ?_ _ | refine blk_drew ?_ | refine blk_alloc ?_ _ | refine blk_far ?_ (Aside0.out (by assumption)) _)); exact h)) : W.heap[g]? = some o := st h
theorem bb {W0 W w2 : World} {g : Nat} {o : Obj} (_ : Aside0 (W0.heap[g]? = some o)) (hb : Below W.heap.size W w2) (e : W.heap[g]? = some o := by ((repeat (with_reducible first | refine blk_drewN ?_ _ | refine blk_drew ?_ | refine blk_alloc ?_ _ | refine blk_far ?_ (Aside0.out (by assumption)) _)); exact Aside0.out (by with_reducible assumption))) : Aside0 (w2.heap[g]? = some o) := ⟨blk_below e hb⟩
theorem nb {W0 W : World} {g g' : Nat} {o : Obj} (_ : Aside0 (W0.heap[g]? = some o)) (hg : g' = W.heap.size) (e : W.heap[g]? = some o := by ((repeat (with_reducible first | refine blk_drewN ?_ _ | refine blk_drew ?_ | refine blk_alloc ?_ _ | refine blk_far ?_ (Aside0.out (by assumption)) _)); exact Aside0.out (by with_reducible assumption))) : Aside0 (g ≠ g') ∧ Aside0 (g' ≠ g) := by
  subst hg
  exact ⟨⟨Nat.ne_of_lt (blk_lt e)⟩, ⟨Nat.ne_of_gt (blk_lt e)⟩⟩
theorem ge_ {w w0 W : World} {g : Nat} (_ : Aside0 (Below w.heap.size w w0)) (hg : g = W.heap.size) (e : Below w.heap.size w W := by repeat (first | (with_reducible first | exact Aside0.out (by assumption) | apply below_alloc | apply pw_below_drewN | apply below_drew1 | refine below_set ?_ (Aside0.out (by assumption))) | exact Aside0.out (by assumption))) : Aside0 (w.heap.size ≤ g) := by
  subst hg
  exact ⟨below_size e⟩
theorem hh {w w0 W w2 : World} (_ : Aside0 (Below w.heap.size w w0)) (hb : Below W.heap.size W w2) (e : Below w.heap.size w W := by repeat (first | (with_reducible first | exact Aside0.out (by assumption) | apply below_alloc | apply pw_below_drewN | apply below_drew1 | refine below_set ?_ (Aside0.out (by assumption))) | exact Aside0.out (by assumption))) : Aside0 (Below w.heap.size w w2) := ⟨below_step e hb⟩
section
variable {P : Program} {ops : Array Oper} {Q : Exit → Act → World → Prop} {md : Region.Mode} {S : World → Prop} {ds : List Nat}
/-- 'pure_', its sides told by their own proofs. -/
theorem pu_ {T : Bool × List (List Nat × List Nat)} {oi : Oper} {v : Value} {fuel : Nat} {l : Array Bool} {a a' : Act} {w : World} (HT : Aside0 (rtab md ops = T)) (i : Nat) (N : Option Tmp) (l' : Array Bool)
    (h : wpAnyLast P md ops Q S ds fuel l' a' w) (hi : ops[i]? = some oi := by rfl) (hN : oi.dst = N := by rfl) (hc : anyT T l.toList l'.toList i = true := by kernel_rfl)
    (hQ : ∀ c a w, Q (.panic c) (a.put oi.dst v) w → Q (.panic c) a w := by exact fun _ _ _ h => h) (hy : Yields P ops oi v a := by (refine Or.inl ⟨by rfl, ?_⟩; intro w'; go_simp; with_reducible rfl))
    (ha : a.put N v = a' := by (simp only [Act.put, List.setIfInBounds_toArray, List.set_cons_zero, List.set_cons_succ, i64_w, i32_w]; rfl)) : wpAnyLast P md ops Q S ds (fuel + 1) l a w :=
  pure_ l' hi hN (any_of HT.out hc) hQ hy ha h
end
end Go.Proofs.Ytggocekjhohhcaa.P

-- By a program of this session.
namespace Go.Proofs.Ytggocekjhohhcaa.P
open Go.RowKit Go.Proofs.YtggocekjhohhcaaW.PrintWords Go.Proofs.YtggocekjhohhcaaW.PrintLast Go.Proofs.YtggocekjhohhcaaW.PrintMore
attribute [local go_sem] max2_int min2_int max_two min_two max_three min_three max_four min_four
set_option linter.unusedVariables false
set_option linter.unusedSimpArgs false

/-! ### spec_cuLess: function 96 -/
mutual
def spec_cuLess.l0 : Nat → List Int → List Int → Int → Option (Bool)
 | 0, _, _, _ => none
 | k + 1, x0, x1, x5 => if x5 < (x0.length : Int) then (spec_cuLess.j1 k x0 x1 x5 (decide (x5 < (x1.length : Int)))) else (spec_cuLess.j1 k x0 x1 x5 false)
def spec_cuLess.j1 : Nat → List Int → List Int → Int → Bool → Option (Bool)
 | 0, _, _, _, _ => none
 | k + 1, x0, x1, x5, x15 => if x15 = true then (if 0 ≤ x5 then (if x5 < (x0.length : Int) then (if x5 < (x1.length : Int) then (if (rd x0 x5) = (rd x1 x5) then (spec_cuLess.l0 k x0 x1 (wrap64 (x5 + 1))) else (some (decide ((rd x0 x5) < (rd x1 x5))))) else (none)) else (none)) else (none)) else (some (decide ((x0.length : Int) < (x1.length : Int))))
end
def spec_cuLess.f (k : Nat) (l0 : List Int) (l1 : List Int) : Option (Bool) := spec_cuLess.l0 k l0 l1 0
theorem spec_cuLess.mono_l : ∀ k, (∀ y0 y1 y2, LeO (spec_cuLess.l0 k y0 y1 y2) (spec_cuLess.l0 (k + 1) y0 y1 y2)) ∧ (∀ y0 y1 y2 y3, LeO (spec_cuLess.j1 k y0 y1 y2 y3) (spec_cuLess.j1 (k + 1) y0 y1 y2 y3))
 | 0 => ⟨fun _ _ _ r h => by simp [spec_cuLess.l0] at h, fun _ _ _ _ r h => by simp [spec_cuLess.j1] at h⟩
 | k + 1 => by
  obtain ⟨ih0, ih1⟩ := spec_cuLess.mono_l k
  refine ⟨?_, ?_⟩
  ·intro y0 y1 y2
   unfold spec_cuLess.l0
   repeat' first
   | (with_reducible exact ih0 _ _ _)
   | (with_reducible exact ih1 _ _ _ _)
   | (with_reducible exact LeO.refl _)
   | (with_reducible exact LeO.none _)
   | (with_reducible refine LeO.ite ?_ ?_)
   | (with_reducible refine LeO.bind ?_ (fun _ => ?_))
   | apply ih0
   | apply ih1
   | apply LeO.none
   | refine LeO.ite ?_ ?_
   | refine LeO.bind ?_ (fun _ => ?_)
  ·intro y0 y1 y2 y3
   unfold spec_cuLess.j1
   repeat' first
   | (with_reducible exact ih0 _ _ _)
   | (with_reducible exact ih1 _ _ _ _)
   | (with_reducible exact LeO.refl _)
   | (with_reducible exact LeO.none _)
   | (with_reducible refine LeO.ite ?_ ?_)
   | (with_reducible refine LeO.bind ?_ (fun _ => ?_))
   | apply ih0
   | apply ih1
   | apply LeO.none
   | refine LeO.ite ?_ ?_
   | refine LeO.bind ?_ (fun _ => ?_)
theorem spec_cuLess.mono : ∀ a0 a1 k, LeO (spec_cuLess.f k a0 a1) (spec_cuLess.f (k + 1) a0 a1) := by
 intro a0 a1 k
 obtain ⟨ih0, ih1⟩ := spec_cuLess.mono_l k
 unfold spec_cuLess.f
 repeat' first
   | (with_reducible exact ih0 _ _ _)
   | (with_reducible exact ih1 _ _ _ _)
   | (with_reducible exact LeO.refl _)
   | (with_reducible exact LeO.none _)
   | (with_reducible refine LeO.ite ?_ ?_)
   | (with_reducible refine LeO.bind ?_ (fun _ => ?_))
   | apply ih0
   | apply ih1
   | apply LeO.none
   | refine LeO.ite ?_ ?_
   | refine LeO.bind ?_ (fun _ => ?_)
set_option maxHeartbeats 8000000 in
set_option maxRecDepth 100000 in
theorem spec_cuLess.calls (k : Nat) (A0 : Option Addr) (c0 : Nat) (l0 : List Int) (A1 : Option Addr) (c1 : Nat) (l1 : List Int) (r : Bool) (w : World) (hr0 : Kd.C (Kd.int .i64) w A0 l0.length l0) (hc0 : l0.length ≤ c0) (hr1 : Kd.C (Kd.int .i64) w A1 l1.length l1) (hc1 : l1.length ≤ c1) (h : spec_cuLess.f k l0 l1 = some r) :
  Calls Try.prog 96 #[.slice A0 l0.length c0, .slice A1 l1.length c1] w fun e w' => e = .returned (.bool r) ∧ Drawn0 w w' := by
 have HR0 := Aside0.mk hr0
 have HC0 := Aside0.mk hc0
 clear hr0 hc0
 have HR1 := Aside0.mk hr1
 have HC1 := Aside0.mk hc1
 clear hr1 hc1
 have H : (spec_cuLess.l0 k l0 l1 0) = some r := h
 clear h
 have H' := Aside0.mk H
 clear H
 go_enter Try.func96, Try.ntmps96
 go_wp2
 repeat (go_quiet (fail); try go_wp2)
 go_loopg [5] k (fun kq v5 w' => ∃ (x5_1 : Int), v5 = .int .i64 x5_1 ∧ Aside0 (spec_cuLess.l0 kq l0 l1 x5_1 = some r) ∧ Aside0 (kq ≤ k) ∧ Drawn0 w w')
 case atStart => exact ⟨(0), (by first | rfl | (simp; done) | (simp [*]; done)), H', ⟨Nat.le_refl _⟩, by repeat (first | exact Drawn0.refl _ | apply Drawn0.step)⟩
 case round =>
  clear H'
  obtain ⟨x5_1, rfl, HA, HK1, ⟨m1, rfl⟩⟩ := hrel
  cases gk with
  | zero => exact absurd HA.out (by simp [spec_cuLess.l0])
  | succ k1 =>
   have H := HA.out
   clear HA
   simp only [spec_cuLess.l0] at H
   have HC3 := Aside0.mk H
   clear H
   go_upto_region 2 with (fail)
   repeat (go_quiet (fail); go_upto_region 2 with (fail))
   go_cut [15] (fun v15 wc => ∃ (kq : Nat) (x15_2 : Bool), v15 = .bool x15_2 ∧ Aside0 (spec_cuLess.j1 kq l0 l1 x5_1 x15_2 = some r) ∧ Aside0 (kq ≤ k1) ∧ Drawn0 w wc)
   case first =>
    have H := HC3.out
    clear HC3
    by_cases c4 : x5_1 < (l0.length : Int)
    ·rw [if_pos c4] at H
     have c4b0 : decide (x5_1 < (l0.length : Int)) = true := decide_eq_true c4
     clear c4
     (first | rw [c4b0] | (simp only [i64_w, i32_w]; rw [c4b0]) | skip)
     have H' := Aside0.mk H
     clear H
     go_wp2
     repeat (go_quiet (fail); try go_wp2)
     go_meet
     case rel => exact ⟨_, (decide (x5_1 < (l1.length : Int))), (by first | rfl | (simp; done) | (simp [*]; done)), H', ⟨by have := HK1.out; first | omega | exact Nat.le_refl _⟩, by repeat (first | exact Drawn0.refl _ | apply Drawn0.step)⟩
    ·rw [if_neg c4] at H
     have c4b0 : decide (x5_1 < (l0.length : Int)) = false := decide_eq_false c4
     clear c4
     (first | rw [c4b0] | (simp only [i64_w, i32_w]; rw [c4b0]) | skip)
     have H' := Aside0.mk H
     clear H
     go_wp2
     repeat (go_quiet (fail); try go_wp2)
     go_meet
     case rel => exact ⟨_, (false), (by first | rfl | (simp; done) | (simp [*]; done)), H', ⟨by have := HK1.out; first | omega | exact Nat.le_refl _⟩, by repeat (first | exact Drawn0.refl _ | apply Drawn0.step)⟩
   case rest =>
    clear HC3
    (try clear c4);(try clear c4b0)
    obtain ⟨kq, x15_2, rfl, HA, HJ2, ⟨mc2, rfl⟩⟩ := hcut
    cases kq with
    | zero => exact absurd HA.out (by simp [spec_cuLess.j1])
    | succ kj2 =>
     have H := HA.out
     clear HA
     simp only [spec_cuLess.j1] at H
     by_cases c5 : x15_2 = true
     ·subst c5
      rw [if_pos rfl] at H
      by_cases c6 : 0 ≤ x5_1
      ·rw [if_pos c6] at H
       have c6b0 : decide (0 ≤ x5_1) = true := decide_eq_true c6
       clear c6
       by_cases c7 : x5_1 < (l0.length : Int)
       ·rw [if_pos c7] at H
        have c7b0 : decide (x5_1 < (l0.length : Int)) = true := decide_eq_true c7
        clear c7
        by_cases c8 : x5_1 < (l1.length : Int)
        ·rw [if_pos c8] at H
         have c8b0 : decide (x5_1 < (l1.length : Int)) = true := decide_eq_true c8
         clear c8
         by_cases c9 : (rd l0 x5_1) = (rd l1 x5_1)
         ·rw [if_pos c9] at H
          have c9b0 : ((rd l0 x5_1) == (rd l1 x5_1)) = true := beq_iff_eq.mpr c9
          have c9b1 : ((rd l0 x5_1) != (rd l1 x5_1)) = false := bne_eq_false_iff_eq.mpr c9
          clear c9
          have H' := Aside0.mk H
          clear H
          have p125 : 0 ≤ (x5_1 : Int) := of_decide_eq_true (by first | (with_reducible assumption) | assumption)
          have q125 : x5_1 < (l0.length : Int) := of_decide_eq_true (by first | (with_reducible assumption) | assumption)
          obtain ⟨ad125, e125, hx125_0⟩ := Kd.at_int HR0.out x5_1 p125 q125
          cases e125
          replace p125 := eq_true p125
          replace q125 := eq_true q125
          have p126 : 0 ≤ (x5_1 : Int) := of_decide_eq_true (by first | (with_reducible assumption) | assumption)
          have q126 : x5_1 < (l1.length : Int) := of_decide_eq_true (by first | (with_reducible assumption) | assumption)
          obtain ⟨ad126, e126, hx126_0⟩ := Kd.at_int HR1.out x5_1 p126 q126
          cases e126
          replace p126 := eq_true p126
          replace q126 := eq_true q126
          go_wp2
          repeat (go_quiet (fail); try go_wp2)
          go_roundg kj2
          case measure => have := HK1.out; have := HJ2.out; omega
          case rel => exact ⟨(wrap64 (x5_1 + 1)), (by first | rfl | (simp; done) | (simp [*]; done)), H', ⟨by have := HK1.out; have := HJ2.out; omega⟩, by repeat (first | exact Drawn0.refl _ | apply Drawn0.step)⟩
         ·rw [if_neg c9] at H
          have c9b0 : ((rd l0 x5_1) == (rd l1 x5_1)) = false := beq_eq_false_iff_ne.mpr c9
          have c9b1 : ((rd l0 x5_1) != (rd l1 x5_1)) = true := bne_iff_ne.mpr c9
          obtain rfl := Option.some.inj H
          simp only [Option.some.injEq, Prod.mk.injEq] at H
          obtain ⟨rfl⟩ := H
          have p125 : 0 ≤ (x5_1 : Int) := of_decide_eq_true (by first | (with_reducible assumption) | assumption)
          have q125 : x5_1 < (l0.length : Int) := of_decide_eq_true (by first | (with_reducible assumption) | assumption)
          obtain ⟨ad125, e125, hx125_0⟩ := Kd.at_int HR0.out x5_1 p125 q125
          cases e125
          replace p125 := eq_true p125
          replace q125 := eq_true q125
          have p126 : 0 ≤ (x5_1 : Int) := of_decide_eq_true (by first | (with_reducible assumption) | assumption)
          have q126 : x5_1 < (l1.length : Int) := of_decide_eq_true (by first | (with_reducible assumption) | assumption)
          obtain ⟨ad126, e126, hx126_0⟩ := Kd.at_int HR1.out x5_1 p126 q126
          cases e126
          replace p126 := eq_true p126
          replace q126 := eq_true q126
          have p127 : 0 ≤ (x5_1 : Int) := of_decide_eq_true (by first | (with_reducible assumption) | assumption)
          have q127 : x5_1 < (l0.length : Int) := of_decide_eq_true (by first | (with_reducible assumption) | assumption)
          obtain ⟨ad127, e127, hx127_0⟩ := Kd.at_int HR0.out x5_1 p127 q127
          obtain rfl : ad125 = ad127 := (by injection e127)
          replace p127 := eq_true p127
          replace q127 := eq_true q127
          have p128 : 0 ≤ (x5_1 : Int) := of_decide_eq_true (by first | (with_reducible assumption) | assumption)
          have q128 : x5_1 < (l1.length : Int) := of_decide_eq_true (by first | (with_reducible assumption) | assumption)
          obtain ⟨ad128, e128, hx128_0⟩ := Kd.at_int HR1.out x5_1 p128 q128
          obtain rfl : ad126 = ad128 := (by injection e128)
          replace p128 := eq_true p128
          replace q128 := eq_true q128
          go_wp2
          repeat (go_quiet (fail); try go_wp2)
          go_ret
          exact ⟨by first | rfl | (simp; done) | (simp [*]; done), by repeat (first | exact Drawn0.refl _ | apply Drawn0.step)⟩
        ·rw [if_neg c8] at H
         exact absurd H (by simp)
       ·rw [if_neg c7] at H
        exact absurd H (by simp)
      ·rw [if_neg c6] at H
       exact absurd H (by simp)
     ·replace c5 := Bool.eq_false_iff.mpr c5
      subst c5
      rw [if_neg (show ¬ (false = true) by decide)] at H
      obtain rfl := Option.some.inj H
      simp only [Option.some.injEq, Prod.mk.injEq] at H
      obtain ⟨rfl⟩ := H
      go_wp2
      repeat (go_quiet (fail); try go_wp2)
      go_ret
      exact ⟨by first | rfl | (simp; done) | (simp [*]; done), by repeat (first | exact Drawn0.refl _ | apply Drawn0.step)⟩

end Go.Proofs.Ytggocekjhohhcaa.P

/- What cuLess tells: the order of a dictionary. -/
namespace Go.Proofs.Ytggocekjhohhcaa.P
set_option linter.unusedVariables false
open Go.RowKit Go.Proofs.YtggocekjhohhcaaW.PrintWords
theorem rd_get {a : List Int} {i : Nat} (h : i < a.length) : rd a (i : Int) = a[i] := by
  unfold rd
  simp [List.getD, h]
theorem cuLess_at (a b : List Int) (ha : a.length ≤ 9223372036854775807) : ∀ (d i : Nat), a.length - i = d → i ≤ a.length → ∃ k, spec_cuLess.l0 k a b i = some (Lex.lt (a.drop i) (b.drop i))
  | 0, i, hd, hi => by
    have e : i = a.length := by omega
    subst e
    refine ⟨2, ?_⟩
    simp only [spec_cuLess.l0]
    rw [if_neg (by omega)]
    simp only [spec_cuLess.j1]
    rw [if_neg (by decide), List.drop_length]
    by_cases hb : a.length < b.length
    · rw [List.drop_eq_getElem_cons hb]
      simp [Lex.lt, hb]
    · rw [List.drop_of_length_le (by omega)]
      simp [Lex.lt]; omega
  | d + 1, i, hd, hi => by
    have hia : i < a.length := by omega
    rw [List.drop_eq_getElem_cons hia]
    by_cases hib : i < b.length
    · rw [List.drop_eq_getElem_cons hib, Lex.lt]
      by_cases he : a[i] = b[i]
      · obtain ⟨k, hk⟩ := cuLess_at a b ha d (i + 1) (by omega) (by omega)
        refine ⟨k + 2, ?_⟩
        simp only [spec_cuLess.l0]
        rw [if_pos (by omega)]
        simp only [spec_cuLess.j1]
        rw [if_pos (by simp; omega), if_pos (by omega), if_pos (by omega), if_pos (by omega), rd_get hia, rd_get hib, if_pos he]
        rw [show wrap64 ((i : Int) + 1) = ((i + 1 : Nat) : Int) from by unfold wrap64; omega, hk, he, if_neg (by omega), if_neg (by omega)]
      · refine ⟨2, ?_⟩
        simp only [spec_cuLess.l0]
        rw [if_pos (by omega)]
        simp only [spec_cuLess.j1]
        rw [if_pos (by simp; omega), if_pos (by omega), if_pos (by omega), if_pos (by omega), rd_get hia, rd_get hib, if_neg he]
        by_cases hl : a[i] < b[i]
        · rw [if_pos hl, decide_eq_true hl]
        · rw [if_neg hl, if_pos (by omega), decide_eq_false hl]
    · rw [List.drop_of_length_le (l := b) (by omega)]
      refine ⟨2, ?_⟩
      simp only [spec_cuLess.l0]
      rw [if_pos (by omega)]
      simp only [spec_cuLess.j1]
      rw [if_neg (by simp; omega)]
      simp [Lex.lt]; omega
theorem cuLess_lt (a b : List Int) (ha : a.length ≤ 9223372036854775807) : ∃ k, spec_cuLess.f k a b = some (Lex.lt a b) := by
  obtain ⟨k, hk⟩ := cuLess_at a b ha a.length 0 (by omega) (by omega)
  exact ⟨k, hk⟩
end Go.Proofs.Ytggocekjhohhcaa.P

/- What cuSorted hands back: a new row of the same rows, in order. -/
namespace Go.Proofs.Ytggocekjhohhcaa.P
set_option linter.unusedVariables false
set_option linter.unusedSimpArgs false
open Go.RowKit Go.Proofs.YtggocekjhohhcaaW.PrintWords Go.Proofs.YtggocekjhohhcaaW.PrintLast Go.Proofs.YtggocekjhohhcaaW.PrintMore
abbrev SV := Option Addr × Nat × Nat
def encSV (p : SV) : Value := .slice p.1 p.2.1 p.2.2
abbrev kSV : Kd SV := Kd.scalar encSV (fun _ => rfl)
/-- A slice, the list that it reads as, and a mark. -/
abbrev El := SV × List Int × Nat
/-- A slice of whole numbers that reads as a list. -/
structure Rd (w : World) (p : El) : Prop where
  len : p.1.2.1 = p.2.1.length
  cap : p.2.1.length ≤ p.1.2.2
  row : Kd.C (Kd.int .i64) w p.1.1 p.2.1.length p.2.1
  small : p.2.1.length ≤ 9223372036854775807
theorem Rd.below {w w1 : World} {p : El} (h : Rd w p) (hb : Below w.heap.size w w1) : Rd w1 p := ⟨h.len, h.cap, Kd.C_below h.row hb, h.small⟩
def insP (x : El) : List (El) → List (El)
  | [] => [x]
  | y :: l => if Lex.lt y.2.1 x.2.1 then y :: insP x l else x :: y :: l
def sortP (ps : List (El)) : List (El) := ps.foldl (fun o x => insP x o) []
theorem insP_snd (x : El) : ∀ l, (insP x l).map (·.2.1) = Lex.ins x.2.1 (l.map (·.2.1))
  | [] => rfl
  | y :: l => by
    rw [List.map_cons, insP, Lex.ins]
    split
    · rw [List.map_cons, insP_snd x l]
    · rfl
theorem foldP_snd : ∀ (ps o : List (El)), (ps.foldl (fun o x => insP x o) o).map (·.2.1) = (ps.map (·.2.1)).foldl (fun o x => Lex.ins x o) (o.map (·.2.1))
  | [], _ => rfl
  | p :: ps, o => by rw [List.foldl_cons, foldP_snd ps, insP_snd, List.map_cons, List.foldl_cons]
theorem sortP_snd (ps : List (El)) : (sortP ps).map (·.2.1) = Lex.sort (ps.map (·.2.1)) := foldP_snd ps []
theorem insP_perm (x : El) : ∀ l, (insP x l).Perm (x :: l)
  | [] => List.Perm.refl _
  | y :: l => by
    unfold insP
    split
    · exact ((insP_perm x l).cons y).trans (List.Perm.swap _ _ _)
    · exact List.Perm.refl _
theorem foldP_perm : ∀ (l o : List (El)), (l.foldl (fun o x => insP x o) o).Perm (o ++ l)
  | [], o => by rw [List.append_nil]; exact List.Perm.refl _
  | x :: l, o => by
    rw [List.foldl_cons]
    refine (foldP_perm l _).trans (((insP_perm x o).append_right l).trans ?_)
    rw [List.cons_append]
    exact List.perm_middle.symm
theorem sortP_perm (ps : List (El)) : (sortP ps).Perm ps := foldP_perm ps []
theorem insP_at (x : El) : ∀ (o : List (El)) (k : Nat), k ≤ o.length → (∀ j (h : j < o.length), j < k → Lex.lt o[j].2.1 x.2.1 = true) → (∀ (h : k < o.length), Lex.lt o[k].2.1 x.2.1 = false) → insP x o = o.take k ++ [x] ++ o.drop k
  | [], k, hk, _, _ => by
    have : k = 0 := by simpa using hk
    subst this; rfl
  | y :: o, 0, hk, _, h2 => by
    have := h2 (by simp)
    simp only [List.getElem_cons_zero] at this
    rw [insP, if_neg (by rw [this]; decide)]
    rfl
  | y :: o, k + 1, hk, h1, h2 => by
    have := h1 0 (by simp) (by omega)
    simp only [List.getElem_cons_zero] at this
    rw [insP, if_pos this, insP_at x o k (by simpa using hk) (fun j hj hjk => by have := h1 (j + 1) (by simpa using hj) (by omega); simpa only [List.getElem_cons_succ] using this) (fun hk' => by have := h2 (by simpa using hk'); simpa only [List.getElem_cons_succ] using this)]
    rfl
theorem sortP_take {ps : List (El)} {i : Nat} (h : i < ps.length) : sortP (ps.take (i + 1)) = insP ps[i] (sortP (ps.take i)) := by
  rw [List.take_succ_eq_append_getElem h]
  unfold sortP
  rw [List.foldl_append]
  rfl
theorem rowInfo : (Try.prog.info? 34).map (fun i => (i.zero, i.size, i.bytes)) = some (some (.slice none 0 0), 1, 24) := by kernel_rfl
set_option maxHeartbeats 4000000 in
set_option maxRecDepth 100000 in
theorem spec_cuSorted.walk (A0 : Option Addr) (c0 : Nat) (ps : List (El)) (w : World) (hr : Kd.C kSV w A0 ps.length (ps.map (·.1))) (hc : ps.length ≤ c0) (hrd : ∀ p ∈ ps, Rd w p) (hn : ps.length ≤ 4294967296) :
    Calls Try.prog 72 #[.slice A0 ps.length c0] w fun e w' => ∃ v, e = .returned v ∧ Kd.R kSV 34 w' w.heap.size (fun _ => True) v ((sortP ps).map (·.1)) ∧ Below w.heap.size w w' := by
  have HR := Aside0.mk hr
  have HRD := Aside0.mk hrd
  clear hr hrd
  have hu24 := Try.underlying24
  have hu34 := Try.underlying34
  go_enter Try.func72, Try.ntmps72
  go_wp2
  go_loopg [3, 10] ps.length (fun gg v3 v10 wr => ∃ i : Nat, i ≤ ps.length ∧ ps.length - i ≤ gg ∧ v10 = .int .i64 i ∧ Aside0 (Kd.R kSV 34 wr w.heap.size (fun _ => True) v3 ((sortP (ps.take i)).map (·.1))) ∧ Aside0 (Below w.heap.size w wr))
  case atStart => exact ⟨0, Nat.zero_le _, by omega, rfl, ⟨Kd.R_nil _ _ _ _ _⟩, ⟨Below.refl _ _⟩⟩
  case round =>
    obtain ⟨i, hi, hg, rfl, HO, HB⟩ := hrel
    by_cases hlt : i < ps.length
    · have hltz : (i : Int) < (ps.length : Int) := by omega
      obtain ⟨b, o, hA, hb, hcell⟩ := row_cells (d := kSV) (xs := ps.map (·.1)) (by decide) (by rw [List.length_map]; exact HR.out) (by intro e; have := congrArg List.length e; rw [List.length_map, List.length_nil] at this; omega)
      have hxr := HRD.out ps[i] (List.getElem_mem hlt)
      have hxc : wr.cell? ⟨b, o + i, none⟩ = some (encSV ps[i].1) := by
        obtain ⟨c, _, hk, hcc⟩ := hcell i ps[i].1 (by simp [hlt])
        have : c = [encSV ps[i].1] := hk
        subst this
        have h9 := hcc 0 _ rfl
        rw [show o + i * kSV.sz + 0 = o + i from by show o + i * 1 + 0 = o + i; omega] at h9
        exact (HB.out.cell (p := ⟨b, o + i, none⟩) hb).trans h9
      have hst := sortP_take hlt
      have hol : (sortP (ps.take i)).length = i := by rw [(sortP_perm _).length_eq, List.length_take]; omega
      have hor : ∀ p ∈ sortP (ps.take i), Rd w p := fun p hp => HRD.out p (List.mem_of_mem_take ((sortP_perm _).mem_iff.1 hp))
      generalize sortP (ps.take i) = out at HO hst hol hor
      obtain ⟨⟨⟨xa, xl, xc⟩, xs, xt⟩, hx⟩ : ∃ x, ps[i] = x := ⟨_, rfl⟩
      rw [hx] at hxr hxc hst
      obtain rfl : xl = xs.length := hxr.len
      subst hA
      have hxc' : wr.cell? ⟨b, o + i, none⟩ = some (.slice xa xs.length xc) := hxc
      have HX := Aside0.mk hxr
      have HST := Aside0.mk hst
      have HOR := Aside0.mk hor
      have HOL := Aside0.mk hol
      clear hcell hxr hxc hst hor hx hol
      obtain ⟨A3, c3, e3, hl3, HC3⟩ := Kd.R_reads HO.out
      rw [List.length_map, HOL.out] at e3 hl3 HC3
      subst e3
      have HC3' := Aside0.mk HC3
      clear HC3
      go_upto_block 2 with (fail)
      go_cut [6] (fun v6 wc => ∃ k : Nat, k ≤ i ∧ v6 = .int .i64 k ∧ Aside0 (∀ j (h : j < out.length), j < k → Lex.lt out[j].2.1 xs = true) ∧ Aside0 (∀ (h : k < out.length), Lex.lt out[k].2.1 xs = false) ∧ Aside0 (Below wr.heap.size wr wc))
      case first =>
        go_wp2_with fail
        go_loopg [6] i (fun g2 v6 wr2 => ∃ k : Nat, k ≤ i ∧ i - k ≤ g2 ∧ v6 = .int .i64 k ∧ Aside0 (∀ j (h : j < out.length), j < k → Lex.lt out[j].2.1 xs = true) ∧ Aside0 (Below wr.heap.size wr wr2))
        case atStart => exact ⟨0, Nat.zero_le _, by omega, rfl, ⟨fun _ _ h => absurd h (Nat.not_lt_zero _)⟩, ⟨Below.refl _ _⟩⟩
        case round =>
          obtain ⟨k, hk, hg2, rfl, HL, HBI⟩ := hrel
          by_cases hki : k < i
          · have hkz : (k : Int) < (i : Int) := by omega
            have hko : k < out.length := by rw [HOL.out]; exact hki
            obtain ⟨b3, o3, hA3, hb3, hcell3⟩ := row_cells (d := kSV) (xs := out.map (·.1)) (by decide) (by rw [List.length_map, HOL.out]; exact Kd.C_below HC3'.out HBI.out) (by intro e; have := congrArg List.length e; rw [List.length_map, List.length_nil] at this; omega)
            subst hA3
            have hyr := (HOR.out out[k] (List.getElem_mem hko)).below (HB.out.trans (HBI.out.mono HB.out.size))
            have hyc : wr.cell? ⟨b3, o3 + k, none⟩ = some (encSV out[k].1) := by
              obtain ⟨c, _, hk, hcc⟩ := hcell3 k out[k].1 (by simp [hko])
              have : c = [encSV out[k].1] := hk
              subst this
              have h9 := hcc 0 _ rfl
              rw [show o3 + k * kSV.sz + 0 = o3 + k from by show o3 + k * 1 + 0 = o3 + k; omega] at h9
              exact h9
            clear hcell3
            obtain ⟨⟨⟨ya, yl, yc⟩, ys, yt⟩, hy⟩ : ∃ y, out[k] = y := ⟨_, rfl⟩
            rw [hy] at hyr hyc
            obtain rfl : yl = ys.length := hyr.len
            have hyc' : wr.cell? ⟨b3, o3 + k, none⟩ = some (.slice ya ys.length yc) := hyc
            obtain ⟨kq, hkq⟩ := cuLess_lt ys xs hyr.small
            have hxr := HX.out.below (HB.out.trans (HBI.out.mono HB.out.size))
            have HY := Aside0.mk hy
            have HYR := Aside0.mk hyr
            have HXR := Aside0.mk hxr
            clear hyc hy hyr hxr
            cases hq : Lex.lt ys xs with
            | false =>
              rw [hq] at hkq
              have HQ := Aside0.mk hkq
              have HF := Aside0.mk hq
              clear hkq hq
              go_wp2_with (go_at_call 96; refine (spec_cuLess.calls kq ya yc ys xa xc xs false _ HYR.out.row HYR.out.cap HXR.out.row HXR.out.cap HQ.out).mono ?_; rintro e w' ⟨rfl, hd⟩)
              go_meet
              case rel => exact ⟨k, hk, rfl, HL, ⟨fun _ => by rw [HY.out]; exact HF.out⟩, ⟨HBI.out.trans (hd.below.mono HBI.out.size)⟩⟩
            | true =>
              rw [hq] at hkq
              have HQ := Aside0.mk hkq
              have HF := Aside0.mk hq
              clear hkq hq
              go_wp2_with (go_at_call 96; refine (spec_cuLess.calls kq ya yc ys xa xc xs true _ HYR.out.row HYR.out.cap HXR.out.row HXR.out.cap HQ.out).mono ?_; rintro e w' ⟨rfl, hd⟩)
              go_roundg (i - (k + 1))
              case measure => omega
              case rel =>
                refine ⟨k + 1, by omega, by omega, by go_num, ⟨fun j h hj => ?_⟩, ⟨HBI.out.trans (hd.below.mono HBI.out.size)⟩⟩
                by_cases hjk : j = k
                · subst hjk; rw [HY.out]; exact HF.out
                · exact HL.out j h (by omega)
          · have hkz : ¬ (k : Int) < (i : Int) := by omega
            have e : k = i := by omega
            subst e
            go_wp2
            go_meet
            case rel => exact ⟨k, Nat.le_refl _, rfl, HL, ⟨fun h => by have := HOL.out; omega⟩, HBI⟩
      case rest =>
        obtain ⟨k, hk, rfl, HL, HF, HBW⟩ := hcut
        have HST' := HST.out
        rw [insP_at _ out k (by rw [HOL.out]; exact hk) HL.out HF.out] at HST'
        have HSS := Aside0.mk HST'
        clear HST' HST HL HF
        have HC := Aside0.mk (Kd.C_below HC3'.out HBW.out)
        have HBB := Aside0.mk (HB.out.trans (HBW.out.mono HB.out.size))
        clear HC3'
        obtain ⟨i0, hi0, _, hsz, _⟩ := info_parts rowInfo
        have hto := cut_to (P := Try.prog) 24 34 .i64 hu24 hi0 A3 i c3 k (by omega) (by omega) hl3
        have hfrom := cut_from (P := Try.prog) 24 34 .i64 hu24 hi0 1 hsz A3 i c3 k (by omega) (by omega)
        rw [Int.toNat_natCast] at hto hfrom
        obtain ⟨Ad, hAd⟩ : ∃ Ad, (if c3 = k then A3 else A3.map (·.add (k * 1))) = Ad := ⟨_, rfl⟩
        have hfrom' : ∀ W : World, (Instr.slice 24 (.slice A3 i c3) (some (.int .i64 k)) none none).run Try.prog W = .ok (.slice Ad (i - k) (c3 - k)) W := fun W => by rw [hfrom W, hAd]
        have HAD := Aside0.mk hAd
        clear hfrom hAd hi0 hsz
        have hlm : (out.map (·.1)).length = i := by rw [List.length_map]; exact HOL.out
        have HT := Aside0.mk (show ∀ W, Below wc.heap.size wc W → kSV.C W A3 k ((out.map (·.1)).take k) from fun W hW => by
          have h := Kd.C_take (m := k) (k := kSV) (xs := out.map (·.1)) (w := W) (A := A3) (by rw [hlm]; exact Kd.C_below HC.out hW) (by rw [hlm]; exact hk)
          rwa [List.length_take, hlm, Nat.min_eq_left hk] at h)
        have HD := Aside0.mk (show ∀ W, Below wc.heap.size wc W → kSV.C W Ad (i - k) ((out.map (·.1)).drop k) from fun W hW => by
          have h := Kd.C_drop (m := k) (k := kSV) (xs := out.map (·.1)) (w := W) (A := A3) (c := c3) (by rw [hlm]; exact Kd.C_below HC.out hW) (by rw [hlm]; exact hk) (by rw [hlm]; exact hl3)
          rw [List.length_drop, hlm] at h
          rw [← HAD.out]; exact h)
        have HLM := Aside0.mk hlm
        clear hlm HC HAD HO
        go_wp2_with (first
          | ((with_reducible refine gate_dst (N := 28) rfl ?_); refine Kd.R_lit kSV (w0 := wc) wc.heap.size 34 ?hg (N := 28) ?hd (xs := ([] : List SV)) (inner := []) (ok := fun _ => True) (okp := fun _ => True) ?hr ?hp (fun _ hk => hk) trivial (Below.refl _ _) (Nat.le_refl _) (by simp) ?_; (case hd => rfl); (case hg => rfl); (case hr => first | (go_simp; done) | (go_simp; rfl)); (case hp => exact (Reps.none _ _)); intro v28 w28 ho hb hg_ hn_; have H28 := Aside0.mk ho; have B28 := Aside0.mk hb; clear ho hb hg_ hn_)
          | ((with_reducible refine gate_builtin (b := .append) (xs := #[.tmp 28, .tmp 31]) rfl ?_); at_builtin; refine Kd.R_append_row encSV ((none, 0, 0) : SV) (h1 := fun _ => rfl) (w0 := wc) wc.heap.size rfl (.tmp 28) (.tmp 31) 24 34 (.slice none 0 0) 24 rfl hu24 rowInfo rfl (by omega) v28 [] ((out.map (·.1)).take k) A3 k c3 (fun _ => True) rfl rfl (fun _ _ => trivial) H28.out (HT.out _ B28.out) B28.out (below_size B28.out) (by simp; omega) ?_; intro v32 w32 ho hb hg_ hat; have H32 := Aside0.mk ho; have B32 := Aside0.mk hb; clear ho hb hg_ hat)
          | ((with_reducible refine gate_builtin (b := .append) (xs := #[.tmp 32, .tmp 34]) rfl ?_); at_builtin; refine Kd.R_append kSV (w0 := wc) wc.heap.size rfl (.tmp 32) (.tmp 34) 24 34 (.slice none 0 0) 24 rfl hu24 rowInfo rfl (by decide) (by omega) v32 ([] ++ (out.map (·.1)).take k) ((xa, xs.length, xc) : SV) [.slice xa xs.length xc] (fun _ => True) (fun _ => False) rfl rfl rfl (fun _ hk => hk.elim) (fun _ _ => trivial) H32.out B32.out (below_size B32.out) (by simp; omega) ?_; intro v35 w35 ho hb hg_ hat; have H35 := Aside0.mk ho; have B35 := Aside0.mk hb; clear ho hb hg_ hat)
          | ((with_reducible refine gate_builtin (b := .append) (xs := #[.tmp 36, .tmp 39]) rfl ?_); at_builtin; refine Kd.R_append_row encSV ((none, 0, 0) : SV) (h1 := fun _ => rfl) (w0 := wc) wc.heap.size rfl (.tmp 36) (.tmp 39) 24 34 (.slice none 0 0) 24 rfl hu24 rowInfo rfl (by omega) v35 ([] ++ (out.map (·.1)).take k ++ [((xa, xs.length, xc) : SV)]) ((out.map (·.1)).drop k) Ad (i - k) (c3 - k) (fun _ => True) rfl rfl (fun _ _ => trivial) H35.out (HD.out _ B35.out) B35.out (below_size B35.out) (by simp; omega) ?_; intro v40 w40 ho hb hg_ hat; have H40 := Aside0.mk ho; have B40 := Aside0.mk hb; clear ho hb hg_ hat))
        go_roundg (ps.length - (i + 1))
        case measure => omega
        case rel =>
          refine ⟨i + 1, by omega, by omega, by go_num, ⟨?_⟩, ⟨HBB.out.trans (B40.out.mono HBB.out.size)⟩⟩
          have h := Kd.R_lower H40.out HBB.out.size
          rw [HSS.out, List.map_append, List.map_append, List.map_take, List.map_drop]
          exact h
    · have hltz : ¬ (i : Int) < (ps.length : Int) := by omega
      have e : i = ps.length := by omega
      subst e
      go_wp2
      go_ret
      rw [List.take_length] at HO
      exact ⟨_, rfl, HO.out, HB.out⟩
end Go.Proofs.Ytggocekjhohhcaa.P

/- cuSorted on a row of rows of the call's own. -/
namespace Go.Proofs.Ytggocekjhohhcaa.P
set_option linter.unusedVariables false
set_option linter.unusedSimpArgs false
open Go.RowKit Go.Proofs.YtggocekjhohhcaaW.PrintWords Go.Proofs.YtggocekjhohhcaaW.PrintLast Go.Proofs.YtggocekjhohhcaaW.PrintMore
theorem list_choice {α : Type} {n : Nat} {P : Nat → α → Prop} (h : ∀ j, j < n → ∃ x, P j x) : ∃ l : List α, l.length = n ∧ ∀ j (hj : j < l.length), P j l[j] :=
  ⟨List.ofFn fun j : Fin n => Classical.choose (h j.1 j.2), by rw [List.length_ofFn], fun j hj => by
    rw [List.getElem_ofFn]
    exact Classical.choose_spec (h j (by rw [List.length_ofFn] at hj; exact hj))⟩
theorem idxOf_at {l : List Nat} (hnd : l.Nodup) (j : Nat) (hj : j < l.length) : l.idxOf l[j] = j := by
  induction l generalizing j with
  | nil => cases hj
  | cons a l ih =>
    obtain ⟨h1, h2⟩ := List.nodup_cons.1 hnd
    cases j with
    | zero => simp
    | succ j =>
      have hj' : j < l.length := by simpa using hj
      have hne : a ≠ l[j] := fun e => h1 (e ▸ List.getElem_mem hj')
      have hb : (a == l[j]) = false := by simpa using hne
      rw [List.getElem_cons_succ, List.idxOf_cons, hb, ih h2 j hj']
      rfl
abbrev kRow : Kd (List Int) := Kd.slice 3 (Kd.int .i64)
/-- A row of rows that lie apart, told by its slices, with their numbers. -/
theorem S_els {w : World} {base : Nat} {ok : Nat → Prop} {v : Value} {rows : List (List Int)} (h : Kd.S kRow 34 w base ok v rows) :
    ∃ (f : Nat → Nat) (ps : List El), ps.map (·.2.1) = rows ∧ ps.map (·.2.2) = List.range rows.length ∧ kSV.R 34 w base ok v (ps.map (·.1)) ∧
      ∀ p ∈ ps, (Kd.int .i64).R 3 w base (fun k => (ok k ∧ some k ≠ v.ownBlock) ∧ f k = p.2.2) (encSV p.1) p.2.1 := by
  obtain ⟨f, h0, inner, ho, hr⟩ := h
  have hz : rows.zipIdx.length = rows.length := List.length_zipIdx
  obtain ⟨ps, hl, hp⟩ : ∃ ps : List El, ps.length = rows.length ∧ ∀ j (hj : j < ps.length), (ps[j].2.2 = j ∧ rows[j]? = some ps[j].2.1 ∧ inner[j]? = some (encSV ps[j].1) ∧ (Kd.int .i64).R 3 w base (fun k => (ok k ∧ some k ≠ v.ownBlock) ∧ f k = j) (encSV ps[j].1) ps[j].2.1) := by
    refine list_choice (P := fun j (p : El) => p.2.2 = j ∧ rows[j]? = some p.2.1 ∧ inner[j]? = some (encSV p.1) ∧ (Kd.int .i64).R 3 w base (fun k => (ok k ∧ some k ≠ v.ownBlock) ∧ f k = j) (encSV p.1) p.2.1) fun j hj => ?_
    have h1 := hr.2 j (rows[j], j) (by rw [List.getElem?_zipIdx]; simp [hj])
    obtain ⟨u, hu, hR⟩ := h1
    obtain ⟨A, c, rfl, -⟩ := Kd.R_reads hR
    refine ⟨((A, rows[j].length, c), rows[j], j), rfl, by simp [hj], ?_, hR⟩
    have hil : j < inner.length := by have := hr.1; rw [hz] at this; have e : (Kd.tag f kRow).sz = 1 := rfl; rw [e] at this; omega
    have e1 : (Kd.tag f kRow).sz = 1 := rfl
    rw [e1, Nat.mul_one, List.drop_eq_getElem_cons hil] at hu
    have h5 := congrArg List.head? hu
    rw [List.take_succ_cons] at h5
    rw [List.getElem?_eq_getElem hil]
    exact h5
  have hlen : inner.length = ps.length := by have := hr.1; rw [hz] at this; have e : (Kd.tag f kRow).sz = 1 := rfl; rw [e] at this; omega
  have hin : inner = encs encSV (ps.map (·.1)) := by
    apply List.ext_getElem?
    intro j
    rcases Nat.lt_or_ge j ps.length with hj | hj
    · rw [(hp j hj).2.2.1]; simp [encs, hj]
    · rw [List.getElem?_eq_none (by omega), List.getElem?_eq_none (by simp [encs]; omega)]
  refine ⟨f, ps, ?_, ?_, ?_, ?_⟩
  · apply List.ext_getElem?
    intro j
    rcases Nat.lt_or_ge j ps.length with hj | hj
    · rw [(hp j hj).2.1]; simp [hj]
    · rw [List.getElem?_eq_none (by simp; omega), List.getElem?_eq_none (by omega)]
  · apply List.ext_getElem?
    intro j
    rcases Nat.lt_or_ge j ps.length with hj | hj
    · rw [List.getElem?_range (by omega)]; simp [hj, (hp j hj).1]
    · rw [List.getElem?_eq_none (by simp; omega), List.getElem?_eq_none (by simp; omega)]
  · refine Kd.R_of_own (enc := encSV) (h1 := fun _ => rfl) ?_ h0
    rw [← hin, List.length_map, hl, ← hz]
    exact ho
  · intro p hpm
    obtain ⟨j, hj, rfl⟩ := List.getElem_of_mem hpm
    have := (hp j hj).2.2.2
    rw [(hp j hj).1]
    exact this
/-- .. and told again out of its slices, in whatever order. -/
theorem S_of_els {w : World} {base : Nat} {ok : Nat → Prop} {v : Value} {f : Nat → Nat} {qs : List El} (ho : kSV.R 34 w base ok v (qs.map (·.1))) (hnd : (qs.map (·.2.2)).Nodup)
    (hq : ∀ p ∈ qs, (Kd.int .i64).R 3 w base (fun k => (ok k ∧ some k ≠ v.ownBlock) ∧ f k = p.2.2) (encSV p.1) p.2.1) : Kd.S kRow 34 w base ok v (qs.map (·.2.1)) := by
  refine ⟨fun k => (qs.map (·.2.2)).idxOf (f k), ho.1, encs encSV (qs.map (·.1)), ?_, ?_, ?_⟩
  · have := Kd.own_of_R ho
    rw [List.length_zipIdx, List.length_map]
    rw [List.length_map] at this
    exact this
  · simp [encs, Kd.tag, Kd.slice]
  · intro j p hj
    rw [List.getElem?_zipIdx] at hj
    have hjl : j < qs.length := by
      rcases Nat.lt_or_ge j qs.length with h | h
      · exact h
      · rw [List.getElem?_eq_none (by simp; omega)] at hj; cases hj
    simp [hjl] at hj
    subst hj
    refine ⟨encSV qs[j].1, ?_, ?_⟩
    · have e1 : (Kd.tag (fun k => (qs.map (·.2.2)).idxOf (f k)) kRow).sz = 1 := rfl
      rw [e1, Nat.mul_one, List.drop_eq_getElem_cons (by simp [encs]; exact hjl)]
      simp [encs]
    · refine Kd.R_mono (hq qs[j] (List.getElem_mem hjl)) fun k hk => ⟨hk.1, ?_⟩
      show (qs.map (·.2.2)).idxOf (f k) = j
      rw [hk.2]
      have h2 : (qs.map (·.2.2))[j]'(by simpa using hjl) = qs[j].2.2 := by simp
      rw [← h2]
      exact idxOf_at hnd j (by simpa using hjl)
theorem spec_cuSorted.S (v : Value) (rows : List (List Int)) (w : World) (base : Nat) (ok : Nat → Prop) (hb : base ≤ w.heap.size) (h : Kd.S kRow 34 w base ok v rows) (hn : rows.length ≤ 4294967296) :
    Calls Try.prog 72 #[v] w fun e w' => ∃ v', e = .returned v' ∧ Kd.S kRow 34 w' base (fun _ => True) v' (Lex.sort rows) ∧ Below w.heap.size w w' := by
  obtain ⟨f, ps, h1, h2, h3, h4⟩ := S_els h
  obtain ⟨A, c, rfl, hc, hC⟩ := Kd.R_reads h3
  have hl : ps.length = rows.length := by rw [← h1, List.length_map]
  rw [List.length_map] at hc hC ⊢
  refine (spec_cuSorted.walk A c ps w hC hc (fun p hp => ?_) (by omega)).mono ?_
  · have hR := h4 p hp
    obtain ⟨e1, e2, e3⟩ := Kd.R_reads' hR
    exact ⟨e1, by omega, e3, e3.2.1⟩
  · rintro e w' ⟨v', rfl, hR, hB⟩
    refine ⟨v', rfl, ?_, hB⟩
    rw [← h1, ← sortP_snd]
    refine S_of_els (f := f) (Kd.R_lower hR hb) ?_ fun p hp => ?_
    · have hpm := (sortP_perm ps).map (·.2.2)
      exact hpm.nodup_iff.2 (by rw [h2]; exact List.nodup_range)
    · have hR4 := h4 p ((sortP_perm ps).mem_iff.1 hp)
      exact Kd.R_mono (Kd.R_elder' hR4 (Kd.R_base hR) hB) fun k hk => ⟨⟨trivial, hk.2⟩, hk.1.2⟩
end Go.Proofs.Ytggocekjhohhcaa.P

/- A parameter that is a slice of diagonals, opened. -/
namespace Go.Proofs.Ytggocekjhohhcaa.P
set_option linter.unusedVariables false
open Go.RowKit Go.Proofs.YtggocekjhohhcaaW.PrintWords Go.ChangeShapes Go.WideShapes Go.Deep
section
variable {H : Type} {enc : TypeId × Value → H} {w : World} {base : Nat} {spare : Nat → Bool} {held : Bool}
theorem open_slice_fields {P : Program} {t e : TypeId} {fs : Array Field} {fuel : Nat} {cs : List Value} {x : DataW H × List MemPlace} (ht : P.underlying t = some (.slice e)) (he : P.underlying e = some (.struct fs))
    (hone : oneCellFields P fs = true) (hC : P.cellsOf e = fs.size) (h : DataW.trod enc P w base spare held fuel t cs = some x) :
    cs = [.slice none 0 0] ∨
    ∃ (a : Addr) (len cap m : Nat), cs = [.slice (some a) len cap] ∧ len ≤ cap ∧ cap ≤ maxLen ∧ len ≤ m ∧
      ∀ i, i < m → ∃ n : Nat, ∀ (j : Nat) (f : Field), fs[j]? = some f → ∃ (v : Value) (y : DataW H × List MemPlace), w.cell? (a.add (i * fs.size + j)) = some v ∧ DataW.trod enc P w base spare held n f.type [v] = some y := by
  rcases open_slice ht h with h0 | ⟨a, len, cap, m, n, D, Pl, hcs, hb, hl, hm, hmm, hx, hi⟩
  · exact .inl h0.1
  · refine .inr ⟨a, len, cap, m, hcs, hl, hm, ?_, fun i him => ?_⟩
    · rw [hmm]; split
      · exact hl
      · exact Nat.le_refl _
    · obtain ⟨cs', hc, ht'⟩ := hi i him
      rw [hC] at hc
      obtain ⟨ys, n', hn', hy, hlen, hyl, hf⟩ := DataW.trod_struct he ht'
      obtain ⟨_, hcl, hat⟩ := World.cells?_some hc
      refine ⟨n', fun j f hj => ?_⟩
      obtain ⟨ho, hk⟩ := hone_of hone j f hj
      have hjl : j < fs.size := (Array.getElem?_eq_some_iff.1 hj).1
      have hcell := hat j hjl
      have hv : cs'[j]? = some (cs'[j]'(by omega)) := List.getElem?_eq_getElem (by omega)
      have h1 := hf j f hj
      rw [ho, hk] at h1
      have hone' : (cs'.drop j).take 1 = [cs'[j]'(by omega)] := by
        rw [List.drop_eq_getElem_cons (by omega)]
        rfl
      rw [hone'] at h1
      have hys : ys[j]? = some (ys[j]'(by omega)) := List.getElem?_eq_getElem (by omega)
      refine ⟨_, _, ?_, h1.trans hys⟩
      rw [← Go.Deep.add_add, hcell, hv]
/-- What a slice of diagonals holds. -/
theorem open_dias {fuel : Nat} {a : Option Addr} {len cap : Nat} {x : DataW H × List MemPlace} (h : DataW.trod enc Try.prog w base spare held fuel 22 [.slice a len cap] = some x) :
    ∃ l : List S61, Kd.C k61 w a l.length l ∧ l.length = len ∧ l.length ≤ cap ∧ l.length ≤ 9223372036854775807 := by
  rcases open_slice_fields Try.underlying22 Try.underlying61 (by kernel_rfl) (by kernel_rfl) h with h0 | ⟨ad, l', c', m, hcs, hl, hm, hlm, hi⟩
  · simp at h0
    obtain ⟨rfl, rfl, rfl⟩ := h0
    exact ⟨[], ⟨rfl, by simp, fun hp => absurd hp (Nat.lt_irrefl _)⟩, rfl, Nat.zero_le _, Nat.zero_le _⟩
  · simp at hcs
    obtain ⟨rfl, rfl, rfl⟩ := hcs
    obtain ⟨l, hll, hlp⟩ := list_choice (n := len) (P := fun i (s : S61) => w.cell? (ad.add (i * 2 + 0)) = some (.int .i64 s.f0) ∧ w.cell? (ad.add (i * 2 + 1)) = some (.int .i64 s.f1)) fun i hi2 => by
      obtain ⟨n, hf⟩ := hi i (by omega)
      obtain ⟨v0, y0, hc0, ht0⟩ := hf 0 _ rfl
      obtain ⟨v1, y1, hc1, ht1⟩ := hf 1 _ rfl
      obtain ⟨z0, e0, -, -⟩ := DataW.trod_int Try.underlying3 ht0
      obtain ⟨z1, e1, -, -⟩ := DataW.trod_int Try.underlying3 ht1
      obtain rfl : v0 = .int .i64 z0 := by simpa using e0
      obtain rfl : v1 = .int .i64 z1 := by simpa using e1
      exact ⟨⟨z0, z1⟩, hc0, hc1⟩
    have hmx : cap ≤ 9223372036854775807 := hm
    refine ⟨l, ⟨rfl, by omega, fun hp => ⟨ad, rfl, fun j p hj => ?_⟩⟩, hll, by omega, by omega⟩
    have hjl : j < l.length := (List.getElem?_eq_some_iff.1 hj).1
    have hp2 := hlp j hjl
    have ep : l[j] = p := by rw [List.getElem?_eq_getElem hjl] at hj; exact Option.some.inj hj
    rw [ep] at hp2
    refine ⟨[.int .i64 p.f0, .int .i64 p.f1], rfl, k61_mk w p, fun i u hu => ?_⟩
    match i, hu with
    | 0, hu => cases hu; exact hp2.1
    | 1, hu => cases hu; exact hp2.2
    | i + 2, hu => simp at hu
end
end Go.Proofs.Ytggocekjhohhcaa.P

-- By a program of this session.
namespace Go.Proofs.Ytggocekjhohhcaa.P
open Go.RowKit Go.Proofs.YtggocekjhohhcaaW.PrintWords Go.Proofs.YtggocekjhohhcaaW.PrintLast Go.Proofs.YtggocekjhohhcaaW.PrintMore
attribute [local go_sem] max2_int min2_int max_two min_two max_three min_three max_four min_four
set_option linter.unusedVariables false
set_option linter.unusedSimpArgs false

/-! ### spec_l1In: function 57 -/
def spec_l1In.f (a0 : Int) (a1 : Int) (a2 : Int) : Option (Bool) := if a0 ≥ a1 then (some (decide (a0 ≤ a2))) else (some false)
set_option maxHeartbeats 8000000 in
set_option maxRecDepth 100000 in
theorem spec_l1In.calls (a0 : Int) (a1 : Int) (a2 : Int) (r : Bool) (w : World) (h : spec_l1In.f a0 a1 a2 = some r) :
  Calls Try.prog 57 #[.int .i64 a0, .int .i64 a1, .int .i64 a2] w fun e w' => e = .returned (.bool r) ∧ Drawn0 w w' := by
 have H : (if a0 ≥ a1 then (some (decide (a0 ≤ a2))) else (some false)) = some r := h
 clear h
 by_cases c4 : a0 ≥ a1
 ·rw [if_pos c4] at H
  have c4b0 : decide (a1 ≤ a0) = true := decide_eq_true c4
  clear c4
  obtain rfl := Option.some.inj H
  simp only [Option.some.injEq, Prod.mk.injEq] at H
  obtain ⟨rfl⟩ := H
  go_enter Try.func57, Try.ntmps57
  go_wp2
  go_ret
  exact ⟨by first | rfl | (simp; done) | (simp [*]; done), by repeat (first | exact Drawn0.refl _ | apply Drawn0.step)⟩
 ·rw [if_neg c4] at H
  have c4b0 : decide (a1 ≤ a0) = false := decide_eq_false c4
  clear c4
  obtain rfl := Option.some.inj H
  simp only [Option.some.injEq, Prod.mk.injEq] at H
  obtain ⟨rfl⟩ := H
  go_enter Try.func57, Try.ntmps57
  go_wp2
  go_ret
  exact ⟨by first | rfl | (simp; done) | (simp [*]; done), by repeat (first | exact Drawn0.refl _ | apply Drawn0.step)⟩

end Go.Proofs.Ytggocekjhohhcaa.P

-- By a program of this session.
namespace Go.Proofs.Ytggocekjhohhcaa.P
open Go.RowKit Go.Proofs.YtggocekjhohhcaaW.PrintWords Go.Proofs.YtggocekjhohhcaaW.PrintLast Go.Proofs.YtggocekjhohhcaaW.PrintMore
attribute [local go_sem] max2_int min2_int max_two min_two max_three min_three max_four min_four
set_option linter.unusedVariables false
set_option linter.unusedSimpArgs false

/-! ### spec_poIs: function 67 -/
def spec_poIs.f (a0 : Int) : Option (Bool) := (spec_l1In.f a0 3 12).bind fun t101 => (some t101)
set_option maxHeartbeats 8000000 in
set_option maxRecDepth 100000 in
theorem spec_poIs.calls (a0 : Int) (r : Bool) (w : World) (h : spec_poIs.f a0 = some r) :
  Calls Try.prog 67 #[.int .i64 a0] w fun e w' => e = .returned (.bool r) ∧ Drawn0 w w' := by
 have H : ((spec_l1In.f a0 3 12).bind fun t101 => (some t101)) = some r := h
 clear h
 replace H := Option.bind_eq_some_iff.mp H
 obtain ⟨t101, A20, H⟩ := H
 have A2 := Aside0.mk A20
 clear A20
 obtain rfl := Option.some.inj H
 simp only [Option.some.injEq, Prod.mk.injEq] at H
 obtain ⟨rfl⟩ := H
 go_enter Try.func67, Try.ntmps67
 go_wp2_with (first | ((with_reducible refine gate_callee (f := 57) rfl ?_); refine gof_ (some 4) Try.func57 #[.int .i64 a0, .int .i64 3, .int .i64 12] ?_; (with_reducible refine (spec_l1In.calls a0 3 12 t101 _ A2.out).mono ?_); rintro e w' ⟨rfl, ⟨nd, rfl⟩⟩; refine ⟨_, rfl, ?_⟩))
 go_ret
 exact ⟨by first | rfl | (simp; done) | (simp [*]; done), by repeat (first | exact Drawn0.refl _ | apply Drawn0.step)⟩

end Go.Proofs.Ytggocekjhohhcaa.P

-- By a program of this session.
namespace Go.Proofs.Ytggocekjhohhcaa.P
open Go.RowKit Go.Proofs.YtggocekjhohhcaaW.PrintWords Go.Proofs.YtggocekjhohhcaaW.PrintLast Go.Proofs.YtggocekjhohhcaaW.PrintMore
attribute [local go_sem] max2_int min2_int max_two min_two max_three min_three max_four min_four
set_option linter.unusedVariables false
set_option linter.unusedSimpArgs false

/-! ### spec_poDiagonal: function 68 -/
def spec_poDiagonal.f (a0 : Int) (a1_0 : Int) (a1_1 : Int) : Option (Bool) := (spec_poIs.f a0).bind fun t103 => (if t103 = true then ((spec_l1In.f a1_0 0 (wrap64 (a0 - 1))).bind fun t104 => (if t104 = true then ((spec_l1In.f a1_1 0 (wrap64 (a0 - 1))).bind fun t105 => (if t105 = true then (if (wrap64 (a1_1 - a1_0)) ≥ 2 then (some (decide ((wrap64 (a1_1 - a1_0)) ≤ (wrap64 (a0 - 2))))) else (some false)) else (some false))) else (some false))) else (some false))
set_option maxHeartbeats 8000000 in
set_option maxRecDepth 100000 in
theorem spec_poDiagonal.calls (a0 : Int) (a1_0 : Int) (a1_1 : Int) (r : Bool) (w : World) (h : spec_poDiagonal.f a0 a1_0 a1_1 = some r) :
  Calls Try.prog 68 #[.int .i64 a0, .agg #[.int .i64 a1_0, .int .i64 a1_1]] w fun e w' => e = .returned (.bool r) ∧ Below w.heap.size w w' := by
 have hu59 := Try.underlying59
 have HB := Aside0.mk (Below.refl w.heap.size w)
 have H := h
 clear h
 unfold spec_poDiagonal.f at H
 replace H := Option.bind_eq_some_iff.mp H
 obtain ⟨t103, A30, H⟩ := H
 have A3 := Aside0.mk A30
 clear A30
 by_cases c4 : t103 = true
 ·subst c4
  rw [if_pos rfl] at H
  replace H := Option.bind_eq_some_iff.mp H
  obtain ⟨t104, A50, H⟩ := H
  have A5 := Aside0.mk A50
  clear A50
  by_cases c6 : t104 = true
  ·subst c6
   rw [if_pos rfl] at H
   replace H := Option.bind_eq_some_iff.mp H
   obtain ⟨t105, A70, H⟩ := H
   have A7 := Aside0.mk A70
   clear A70
   by_cases c8 : t105 = true
   ·subst c8
    rw [if_pos rfl] at H
    by_cases c9 : (wrap64 (a1_1 - a1_0)) ≥ 2
    ·rw [if_pos c9] at H
     have c9b0 : decide (2 ≤ (wrap64 (a1_1 - a1_0))) = true := decide_eq_true c9
     clear c9
     obtain rfl := Option.some.inj H
     simp only [Option.some.injEq, Prod.mk.injEq] at H
     obtain ⟨rfl⟩ := H
     go_enter Try.func68, Try.ntmps68
     go_wp2_with (first | ((with_reducible refine gate_dst (N := 3) rfl ?_); refine box_ 3 #[.int .i64 a1_0, .int .i64 a1_1] 59 ?_; intro gb102 hg w10 hbox hb; have BK102 := Aside0.mk (hbox); have GW102 := ge_ HB hg; have GE102 := GW102; replace HB := hh HB hb; clear hb hbox hg) | ((with_reducible refine gate_callee (f := 67) rfl ?_); refine gof_ (some 6) Try.func67 #[.int .i64 a0] ?_; (with_reducible refine (spec_poIs.calls a0 true _ A3.out).mono ?_); rintro e w' ⟨rfl, ⟨nd, rfl⟩⟩; refine ⟨_, rfl, ?_⟩; obtain ⟨z11a, z11b, y11a, y11b⟩ := c2_ BK102) | (go_at_call 57; (with_reducible refine (spec_l1In.calls a1_0 0 (wrap64 (a0 - 1)) true _ A5.out).mono ?_); rintro e w' ⟨rfl, ⟨nd, rfl⟩⟩) | (go_at_call 57; (with_reducible refine (spec_l1In.calls a1_1 0 (wrap64 (a0 - 1)) true _ A7.out).mono ?_); rintro e w' ⟨rfl, ⟨nd, rfl⟩⟩))
     go_ret
     exact ⟨eqr, hk HB⟩
    ·rw [if_neg c9] at H
     have c9b0 : decide (2 ≤ (wrap64 (a1_1 - a1_0))) = false := decide_eq_false c9
     clear c9
     obtain rfl := Option.some.inj H
     simp only [Option.some.injEq, Prod.mk.injEq] at H
     obtain ⟨rfl⟩ := H
     go_enter Try.func68, Try.ntmps68
     go_wp2_with (first | ((with_reducible refine gate_dst (N := 3) rfl ?_); refine box_ 3 #[.int .i64 a1_0, .int .i64 a1_1] 59 ?_; intro gb102 hg w12 hbox hb; have BK102 := Aside0.mk (hbox); have GW102 := ge_ HB hg; have GE102 := GW102; replace HB := hh HB hb; clear hb hbox hg) | ((with_reducible refine gate_callee (f := 67) rfl ?_); refine gof_ (some 6) Try.func67 #[.int .i64 a0] ?_; (with_reducible refine (spec_poIs.calls a0 true _ A3.out).mono ?_); rintro e w' ⟨rfl, ⟨nd, rfl⟩⟩; refine ⟨_, rfl, ?_⟩; obtain ⟨z13a, z13b, y13a, y13b⟩ := c2_ BK102) | (go_at_call 57; (with_reducible refine (spec_l1In.calls a1_0 0 (wrap64 (a0 - 1)) true _ A5.out).mono ?_); rintro e w' ⟨rfl, ⟨nd, rfl⟩⟩) | (go_at_call 57; (with_reducible refine (spec_l1In.calls a1_1 0 (wrap64 (a0 - 1)) true _ A7.out).mono ?_); rintro e w' ⟨rfl, ⟨nd, rfl⟩⟩))
     go_ret
     exact ⟨eqr, hk HB⟩
   ·replace c8 := Bool.eq_false_iff.mpr c8
    subst c8
    rw [if_neg (show ¬ (false = true) by decide)] at H
    obtain rfl := Option.some.inj H
    simp only [Option.some.injEq, Prod.mk.injEq] at H
    obtain ⟨rfl⟩ := H
    go_enter Try.func68, Try.ntmps68
    go_wp2_with (first | ((with_reducible refine gate_dst (N := 3) rfl ?_); refine box_ 3 #[.int .i64 a1_0, .int .i64 a1_1] 59 ?_; intro gb102 hg w14 hbox hb; have BK102 := Aside0.mk (hbox); have GW102 := ge_ HB hg; have GE102 := GW102; replace HB := hh HB hb; clear hb hbox hg) | ((with_reducible refine gate_callee (f := 67) rfl ?_); refine gof_ (some 6) Try.func67 #[.int .i64 a0] ?_; (with_reducible refine (spec_poIs.calls a0 true _ A3.out).mono ?_); rintro e w' ⟨rfl, ⟨nd, rfl⟩⟩; refine ⟨_, rfl, ?_⟩; obtain ⟨z15a, z15b, y15a, y15b⟩ := c2_ BK102) | (go_at_call 57; (with_reducible refine (spec_l1In.calls a1_0 0 (wrap64 (a0 - 1)) true _ A5.out).mono ?_); rintro e w' ⟨rfl, ⟨nd, rfl⟩⟩) | (go_at_call 57; (with_reducible refine (spec_l1In.calls a1_1 0 (wrap64 (a0 - 1)) false _ A7.out).mono ?_); rintro e w' ⟨rfl, ⟨nd, rfl⟩⟩))
    go_ret
    exact ⟨eqr, hk HB⟩
  ·replace c6 := Bool.eq_false_iff.mpr c6
   subst c6
   rw [if_neg (show ¬ (false = true) by decide)] at H
   obtain rfl := Option.some.inj H
   simp only [Option.some.injEq, Prod.mk.injEq] at H
   obtain ⟨rfl⟩ := H
   go_enter Try.func68, Try.ntmps68
   go_wp2_with (first | ((with_reducible refine gate_dst (N := 3) rfl ?_); refine box_ 3 #[.int .i64 a1_0, .int .i64 a1_1] 59 ?_; intro gb102 hg w16 hbox hb; have BK102 := Aside0.mk (hbox); have GW102 := ge_ HB hg; have GE102 := GW102; replace HB := hh HB hb; clear hb hbox hg) | ((with_reducible refine gate_callee (f := 67) rfl ?_); refine gof_ (some 6) Try.func67 #[.int .i64 a0] ?_; (with_reducible refine (spec_poIs.calls a0 true _ A3.out).mono ?_); rintro e w' ⟨rfl, ⟨nd, rfl⟩⟩; refine ⟨_, rfl, ?_⟩; obtain ⟨z17a, z17b, y17a, y17b⟩ := c2_ BK102) | (go_at_call 57; (with_reducible refine (spec_l1In.calls a1_0 0 (wrap64 (a0 - 1)) false _ A5.out).mono ?_); rintro e w' ⟨rfl, ⟨nd, rfl⟩⟩))
   go_ret
   exact ⟨eqr, hk HB⟩
 ·replace c4 := Bool.eq_false_iff.mpr c4
  subst c4
  rw [if_neg (show ¬ (false = true) by decide)] at H
  obtain rfl := Option.some.inj H
  simp only [Option.some.injEq, Prod.mk.injEq] at H
  obtain ⟨rfl⟩ := H
  go_enter Try.func68, Try.ntmps68
  go_wp2_with (first | ((with_reducible refine gate_dst (N := 3) rfl ?_); refine box_ 3 #[.int .i64 a1_0, .int .i64 a1_1] 59 ?_; intro gb102 hg w18 hbox hb; have BK102 := Aside0.mk (hbox); have GW102 := ge_ HB hg; have GE102 := GW102; replace HB := hh HB hb; clear hb hbox hg) | ((with_reducible refine gate_callee (f := 67) rfl ?_); refine gof_ (some 6) Try.func67 #[.int .i64 a0] ?_; (with_reducible refine (spec_poIs.calls a0 false _ A3.out).mono ?_); rintro e w' ⟨rfl, ⟨nd, rfl⟩⟩; refine ⟨_, rfl, ?_⟩))
  go_ret
  exact ⟨eqr, hk HB⟩

end Go.Proofs.Ytggocekjhohhcaa.P

-- By a program of this session.
namespace Go.Proofs.Ytggocekjhohhcaa.P
open Go.RowKit Go.Proofs.YtggocekjhohhcaaW.PrintWords Go.Proofs.YtggocekjhohhcaaW.PrintLast Go.Proofs.YtggocekjhohhcaaW.PrintMore
attribute [local go_sem] max2_int min2_int max_two min_two max_three min_three max_four min_four
set_option linter.unusedVariables false
set_option linter.unusedSimpArgs false

/-! ### spec_poLess: function 69 -/
def spec_poLess.f (a0_0 : Int) (a0_1 : Int) (a1_0 : Int) (a1_1 : Int) : Option (Bool) := if a0_0 < a1_0 then (some true) else (if a0_0 = a1_0 then (some (decide (a0_1 < a1_1))) else (some false))
set_option maxHeartbeats 8000000 in
set_option maxRecDepth 100000 in
theorem spec_poLess.calls (a0_0 : Int) (a0_1 : Int) (a1_0 : Int) (a1_1 : Int) (r : Bool) (w : World) (h : spec_poLess.f a0_0 a0_1 a1_0 a1_1 = some r) :
  Calls Try.prog 69 #[.agg #[.int .i64 a0_0, .int .i64 a0_1], .agg #[.int .i64 a1_0, .int .i64 a1_1]] w fun e w' => e = .returned (.bool r) ∧ Below w.heap.size w w' := by
 have hu59 := Try.underlying59
 have HB := Aside0.mk (Below.refl w.heap.size w)
 have H : (if a0_0 < a1_0 then (some true) else (if a0_0 = a1_0 then (some (decide (a0_1 < a1_1))) else (some false))) = some r := h
 clear h
 by_cases c3 : a0_0 < a1_0
 ·rw [if_pos c3] at H
  have c3b0 : decide (a0_0 < a1_0) = true := decide_eq_true c3
  clear c3
  obtain rfl := Option.some.inj H
  simp only [Option.some.injEq, Prod.mk.injEq] at H
  obtain ⟨rfl⟩ := H
  go_enter Try.func69, Try.ntmps69
  go_wp2_with (first | ((with_reducible refine gate_dst (N := 2) rfl ?_); refine box_ 2 #[.int .i64 a0_0, .int .i64 a0_1] 59 ?_; intro gb106 hg w4 hbox hb; have BK106 := Aside0.mk (hbox); have GW106 := ge_ HB hg; have GE106 := GW106; replace HB := hh HB hb; clear hb hbox hg) | ((with_reducible refine gate_dst (N := 3) rfl ?_); refine box_ 3 #[.int .i64 a1_0, .int .i64 a1_1] 59 ?_; intro gb107 hg w5 hbox hb; have BK107 := Aside0.mk (hbox); have GW107 := ge_ HB hg; have GE107 := GW107; obtain ⟨NB106_107, NB107_106⟩ := nb BK106 hg; replace BK106 := bb BK106 hb; replace HB := hh HB hb; clear hb hbox hg; have hnb6 := NB106_107.out; have hnc6 := NB107_106.out; obtain ⟨z7a, z7b, y7a, y7b⟩ := c2_ BK106; obtain ⟨z8a, z8b, y8a, y8b⟩ := c2_ BK107))
  go_ret
  exact ⟨eqr, hk HB⟩
 ·rw [if_neg c3] at H
  have c3b0 : decide (a0_0 < a1_0) = false := decide_eq_false c3
  clear c3
  by_cases c9 : a0_0 = a1_0
  ·rw [if_pos c9] at H
   have c9b0 : (a0_0 == a1_0) = true := beq_iff_eq.mpr c9
   have c9b1 : (a0_0 != a1_0) = false := bne_eq_false_iff_eq.mpr c9
   clear c9
   obtain rfl := Option.some.inj H
   simp only [Option.some.injEq, Prod.mk.injEq] at H
   obtain ⟨rfl⟩ := H
   go_enter Try.func69, Try.ntmps69
   go_wp2_with (first | ((with_reducible refine gate_dst (N := 2) rfl ?_); refine box_ 2 #[.int .i64 a0_0, .int .i64 a0_1] 59 ?_; intro gb106 hg w10 hbox hb; have BK106 := Aside0.mk (hbox); have GW106 := ge_ HB hg; have GE106 := GW106; replace HB := hh HB hb; clear hb hbox hg) | ((with_reducible refine gate_dst (N := 3) rfl ?_); refine box_ 3 #[.int .i64 a1_0, .int .i64 a1_1] 59 ?_; intro gb107 hg w11 hbox hb; have BK107 := Aside0.mk (hbox); have GW107 := ge_ HB hg; have GE107 := GW107; obtain ⟨NB106_107, NB107_106⟩ := nb BK106 hg; replace BK106 := bb BK106 hb; replace HB := hh HB hb; clear hb hbox hg; have hnb12 := NB106_107.out; have hnc12 := NB107_106.out; obtain ⟨z13a, z13b, y13a, y13b⟩ := c2_ BK106; obtain ⟨z14a, z14b, y14a, y14b⟩ := c2_ BK107))
   go_ret
   exact ⟨eqr, hk HB⟩
  ·rw [if_neg c9] at H
   have c9b0 : (a0_0 == a1_0) = false := beq_eq_false_iff_ne.mpr c9
   have c9b1 : (a0_0 != a1_0) = true := bne_iff_ne.mpr c9
   obtain rfl := Option.some.inj H
   simp only [Option.some.injEq, Prod.mk.injEq] at H
   obtain ⟨rfl⟩ := H
   go_enter Try.func69, Try.ntmps69
   go_wp2_with (first | ((with_reducible refine gate_dst (N := 2) rfl ?_); refine box_ 2 #[.int .i64 a0_0, .int .i64 a0_1] 59 ?_; intro gb106 hg w15 hbox hb; have BK106 := Aside0.mk (hbox); have GW106 := ge_ HB hg; have GE106 := GW106; replace HB := hh HB hb; clear hb hbox hg) | ((with_reducible refine gate_dst (N := 3) rfl ?_); refine box_ 3 #[.int .i64 a1_0, .int .i64 a1_1] 59 ?_; intro gb107 hg w16 hbox hb; have BK107 := Aside0.mk (hbox); have GW107 := ge_ HB hg; have GE107 := GW107; obtain ⟨NB106_107, NB107_106⟩ := nb BK106 hg; replace BK106 := bb BK106 hb; replace HB := hh HB hb; clear hb hbox hg; have hnb17 := NB106_107.out; have hnc17 := NB107_106.out; obtain ⟨z18a, z18b, y18a, y18b⟩ := c2_ BK106; obtain ⟨z19a, z19b, y19a, y19b⟩ := c2_ BK107))
   go_ret
   exact ⟨eqr, hk HB⟩

end Go.Proofs.Ytggocekjhohhcaa.P

-- By a program of this session.
namespace Go.Proofs.Ytggocekjhohhcaa.P
open Go.RowKit Go.Proofs.YtggocekjhohhcaaW.PrintWords Go.Proofs.YtggocekjhohhcaaW.PrintLast Go.Proofs.YtggocekjhohhcaaW.PrintMore
attribute [local go_sem] max2_int min2_int max_two min_two max_three min_three max_four min_four
set_option linter.unusedVariables false
set_option linter.unusedSimpArgs false

/-! ### spec_poCross: function 70 -/
def spec_poCross.f (a0_0 : Int) (a0_1 : Int) (a1_0 : Int) (a1_1 : Int) : Option (Bool) := if a0_0 < a1_0 then (if a1_0 < a0_1 then (if a0_1 < a1_1 then (some true) else (if a1_0 < a0_0 then (if a0_0 < a1_1 then (some (decide (a1_1 < a0_1))) else (some false)) else (some false))) else (if a1_0 < a0_0 then (if a0_0 < a1_1 then (some (decide (a1_1 < a0_1))) else (some false)) else (some false))) else (if a1_0 < a0_0 then (if a0_0 < a1_1 then (some (decide (a1_1 < a0_1))) else (some false)) else (some false))
set_option maxHeartbeats 8000000 in
set_option maxRecDepth 100000 in
theorem spec_poCross.calls (a0_0 : Int) (a0_1 : Int) (a1_0 : Int) (a1_1 : Int) (r : Bool) (w : World) (h : spec_poCross.f a0_0 a0_1 a1_0 a1_1 = some r) :
  Calls Try.prog 70 #[.agg #[.int .i64 a0_0, .int .i64 a0_1], .agg #[.int .i64 a1_0, .int .i64 a1_1]] w fun e w' => e = .returned (.bool r) ∧ Below w.heap.size w w' := by
 have hu59 := Try.underlying59
 have HB := Aside0.mk (Below.refl w.heap.size w)
 have H := h
 clear h
 unfold spec_poCross.f at H
 by_cases c3 : a0_0 < a1_0
 ·rw [if_pos c3] at H
  have c3b0 : decide (a0_0 < a1_0) = true := decide_eq_true c3
  clear c3
  by_cases c4 : a1_0 < a0_1
  ·rw [if_pos c4] at H
   have c4b0 : decide (a1_0 < a0_1) = true := decide_eq_true c4
   clear c4
   by_cases c5 : a0_1 < a1_1
   ·rw [if_pos c5] at H
    have c5b0 : decide (a0_1 < a1_1) = true := decide_eq_true c5
    clear c5
    obtain rfl := Option.some.inj H
    simp only [Option.some.injEq, Prod.mk.injEq] at H
    obtain ⟨rfl⟩ := H
    go_enter Try.func70, Try.ntmps70
    go_wp2_with (first | ((with_reducible refine gate_dst (N := 2) rfl ?_); refine box_ 2 #[.int .i64 a0_0, .int .i64 a0_1] 59 ?_; intro gb108 hg w6 hbox hb; have BK108 := Aside0.mk (hbox); have GW108 := ge_ HB hg; have GE108 := GW108; replace HB := hh HB hb; clear hb hbox hg) | ((with_reducible refine gate_dst (N := 3) rfl ?_); refine box_ 3 #[.int .i64 a1_0, .int .i64 a1_1] 59 ?_; intro gb109 hg w7 hbox hb; have BK109 := Aside0.mk (hbox); have GW109 := ge_ HB hg; have GE109 := GW109; obtain ⟨NB108_109, NB109_108⟩ := nb BK108 hg; replace BK108 := bb BK108 hb; replace HB := hh HB hb; clear hb hbox hg; have hnb8 := NB108_109.out; have hnc8 := NB109_108.out; obtain ⟨z9a, z9b, y9a, y9b⟩ := c2_ BK108; obtain ⟨z10a, z10b, y10a, y10b⟩ := c2_ BK109))
    go_ret
    exact ⟨eqr, hk HB⟩
   ·rw [if_neg c5] at H
    have c5b0 : decide (a0_1 < a1_1) = false := decide_eq_false c5
    clear c5
    by_cases c11 : a1_0 < a0_0
    ·rw [if_pos c11] at H
     have c11b0 : decide (a1_0 < a0_0) = true := decide_eq_true c11
     clear c11
     by_cases c12 : a0_0 < a1_1
     ·rw [if_pos c12] at H
      have c12b0 : decide (a0_0 < a1_1) = true := decide_eq_true c12
      clear c12
      obtain rfl := Option.some.inj H
      simp only [Option.some.injEq, Prod.mk.injEq] at H
      obtain ⟨rfl⟩ := H
      go_enter Try.func70, Try.ntmps70
      go_wp2_with (first | ((with_reducible refine gate_dst (N := 2) rfl ?_); refine box_ 2 #[.int .i64 a0_0, .int .i64 a0_1] 59 ?_; intro gb108 hg w13 hbox hb; have BK108 := Aside0.mk (hbox); have GW108 := ge_ HB hg; have GE108 := GW108; replace HB := hh HB hb; clear hb hbox hg) | ((with_reducible refine gate_dst (N := 3) rfl ?_); refine box_ 3 #[.int .i64 a1_0, .int .i64 a1_1] 59 ?_; intro gb109 hg w14 hbox hb; have BK109 := Aside0.mk (hbox); have GW109 := ge_ HB hg; have GE109 := GW109; obtain ⟨NB108_109, NB109_108⟩ := nb BK108 hg; replace BK108 := bb BK108 hb; replace HB := hh HB hb; clear hb hbox hg; have hnb15 := NB108_109.out; have hnc15 := NB109_108.out; obtain ⟨z16a, z16b, y16a, y16b⟩ := c2_ BK108; obtain ⟨z17a, z17b, y17a, y17b⟩ := c2_ BK109))
      go_ret
      exact ⟨eqr, hk HB⟩
     ·rw [if_neg c12] at H
      have c12b0 : decide (a0_0 < a1_1) = false := decide_eq_false c12
      clear c12
      obtain rfl := Option.some.inj H
      simp only [Option.some.injEq, Prod.mk.injEq] at H
      obtain ⟨rfl⟩ := H
      go_enter Try.func70, Try.ntmps70
      go_wp2_with (first | ((with_reducible refine gate_dst (N := 2) rfl ?_); refine box_ 2 #[.int .i64 a0_0, .int .i64 a0_1] 59 ?_; intro gb108 hg w18 hbox hb; have BK108 := Aside0.mk (hbox); have GW108 := ge_ HB hg; have GE108 := GW108; replace HB := hh HB hb; clear hb hbox hg) | ((with_reducible refine gate_dst (N := 3) rfl ?_); refine box_ 3 #[.int .i64 a1_0, .int .i64 a1_1] 59 ?_; intro gb109 hg w19 hbox hb; have BK109 := Aside0.mk (hbox); have GW109 := ge_ HB hg; have GE109 := GW109; obtain ⟨NB108_109, NB109_108⟩ := nb BK108 hg; replace BK108 := bb BK108 hb; replace HB := hh HB hb; clear hb hbox hg; have hnb20 := NB108_109.out; have hnc20 := NB109_108.out; obtain ⟨z21a, z21b, y21a, y21b⟩ := c2_ BK108; obtain ⟨z22a, z22b, y22a, y22b⟩ := c2_ BK109))
      go_ret
      exact ⟨eqr, hk HB⟩
    ·rw [if_neg c11] at H
     have c11b0 : decide (a1_0 < a0_0) = false := decide_eq_false c11
     clear c11
     obtain rfl := Option.some.inj H
     simp only [Option.some.injEq, Prod.mk.injEq] at H
     obtain ⟨rfl⟩ := H
     go_enter Try.func70, Try.ntmps70
     go_wp2_with (first | ((with_reducible refine gate_dst (N := 2) rfl ?_); refine box_ 2 #[.int .i64 a0_0, .int .i64 a0_1] 59 ?_; intro gb108 hg w23 hbox hb; have BK108 := Aside0.mk (hbox); have GW108 := ge_ HB hg; have GE108 := GW108; replace HB := hh HB hb; clear hb hbox hg) | ((with_reducible refine gate_dst (N := 3) rfl ?_); refine box_ 3 #[.int .i64 a1_0, .int .i64 a1_1] 59 ?_; intro gb109 hg w24 hbox hb; have BK109 := Aside0.mk (hbox); have GW109 := ge_ HB hg; have GE109 := GW109; obtain ⟨NB108_109, NB109_108⟩ := nb BK108 hg; replace BK108 := bb BK108 hb; replace HB := hh HB hb; clear hb hbox hg; have hnb25 := NB108_109.out; have hnc25 := NB109_108.out; obtain ⟨z26a, z26b, y26a, y26b⟩ := c2_ BK108; obtain ⟨z27a, z27b, y27a, y27b⟩ := c2_ BK109))
     go_ret
     exact ⟨eqr, hk HB⟩
  ·rw [if_neg c4] at H
   have c4b0 : decide (a1_0 < a0_1) = false := decide_eq_false c4
   clear c4
   by_cases c28 : a1_0 < a0_0
   ·rw [if_pos c28] at H
    have c28b0 : decide (a1_0 < a0_0) = true := decide_eq_true c28
    clear c28
    by_cases c29 : a0_0 < a1_1
    ·rw [if_pos c29] at H
     have c29b0 : decide (a0_0 < a1_1) = true := decide_eq_true c29
     clear c29
     obtain rfl := Option.some.inj H
     simp only [Option.some.injEq, Prod.mk.injEq] at H
     obtain ⟨rfl⟩ := H
     go_enter Try.func70, Try.ntmps70
     go_wp2_with (first | ((with_reducible refine gate_dst (N := 2) rfl ?_); refine box_ 2 #[.int .i64 a0_0, .int .i64 a0_1] 59 ?_; intro gb108 hg w30 hbox hb; have BK108 := Aside0.mk (hbox); have GW108 := ge_ HB hg; have GE108 := GW108; replace HB := hh HB hb; clear hb hbox hg) | ((with_reducible refine gate_dst (N := 3) rfl ?_); refine box_ 3 #[.int .i64 a1_0, .int .i64 a1_1] 59 ?_; intro gb109 hg w31 hbox hb; have BK109 := Aside0.mk (hbox); have GW109 := ge_ HB hg; have GE109 := GW109; obtain ⟨NB108_109, NB109_108⟩ := nb BK108 hg; replace BK108 := bb BK108 hb; replace HB := hh HB hb; clear hb hbox hg; have hnb32 := NB108_109.out; have hnc32 := NB109_108.out; obtain ⟨z33a, z33b, y33a, y33b⟩ := c2_ BK108; obtain ⟨z34a, z34b, y34a, y34b⟩ := c2_ BK109))
     go_ret
     exact ⟨eqr, hk HB⟩
    ·rw [if_neg c29] at H
     have c29b0 : decide (a0_0 < a1_1) = false := decide_eq_false c29
     clear c29
     obtain rfl := Option.some.inj H
     simp only [Option.some.injEq, Prod.mk.injEq] at H
     obtain ⟨rfl⟩ := H
     go_enter Try.func70, Try.ntmps70
     go_wp2_with (first | ((with_reducible refine gate_dst (N := 2) rfl ?_); refine box_ 2 #[.int .i64 a0_0, .int .i64 a0_1] 59 ?_; intro gb108 hg w35 hbox hb; have BK108 := Aside0.mk (hbox); have GW108 := ge_ HB hg; have GE108 := GW108; replace HB := hh HB hb; clear hb hbox hg) | ((with_reducible refine gate_dst (N := 3) rfl ?_); refine box_ 3 #[.int .i64 a1_0, .int .i64 a1_1] 59 ?_; intro gb109 hg w36 hbox hb; have BK109 := Aside0.mk (hbox); have GW109 := ge_ HB hg; have GE109 := GW109; obtain ⟨NB108_109, NB109_108⟩ := nb BK108 hg; replace BK108 := bb BK108 hb; replace HB := hh HB hb; clear hb hbox hg; have hnb37 := NB108_109.out; have hnc37 := NB109_108.out; obtain ⟨z38a, z38b, y38a, y38b⟩ := c2_ BK108; obtain ⟨z39a, z39b, y39a, y39b⟩ := c2_ BK109))
     go_ret
     exact ⟨eqr, hk HB⟩
   ·rw [if_neg c28] at H
    have c28b0 : decide (a1_0 < a0_0) = false := decide_eq_false c28
    clear c28
    obtain rfl := Option.some.inj H
    simp only [Option.some.injEq, Prod.mk.injEq] at H
    obtain ⟨rfl⟩ := H
    go_enter Try.func70, Try.ntmps70
    go_wp2_with (first | ((with_reducible refine gate_dst (N := 2) rfl ?_); refine box_ 2 #[.int .i64 a0_0, .int .i64 a0_1] 59 ?_; intro gb108 hg w40 hbox hb; have BK108 := Aside0.mk (hbox); have GW108 := ge_ HB hg; have GE108 := GW108; replace HB := hh HB hb; clear hb hbox hg) | ((with_reducible refine gate_dst (N := 3) rfl ?_); refine box_ 3 #[.int .i64 a1_0, .int .i64 a1_1] 59 ?_; intro gb109 hg w41 hbox hb; have BK109 := Aside0.mk (hbox); have GW109 := ge_ HB hg; have GE109 := GW109; obtain ⟨NB108_109, NB109_108⟩ := nb BK108 hg; replace BK108 := bb BK108 hb; replace HB := hh HB hb; clear hb hbox hg; have hnb42 := NB108_109.out; have hnc42 := NB109_108.out; obtain ⟨z43a, z43b, y43a, y43b⟩ := c2_ BK108; obtain ⟨z44a, z44b, y44a, y44b⟩ := c2_ BK109))
    go_ret
    exact ⟨eqr, hk HB⟩
 ·rw [if_neg c3] at H
  have c3b0 : decide (a0_0 < a1_0) = false := decide_eq_false c3
  clear c3
  by_cases c45 : a1_0 < a0_0
  ·rw [if_pos c45] at H
   have c45b0 : decide (a1_0 < a0_0) = true := decide_eq_true c45
   clear c45
   by_cases c46 : a0_0 < a1_1
   ·rw [if_pos c46] at H
    have c46b0 : decide (a0_0 < a1_1) = true := decide_eq_true c46
    clear c46
    obtain rfl := Option.some.inj H
    simp only [Option.some.injEq, Prod.mk.injEq] at H
    obtain ⟨rfl⟩ := H
    go_enter Try.func70, Try.ntmps70
    go_wp2_with (first | ((with_reducible refine gate_dst (N := 2) rfl ?_); refine box_ 2 #[.int .i64 a0_0, .int .i64 a0_1] 59 ?_; intro gb108 hg w47 hbox hb; have BK108 := Aside0.mk (hbox); have GW108 := ge_ HB hg; have GE108 := GW108; replace HB := hh HB hb; clear hb hbox hg) | ((with_reducible refine gate_dst (N := 3) rfl ?_); refine box_ 3 #[.int .i64 a1_0, .int .i64 a1_1] 59 ?_; intro gb109 hg w48 hbox hb; have BK109 := Aside0.mk (hbox); have GW109 := ge_ HB hg; have GE109 := GW109; obtain ⟨NB108_109, NB109_108⟩ := nb BK108 hg; replace BK108 := bb BK108 hb; replace HB := hh HB hb; clear hb hbox hg; have hnb49 := NB108_109.out; have hnc49 := NB109_108.out; obtain ⟨z50a, z50b, y50a, y50b⟩ := c2_ BK108; obtain ⟨z51a, z51b, y51a, y51b⟩ := c2_ BK109))
    go_ret
    exact ⟨eqr, hk HB⟩
   ·rw [if_neg c46] at H
    have c46b0 : decide (a0_0 < a1_1) = false := decide_eq_false c46
    clear c46
    obtain rfl := Option.some.inj H
    simp only [Option.some.injEq, Prod.mk.injEq] at H
    obtain ⟨rfl⟩ := H
    go_enter Try.func70, Try.ntmps70
    go_wp2_with (first | ((with_reducible refine gate_dst (N := 2) rfl ?_); refine box_ 2 #[.int .i64 a0_0, .int .i64 a0_1] 59 ?_; intro gb108 hg w52 hbox hb; have BK108 := Aside0.mk (hbox); have GW108 := ge_ HB hg; have GE108 := GW108; replace HB := hh HB hb; clear hb hbox hg) | ((with_reducible refine gate_dst (N := 3) rfl ?_); refine box_ 3 #[.int .i64 a1_0, .int .i64 a1_1] 59 ?_; intro gb109 hg w53 hbox hb; have BK109 := Aside0.mk (hbox); have GW109 := ge_ HB hg; have GE109 := GW109; obtain ⟨NB108_109, NB109_108⟩ := nb BK108 hg; replace BK108 := bb BK108 hb; replace HB := hh HB hb; clear hb hbox hg; have hnb54 := NB108_109.out; have hnc54 := NB109_108.out; obtain ⟨z55a, z55b, y55a, y55b⟩ := c2_ BK108; obtain ⟨z56a, z56b, y56a, y56b⟩ := c2_ BK109))
    go_ret
    exact ⟨eqr, hk HB⟩
  ·rw [if_neg c45] at H
   have c45b0 : decide (a1_0 < a0_0) = false := decide_eq_false c45
   clear c45
   obtain rfl := Option.some.inj H
   simp only [Option.some.injEq, Prod.mk.injEq] at H
   obtain ⟨rfl⟩ := H
   go_enter Try.func70, Try.ntmps70
   go_wp2_with (first | ((with_reducible refine gate_dst (N := 2) rfl ?_); refine box_ 2 #[.int .i64 a0_0, .int .i64 a0_1] 59 ?_; intro gb108 hg w57 hbox hb; have BK108 := Aside0.mk (hbox); have GW108 := ge_ HB hg; have GE108 := GW108; replace HB := hh HB hb; clear hb hbox hg) | ((with_reducible refine gate_dst (N := 3) rfl ?_); refine box_ 3 #[.int .i64 a1_0, .int .i64 a1_1] 59 ?_; intro gb109 hg w58 hbox hb; have BK109 := Aside0.mk (hbox); have GW109 := ge_ HB hg; have GE109 := GW109; obtain ⟨NB108_109, NB109_108⟩ := nb BK108 hg; replace BK108 := bb BK108 hb; replace HB := hh HB hb; clear hb hbox hg; have hnb59 := NB108_109.out; have hnc59 := NB109_108.out; obtain ⟨z60a, z60b, y60a, y60b⟩ := c2_ BK108; obtain ⟨z61a, z61b, y61a, y61b⟩ := c2_ BK109))
   go_ret
   exact ⟨eqr, hk HB⟩

end Go.Proofs.Ytggocekjhohhcaa.P

-- By a program of this session.
namespace Go.Proofs.Ytggocekjhohhcaa.P
open Go.RowKit Go.Proofs.YtggocekjhohhcaaW.PrintWords Go.Proofs.YtggocekjhohhcaaW.PrintLast Go.Proofs.YtggocekjhohhcaaW.PrintMore
attribute [local go_sem] max2_int min2_int max_two min_two max_three min_three max_four min_four
set_option linter.unusedVariables false
set_option linter.unusedSimpArgs false

/-! ### spec_cuGood: function 39 -/
mutual
def spec_cuGood.j0 : Nat → Int → List (S59) → Bool → Option (Bool)
 | 0, _, _, _ => none
 | k + 1, x0, x1, x18 => if x18 = true then (some false) else (spec_cuGood.l0 k x0 x1 x1 (x1.length : Int) 0)
def spec_cuGood.l0 : Nat → Int → List (S59) → List (S59) → Int → Int → Option (Bool)
 | 0, _, _, _, _, _ => none
 | k + 1, x0, x1, x19, x20, x21 => if x21 < x20 then (if 0 ≤ x21 then (if x21 < (x19.length : Int) then ((spec_poDiagonal.f x0 ((rd_T59 x19 x21).f0) ((rd_T59 x19 x21).f1)).bind fun t113 => (if t113 = true then (if x21 > 0 then (if 0 ≤ (wrap64 (x21 - 1)) then (if (wrap64 (x21 - 1)) < (x1.length : Int) then ((spec_poLess.f ((rd_T59 x1 (wrap64 (x21 - 1))).f0) ((rd_T59 x1 (wrap64 (x21 - 1))).f1) ((rd_T59 x19 x21).f0) ((rd_T59 x19 x21).f1)).bind fun t115 => (spec_cuGood.j2 k x0 x1 x21 x19 x20 x21 (!t115) ((rd_T59 x19 x21).f0) ((rd_T59 x19 x21).f1))) else (none)) else (none)) else (spec_cuGood.j2 k x0 x1 x21 x19 x20 x21 false ((rd_T59 x19 x21).f0) ((rd_T59 x19 x21).f1))) else (spec_cuGood.j2 k x0 x1 x21 x19 x20 x21 true ((rd_T59 x19 x21).f0) ((rd_T59 x19 x21).f1)))) else (none)) else (none)) else (some true)
def spec_cuGood.j2 : Nat → Int → List (S59) → Int → List (S59) → Int → Int → Bool → Int → Int → Option (Bool)
 | 0, _, _, _, _, _, _, _, _, _ => none
 | k + 1, x0, x1, x5, x19, x20, x21, x43, x113000, x113001 => if x43 = true then (some false) else (if 0 ≤ x5 then (if x5 ≤ (x1.length : Int) then ((some (x1.take (x5 : Int).toNat : List (S59))).bind fun y116 => (spec_cuGood.l1 k x0 x1 x19 x20 x21 y116 (y116.length : Int) 0 x113000 x113001)) else (none)) else (none))
def spec_cuGood.l1 : Nat → Int → List (S59) → List (S59) → Int → Int → List (S59) → Int → Int → Int → Int → Option (Bool)
 | 0, _, _, _, _, _, _, _, _, _, _ => none
 | k + 1, x0, x1, x19, x20, x21, x46, x47, x48, x113000, x113001 => if x48 < x47 then (if 0 ≤ x48 then (if x48 < (x46.length : Int) then ((spec_poCross.f x113000 x113001 ((rd_T59 x46 x48).f0) ((rd_T59 x46 x48).f1)).bind fun t122 => (if t122 = true then (some false) else (spec_cuGood.l1 k x0 x1 x19 x20 x21 x46 x47 (wrap64 (x48 + 1)) x113000 x113001))) else (none)) else (none)) else (spec_cuGood.l0 k x0 x1 x19 x20 (wrap64 (x21 + 1)))
end
def spec_cuGood.f (k : Nat) (a0 : Int) (l1 : List (S59)) : Option (Bool) := (spec_poIs.f a0).bind fun t110 => (if t110 = true then (spec_cuGood.j0 k a0 l1 (decide ((l1.length : Int) > (wrap64 (a0 - 3))))) else (spec_cuGood.j0 k a0 l1 true))
theorem spec_cuGood.mono_l : ∀ k, (∀ y0 y1 y2, LeO (spec_cuGood.j0 k y0 y1 y2) (spec_cuGood.j0 (k + 1) y0 y1 y2)) ∧ (∀ y0 y1 y2 y3 y4, LeO (spec_cuGood.l0 k y0 y1 y2 y3 y4) (spec_cuGood.l0 (k + 1) y0 y1 y2 y3 y4)) ∧ (∀ y0 y1 y2 y3 y4 y5 y6 y7 y8, LeO (spec_cuGood.j2 k y0 y1 y2 y3 y4 y5 y6 y7 y8) (spec_cuGood.j2 (k + 1) y0 y1 y2 y3 y4 y5 y6 y7 y8)) ∧ (∀ y0 y1 y2 y3 y4 y5 y6 y7 y8 y9, LeO (spec_cuGood.l1 k y0 y1 y2 y3 y4 y5 y6 y7 y8 y9) (spec_cuGood.l1 (k + 1) y0 y1 y2 y3 y4 y5 y6 y7 y8 y9))
 | 0 => ⟨fun _ _ _ r h => by simp [spec_cuGood.j0] at h, fun _ _ _ _ _ r h => by simp [spec_cuGood.l0] at h, fun _ _ _ _ _ _ _ _ _ r h => by simp [spec_cuGood.j2] at h, fun _ _ _ _ _ _ _ _ _ _ r h => by simp [spec_cuGood.l1] at h⟩
 | k + 1 => by
  obtain ⟨ih0, ih1, ih2, ih3⟩ := spec_cuGood.mono_l k
  refine ⟨?_, ?_, ?_, ?_⟩
  ·intro y0 y1 y2
   unfold spec_cuGood.j0
   repeat' first
   | (with_reducible exact ih0 _ _ _)
   | (with_reducible exact ih1 _ _ _ _ _)
   | (with_reducible exact ih2 _ _ _ _ _ _ _ _ _)
   | (with_reducible exact ih3 _ _ _ _ _ _ _ _ _ _)
   | (with_reducible exact LeO.refl _)
   | (with_reducible exact LeO.none _)
   | (with_reducible refine LeO.ite ?_ ?_)
   | (with_reducible refine LeO.bind ?_ (fun _ => ?_))
   | apply ih0
   | apply ih1
   | apply ih2
   | apply ih3
   | apply LeO.none
   | refine LeO.ite ?_ ?_
   | refine LeO.bind ?_ (fun _ => ?_)
  ·intro y0 y1 y2 y3 y4
   unfold spec_cuGood.l0
   repeat' first
   | (with_reducible exact ih0 _ _ _)
   | (with_reducible exact ih1 _ _ _ _ _)
   | (with_reducible exact ih2 _ _ _ _ _ _ _ _ _)
   | (with_reducible exact ih3 _ _ _ _ _ _ _ _ _ _)
   | (with_reducible exact LeO.refl _)
   | (with_reducible exact LeO.none _)
   | (with_reducible refine LeO.ite ?_ ?_)
   | (with_reducible refine LeO.bind ?_ (fun _ => ?_))
   | apply ih0
   | apply ih1
   | apply ih2
   | apply ih3
   | apply LeO.none
   | refine LeO.ite ?_ ?_
   | refine LeO.bind ?_ (fun _ => ?_)
  ·intro y0 y1 y2 y3 y4 y5 y6 y7 y8
   unfold spec_cuGood.j2
   repeat' first
   | (with_reducible exact ih0 _ _ _)
   | (with_reducible exact ih1 _ _ _ _ _)
   | (with_reducible exact ih2 _ _ _ _ _ _ _ _ _)
   | (with_reducible exact ih3 _ _ _ _ _ _ _ _ _ _)
   | (with_reducible exact LeO.refl _)
   | (with_reducible exact LeO.none _)
   | (with_reducible refine LeO.ite ?_ ?_)
   | (with_reducible refine LeO.bind ?_ (fun _ => ?_))
   | apply ih0
   | apply ih1
   | apply ih2
   | apply ih3
   | apply LeO.none
   | refine LeO.ite ?_ ?_
   | refine LeO.bind ?_ (fun _ => ?_)
  ·intro y0 y1 y2 y3 y4 y5 y6 y7 y8 y9
   unfold spec_cuGood.l1
   repeat' first
   | (with_reducible exact ih0 _ _ _)
   | (with_reducible exact ih1 _ _ _ _ _)
   | (with_reducible exact ih2 _ _ _ _ _ _ _ _ _)
   | (with_reducible exact ih3 _ _ _ _ _ _ _ _ _ _)
   | (with_reducible exact LeO.refl _)
   | (with_reducible exact LeO.none _)
   | (with_reducible refine LeO.ite ?_ ?_)
   | (with_reducible refine LeO.bind ?_ (fun _ => ?_))
   | apply ih0
   | apply ih1
   | apply ih2
   | apply ih3
   | apply LeO.none
   | refine LeO.ite ?_ ?_
   | refine LeO.bind ?_ (fun _ => ?_)
theorem spec_cuGood.mono : ∀ a0 a1 k, LeO (spec_cuGood.f k a0 a1) (spec_cuGood.f (k + 1) a0 a1) := by
 intro a0 a1 k
 obtain ⟨ih0, ih1, ih2, ih3⟩ := spec_cuGood.mono_l k
 unfold spec_cuGood.f
 repeat' first
   | (with_reducible exact ih0 _ _ _)
   | (with_reducible exact ih1 _ _ _ _ _)
   | (with_reducible exact ih2 _ _ _ _ _ _ _ _ _)
   | (with_reducible exact ih3 _ _ _ _ _ _ _ _ _ _)
   | (with_reducible exact LeO.refl _)
   | (with_reducible exact LeO.none _)
   | (with_reducible refine LeO.ite ?_ ?_)
   | (with_reducible refine LeO.bind ?_ (fun _ => ?_))
   | apply ih0
   | apply ih1
   | apply ih2
   | apply ih3
   | apply LeO.none
   | refine LeO.ite ?_ ?_
   | refine LeO.bind ?_ (fun _ => ?_)
def spec_cuGood.T6 : Bool × List (List Nat × List Nat) := (true, [([], []), ([], []), ([0, 1], [0, 1]), ([2], [2]), ([3, 2], [3]), ([4], [4]), ([5, 4], [4, 5]), ([6, 4, 4], [4, 6]), ([7], [7]), ([7], [7]), ([9, 7], [7, 9]), ([8, 10, 7], [7, 8, 10]), ([11, 7], [7, 11]), ([7], [7]), ([12, 13, 7, 7], [7, 12, 13]), ([14, 7], [7, 14]), ([7, 15, 4], [4, 7, 15]), ([4, 16], [4, 16])])
def spec_cuGood.B6 : List Nat := [0, 0, 3, 7, 15, 31, 63, 127, 255, 255, 767, 2047, 4095, 255, 16383, 32767, 65535, 131071]
theorem spec_cuGood.tab6 : rtab .any (opsOf Try.f39 6) = spec_cuGood.T6 := by kernel_rfl
theorem spec_cuGood.bits6 : waitsOk spec_cuGood.T6.2 spec_cuGood.B6 = true := by kernel_rfl
set_option maxHeartbeats 8000000 in
set_option maxRecDepth 100000 in
theorem spec_cuGood.calls (k : Nat) (a0 : Int) (A1 : Option Addr) (c1 : Nat) (l1 : List (S59)) (r : Bool) (w : World) (hr1 : Kd.C k59 w A1 l1.length l1) (hc1 : l1.length ≤ c1) (h : spec_cuGood.f k a0 l1 = some r) :
  Calls Try.prog 39 #[.int .i64 a0, .slice A1 l1.length c1] w fun e w' => e = .returned (.bool r) ∧ Below w.heap.size w w' := by
 have hu59 := Try.underlying59
 have HR1 := Aside0.mk hr1
 have HC1 := Aside0.mk hc1
 clear hr1 hc1
 have HB := Aside0.mk (Below.refl w.heap.size w)
 have H : ((spec_poIs.f a0).bind fun t110 => (if t110 = true then (spec_cuGood.j0 k a0 l1 (decide ((l1.length : Int) > (wrap64 (a0 - 3))))) else (spec_cuGood.j0 k a0 l1 true))) = some r := h
 clear h
 have HC3 := Aside0.mk H
 clear H
 go_enter Try.func39, Try.ntmps39
 go_upto_region 1 with (fail)
 go_cut [18] (fun v18 wc => ∃ (kq : Nat) (x18_2 : Bool), v18 = .bool x18_2 ∧ Aside0 (spec_cuGood.j0 kq a0 l1 x18_2 = some r) ∧ Aside0 (kq ≤ k) ∧ Aside0 (Below w.heap.size w wc))
 case first =>
  have H := HC3.out
  clear HC3
  replace H := Option.bind_eq_some_iff.mp H
  obtain ⟨t110, A40, H⟩ := H
  have A4 := Aside0.mk A40
  clear A40
  by_cases c5 : t110 = true
  ·subst c5
   rw [if_pos rfl] at H
   have H' := Aside0.mk H
   clear H
   go_wp2_with (first | ((with_reducible refine gate_callee (f := 67) rfl ?_); refine gof_ (some 10) Try.func67 #[.int .i64 a0] ?_; (with_reducible refine (spec_poIs.calls a0 true _ A4.out).mono ?_); rintro e w' ⟨rfl, ⟨nd, rfl⟩⟩; refine ⟨_, rfl, ?_⟩))
   go_meet
   case rel => exact ⟨_, (decide ((l1.length : Int) > (wrap64 (a0 - 3)))), (by first | rfl | (simp; done) | (simp [*]; done)), H', ⟨by first | omega | exact Nat.le_refl _⟩, ⟨by repeat (first | (with_reducible first | exact HB.out | apply below_alloc | apply pw_below_drewN | apply below_drew1) | exact HB.out)⟩⟩
  ·replace c5 := Bool.eq_false_iff.mpr c5
   subst c5
   rw [if_neg (show ¬ (false = true) by decide)] at H
   have H' := Aside0.mk H
   clear H
   go_wp2_with (first | ((with_reducible refine gate_callee (f := 67) rfl ?_); refine gof_ (some 10) Try.func67 #[.int .i64 a0] ?_; (with_reducible refine (spec_poIs.calls a0 false _ A4.out).mono ?_); rintro e w' ⟨rfl, ⟨nd, rfl⟩⟩; refine ⟨_, rfl, ?_⟩))
   go_meet
   case rel => exact ⟨_, (true), (by first | rfl | (simp; done) | (simp [*]; done)), H', ⟨by first | omega | exact Nat.le_refl _⟩, ⟨by repeat (first | (with_reducible first | exact HB.out | apply below_alloc | apply pw_below_drewN | apply below_drew1) | exact HB.out)⟩⟩
 case rest =>
  clear HC3
  try clear c5
  obtain ⟨kq, x18_2, rfl, HA, HJ2, HB⟩ := hcut
  cases kq with
  | zero => exact absurd HA.out (by simp [spec_cuGood.j0])
  | succ kj2 =>
   have H := HA.out
   clear HA
   simp only [spec_cuGood.j0] at H
   by_cases c6 : x18_2 = true
   ·subst c6
    rw [if_pos rfl] at H
    obtain rfl := Option.some.inj H
    simp only [Option.some.injEq, Prod.mk.injEq] at H
    obtain ⟨rfl⟩ := H
    go_wp2
    go_ret
    exact ⟨eqr, hk HB⟩
   ·replace c6 := Bool.eq_false_iff.mpr c6
    subst c6
    rw [if_neg (show ¬ (false = true) by decide)] at H
    have H' := Aside0.mk H
    clear H
    go_wp2
    go_loopg [21] kj2 (fun kq v21 w' => ∃ (x21_2 : Int), v21 = .int .i64 x21_2 ∧ Aside0 (spec_cuGood.l0 kq a0 l1 l1 (l1.length : Int) x21_2 = some r) ∧ Aside0 (kq ≤ kj2) ∧ Aside0 (Below w.heap.size w w'))
    case atStart => exact ⟨(0), (by first | rfl | (simp; done) | (simp [*]; done)), H', ⟨Nat.le_refl _⟩, ⟨by repeat (first | (with_reducible first | exact HB.out | apply below_alloc | apply pw_below_drewN | apply below_drew1) | exact HB.out)⟩⟩
    case round =>
     clear H'
     (try clear c5);(try clear c6)
     obtain ⟨x21_2, rfl, HA, HK2, HB⟩ := hrel
     cases gk with
     | zero => exact absurd HA.out (by simp [spec_cuGood.l0])
     | succ k2 =>
      have H := HA.out
      clear HA
      simp only [spec_cuGood.l0] at H
      by_cases c7 : x21_2 < (l1.length : Int)
      ·rw [if_pos c7] at H
       have c7b0 : decide (x21_2 < (l1.length : Int)) = true := decide_eq_true c7
       clear c7
       by_cases c8 : 0 ≤ x21_2
       ·rw [if_pos c8] at H
        have c8b0 : decide (0 ≤ x21_2) = true := decide_eq_true c8
        clear c8
        by_cases c9 : x21_2 < (l1.length : Int)
        ·rw [if_pos c9] at H
         have c9b0 : decide (x21_2 < (l1.length : Int)) = true := decide_eq_true c9
         clear c9
         have HC10 := Aside0.mk H
         clear H
         have p111 : 0 ≤ (x21_2 : Int) := of_decide_eq_true (by first | (with_reducible assumption) | assumption)
         have q111 : x21_2 < (l1.length : Int) := of_decide_eq_true (by first | (with_reducible assumption) | assumption)
         obtain ⟨ad111, e111, hx111_0, hx111_1⟩ := at_T59 HR1.out x21_2 p111 q111
         cases e111
         replace hx111_0 := (HB.out.cell (World.block_lt_of_cell? w _ hx111_0)).trans hx111_0
         replace hx111_1 := (HB.out.cell (World.block_lt_of_cell? w _ hx111_1)).trans hx111_1
         replace p111 := eq_true p111
         replace q111 := eq_true q111
         go_upto_region 6 with (first | ((with_reducible refine gate_dst (N := 6) rfl ?_); (try (refine gate_guard (by rfl) ?_; dsimp only)); refine box_ 6 #[.int .i64 0, .int .i64 0] 59 ?_; intro gb112 hg w11 hbox hb; have BK112 := Aside0.mk (hbox); have GW112 := ge_ HB hg; have GE112 := GW112; replace HB := hh HB hb; clear hb hbox hg; obtain ⟨z12a, z12b, y12a, y12b⟩ := c2_ BK112))
         (try simp only [Act.put, List.setIfInBounds_toArray, List.set_cons_zero, List.set_cons_succ])
         go_cut [43] (fun v43 wc => ∃ (kq : Nat) (x43_9 : Bool), v43 = .bool x43_9 ∧ Aside0 (spec_cuGood.j2 kq a0 l1 x21_2 l1 (l1.length : Int) x21_2 x43_9 ((rd_T59 l1 x21_2).f0) ((rd_T59 l1 x21_2).f1) = some r) ∧ Aside0 (kq ≤ k2) ∧ Aside0 (wc.heap[gb112]? = some (.cells #[.int .i64 ((rd_T59 l1 x21_2).f0), .int .i64 ((rd_T59 l1 x21_2).f1)] 59 (0, 0))) ∧ Aside0 (Below w.heap.size w wc))
         case first =>
          have H := HC10.out
          clear HC10
          replace H := Option.bind_eq_some_iff.mp H
          obtain ⟨t113, A130, H⟩ := H
          have A13 := Aside0.mk A130
          clear A130
          by_cases c14 : t113 = true
          ·subst c14
           rw [if_pos rfl] at H
           by_cases c15 : x21_2 > 0
           ·rw [if_pos c15] at H
            have c15b0 : decide (0 < x21_2) = true := decide_eq_true c15
            clear c15
            (first | rw [c15b0] | (simp only [i64_w, i32_w]; rw [c15b0]) | skip)
            obtain ⟨ji16, hji16⟩ : ∃ j_ : Int, (wrap64 (x21_2 - 1)) = j_ := ⟨_, rfl⟩
            replace H : (if 0 ≤ (ji16) then (if (ji16) < (l1.length : Int) then ((spec_poLess.f ((rd_T59 l1 (ji16)).f0) ((rd_T59 l1 (ji16)).f1) ((rd_T59 l1 x21_2).f0) ((rd_T59 l1 x21_2).f1)).bind fun t115 => (spec_cuGood.j2 k2 a0 l1 x21_2 l1 (l1.length : Int) x21_2 (!t115) ((rd_T59 l1 x21_2).f0) ((rd_T59 l1 x21_2).f1))) else (none)) else (none)) = some r := by first | (rw [hji16] at H; exact H) | (simp only [hji16] at H ⊢; exact H)
            (try rw [hji16] at A13)
            have hji16w : (IntKind.i64.wrap (x21_2 - 1)) = ji16 := (i64_w _).trans hji16
            by_cases c17 : 0 ≤ (ji16)
            ·rw [if_pos c17] at H
             have c17b0 : decide (0 ≤ (ji16)) = true := decide_eq_true c17
             clear c17
             by_cases c18 : (ji16) < (l1.length : Int)
             ·rw [if_pos c18] at H
              have c18b0 : decide ((ji16) < (l1.length : Int)) = true := decide_eq_true c18
              clear c18
              replace H := Option.bind_eq_some_iff.mp H
              obtain ⟨t115, A190, H⟩ := H
              have A19 := Aside0.mk A190
              clear A190
              have H' := Aside0.mk H
              clear H
              try go_wp2
              have n0_ : Aside0 (((w11.setCell ⟨gb112, 0, none⟩ (.int .i64 ((rd_T59 l1 x21_2).f0))).setCell ⟨gb112, 1, none⟩ (.int .i64 ((rd_T59 l1 x21_2).f1))).heap[gb112]? = some (.cells #[.int .i64 ((rd_T59 l1 x21_2).f0), .int .i64 ((rd_T59 l1 x21_2).f1)] 59 (0, 0))) := ⟨by refine pf_ ?_; refine blk_put (cs := #[.int .i64 ((rd_T59 l1 x21_2).f0), .int .i64 0]) ?_ 1 _ rfl; refine pf_ ?_; refine blk_put (cs := #[.int .i64 0, .int .i64 0]) ?_ 0 _ rfl; exact pk BK112⟩
              have n1_ : Aside0 (Below w.heap.size w ((w11.setCell ⟨gb112, 0, none⟩ (.int .i64 ((rd_T59 l1 x21_2).f0))).setCell ⟨gb112, 1, none⟩ (.int .i64 ((rd_T59 l1 x21_2).f1)))) := ⟨by repeat (first | (with_reducible first | exact HB.out | apply below_alloc | apply pw_below_drewN | apply below_drew1 | refine below_set ?_ GE112.out) | exact HB.out)⟩
              (try clear BK112)
              (try clear HB)
              generalize ((w11.setCell ⟨gb112, 0, none⟩ (.int .i64 ((rd_T59 l1 x21_2).f0))).setCell ⟨gb112, 1, none⟩ (.int .i64 ((rd_T59 l1 x21_2).f1))) = w20 at n0_ n1_ ⊢
              have BK112 := n0_
              have HB := n1_
              clear n0_ n1_
              replace BK112 := Aside0.mk (blk_drew BK112.out)
              replace HB := Aside0.mk (below_drew1 HB.out)
              have p114 : 0 ≤ ((ji16) : Int) := of_decide_eq_true (by first | (with_reducible assumption) | assumption)
              have q114 : (ji16) < (l1.length : Int) := of_decide_eq_true (by first | (with_reducible assumption) | assumption)
              obtain ⟨ad114, e114, hx114_0, hx114_1⟩ := at_T59 HR1.out (ji16) p114 q114
              have hw114_1 := hx114_1
              have hw114_0 := hx114_0
              obtain rfl : ad111 = ad114 := (by injection e114)
              replace hx114_0 := (HB.out.cell (World.block_lt_of_cell? w _ hx114_0)).trans hx114_0
              replace hx114_1 := (HB.out.cell (World.block_lt_of_cell? w _ hx114_1)).trans hx114_1
              replace p114 := eq_true p114
              replace q114 := eq_true q114
              refine start_ (n := 18) (S := fun w' => w'.cell? ⟨gb112, 0, none⟩ = some (.int .i64 ((rd_T59 l1 x21_2).f0)) ∧ w'.cell? ⟨gb112, 1, none⟩ = some (.int .i64 ((rd_T59 l1 x21_2).f1)) ∧ w'.cell? (ad111.add (((ji16)).toNat * 2)) = some (.int .i64 ((rd_T59 l1 (ji16)).f0)) ∧ w'.cell? ⟨(ad111.add (((ji16)).toNat * 2)).block, (ad111.add (((ji16)).toNat * 2)).off + 1, none⟩ = some (.int .i64 ((rd_T59 l1 (ji16)).f1))) (ds := []) (bT 0 18) (by kernel_rfl) rfl rfl ⟨(blk_cell BK112.out 0).trans rfl, (blk_cell BK112.out 1).trans rfl, ((HB.out.cell (World.block_lt_of_cell? w _ hw114_0)).trans hw114_0), ((HB.out.cell (World.block_lt_of_cell? w _ hw114_1)).trans hw114_1)⟩ (fun hHeld => ?_); refine with_tabW spec_cuGood.tab6 spec_cuGood.bits6 (fun HT_ HW_ => ?_)
              generalize w20.drew = w21 at BK112 HB hx114_0 hx114_1 hHeld ⊢
              refine pu_ HT_ 0 (some 26) (bT 1 18) ?_
              refine take_ (i := 1) (N := some 27) (v := ?_) (a' := ?_) (bT 2 18) rfl rfl (take_ofW HT_.out HW_.out (by kernel_rfl)) (fun _ _ _ h => h) (Or.inl ⟨by rfl, ?_⟩) hHeld ?_ ?_
              rotate_left
              ·rintro w' ⟨s0, s1, s2, s3⟩
               go_simp
               with_reducible rfl
              rotate_left
              ·simp only [Act.put, List.setIfInBounds_toArray, List.set_cons_zero, List.set_cons_succ, i64_w, i32_w]
               rfl
              refine one_ (i := 2) (N := some 28) (bT 3 18) rfl rfl (one_of HT_.out (by kernel_rfl)) (by decide) (fun K hK => ?_)
              refine goes_ Try.func68 (by kernel_rfl) rfl #[.int .i64 a0, .agg #[.int .i64 ((rd_T59 l1 x21_2).f0), .int .i64 ((rd_T59 l1 x21_2).f1)]] (by rfl) rfl rfl (by (try simp only [List.map_toArray, List.map_cons, List.map_nil]); first | done | rfl | (simp only [List.length_drop, List.length_take]; rfl)) ?_
              with_reducible refine (spec_poDiagonal.calls a0 ((rd_T59 l1 x21_2).f0) ((rd_T59 l1 x21_2).f1) true _ A13.out).mono ?_
              rintro e w22 ⟨rfl, hb⟩
              refine ⟨_, rfl, ?_⟩
              replace BK112 := bb BK112 hb
              replace HB := hh HB hb
              (try clear hb);(try clear hb2);(try clear hk);(try clear hi)
              refine hK.out _ _ ⟨(blk_cell BK112.out 0).trans rfl, (blk_cell BK112.out 1).trans rfl, ((HB.out.cell (World.block_lt_of_cell? w _ hw114_0)).trans hw114_0), ((HB.out.cell (World.block_lt_of_cell? w _ hw114_1)).trans hw114_1)⟩ (fun hHeld => ?_)
              clear hK K
              refine norm_ (a' := ?_) ?_ ?_
              rotate_left
              ·show Act.put _ (some 28) _ = _
               simp only [Act.put, List.setIfInBounds_toArray, List.set_cons_zero, List.set_cons_succ, i64_w, i32_w]
               rfl
              refine pu_ HT_ 3 (some 29) (bT 4 18) ?_
              refine pu_ HT_ 4 (some 30) (bT 5 18) ?_
              refine pu_ HT_ 5 (some 31) (bT 6 18) ?_
              refine pu_ HT_ 6 (some 32) (bT 7 18) ?_
              refine pu_ HT_ 7 (some 33) (bT 8 18) ?_
              refine pu_ HT_ 8 (some 34) (bT 9 18) ?_
              refine pu_ HT_ 9 (some 35) (bT 10 18) ?_
              refine pu_ HT_ 10 (some 36) (bT 11 18) ?_
              refine pu_ HT_ 11 (some 37) (bT 12 18) ?_
              refine take_ (i := 12) (N := some 38) (v := ?_) (a' := ?_) (bT 13 18) rfl rfl (take_ofW HT_.out HW_.out (by kernel_rfl)) (fun _ _ _ h => h) (Or.inl ⟨by rfl, ?_⟩) hHeld ?_ ?_
              rotate_left
              ·rintro w' ⟨s0, s1, s2, s3⟩
               go_simp
               with_reducible rfl
              rotate_left
              ·simp only [Act.put, List.setIfInBounds_toArray, List.set_cons_zero, List.set_cons_succ, i64_w, i32_w]
               rfl
              refine take_ (i := 13) (N := some 39) (v := ?_) (a' := ?_) (bT 14 18) rfl rfl (take_ofW HT_.out HW_.out (by kernel_rfl)) (fun _ _ _ h => h) (Or.inl ⟨by rfl, ?_⟩) hHeld ?_ ?_
              rotate_left
              ·rintro w' ⟨s0, s1, s2, s3⟩
               go_simp
               with_reducible rfl
              rotate_left
              ·simp only [Act.put, List.setIfInBounds_toArray, List.set_cons_zero, List.set_cons_succ, i64_w, i32_w]
               rfl
              refine one_ (i := 14) (N := some 40) (bT 15 18) rfl rfl (one_of HT_.out (by kernel_rfl)) (by decide) (fun K hK => ?_)
              refine goes_ Try.func69 (by kernel_rfl) rfl #[.agg #[.int .i64 ((rd_T59 l1 (ji16)).f0), .int .i64 ((rd_T59 l1 (ji16)).f1)], .agg #[.int .i64 ((rd_T59 l1 x21_2).f0), .int .i64 ((rd_T59 l1 x21_2).f1)]] (by rfl) rfl rfl (by (try simp only [List.map_toArray, List.map_cons, List.map_nil]); first | done | (simp only [hji16]; rfl) | rfl | (simp only [List.length_drop, List.length_take]; rfl)) ?_
              with_reducible refine (spec_poLess.calls ((rd_T59 l1 (ji16)).f0) ((rd_T59 l1 (ji16)).f1) ((rd_T59 l1 x21_2).f0) ((rd_T59 l1 x21_2).f1) t115 _ A19.out).mono ?_
              rintro e w23 ⟨rfl, hb⟩
              refine ⟨_, rfl, ?_⟩
              replace BK112 := bb BK112 hb
              replace HB := hh HB hb
              (try clear hb);(try clear hb2);(try clear hk);(try clear hi)
              refine hK.out _ _ ⟨(blk_cell BK112.out 0).trans rfl, (blk_cell BK112.out 1).trans rfl, ((HB.out.cell (World.block_lt_of_cell? w _ hw114_0)).trans hw114_0), ((HB.out.cell (World.block_lt_of_cell? w _ hw114_1)).trans hw114_1)⟩ (fun hHeld => ?_)
              clear hK K
              refine norm_ (a' := ?_) ?_ ?_
              rotate_left
              ·show Act.put _ (some 40) _ = _
               simp only [Act.put, List.setIfInBounds_toArray, List.set_cons_zero, List.set_cons_succ, i64_w, i32_w]
               rfl
              refine pu_ HT_ 15 (some 41) (bT 16 18) ?_
              refine pu_ HT_ 16 (some 42) (bT 17 18) ?_
              refine pu_ HT_ 17 (some 43) (bT 18 18) ?_
              refine done_ (done_of HT_.out (by kernel_rfl)) ?_
              try go_wp2
              go_meet
              case rel => exact ⟨_, (!t115), (by first | rfl | (simp; done) | (simp [*]; done)), H', ⟨by have := HJ2.out; have := HK2.out; first | omega | exact Nat.le_refl _⟩, ⟨pk BK112⟩, ⟨by repeat (first | (with_reducible first | exact HB.out | apply below_alloc | apply pw_below_drewN | apply below_drew1 | refine below_set ?_ GE112.out) | exact HB.out)⟩⟩
             ·rw [if_neg c18] at H
              exact absurd H (by simp)
            ·rw [if_neg c17] at H
             exact absurd H (by simp)
           ·rw [if_neg c15] at H
            have c15b0 : decide (0 < x21_2) = false := decide_eq_false c15
            clear c15
            (first | rw [c15b0] | (simp only [i64_w, i32_w]; rw [c15b0]) | skip)
            have H' := Aside0.mk H
            clear H
            try go_wp2
            have n0_ : Aside0 (((w11.setCell ⟨gb112, 0, none⟩ (.int .i64 ((rd_T59 l1 x21_2).f0))).setCell ⟨gb112, 1, none⟩ (.int .i64 ((rd_T59 l1 x21_2).f1))).heap[gb112]? = some (.cells #[.int .i64 ((rd_T59 l1 x21_2).f0), .int .i64 ((rd_T59 l1 x21_2).f1)] 59 (0, 0))) := ⟨by refine pf_ ?_; refine blk_put (cs := #[.int .i64 ((rd_T59 l1 x21_2).f0), .int .i64 0]) ?_ 1 _ rfl; refine pf_ ?_; refine blk_put (cs := #[.int .i64 0, .int .i64 0]) ?_ 0 _ rfl; exact pk BK112⟩
            have n1_ : Aside0 (Below w.heap.size w ((w11.setCell ⟨gb112, 0, none⟩ (.int .i64 ((rd_T59 l1 x21_2).f0))).setCell ⟨gb112, 1, none⟩ (.int .i64 ((rd_T59 l1 x21_2).f1)))) := ⟨by repeat (first | (with_reducible first | exact HB.out | apply below_alloc | apply pw_below_drewN | apply below_drew1 | refine below_set ?_ GE112.out) | exact HB.out)⟩
            (try clear BK112)
            (try clear HB)
            generalize ((w11.setCell ⟨gb112, 0, none⟩ (.int .i64 ((rd_T59 l1 x21_2).f0))).setCell ⟨gb112, 1, none⟩ (.int .i64 ((rd_T59 l1 x21_2).f1))) = w24 at n0_ n1_ ⊢
            have BK112 := n0_
            have HB := n1_
            clear n0_ n1_
            replace BK112 := Aside0.mk (blk_drew BK112.out)
            replace HB := Aside0.mk (below_drew1 HB.out)
            refine start_ (n := 18) (S := fun w' => w'.cell? ⟨gb112, 0, none⟩ = some (.int .i64 ((rd_T59 l1 x21_2).f0)) ∧ w'.cell? ⟨gb112, 1, none⟩ = some (.int .i64 ((rd_T59 l1 x21_2).f1))) (ds := []) (bT 0 18) (by kernel_rfl) rfl rfl ⟨(blk_cell BK112.out 0).trans rfl, (blk_cell BK112.out 1).trans rfl⟩ (fun hHeld => ?_); refine with_tabW spec_cuGood.tab6 spec_cuGood.bits6 (fun HT_ HW_ => ?_)
            generalize w24.drew = w25 at BK112 HB hHeld ⊢
            refine pu_ HT_ 0 (some 26) (bT 1 18) ?_
            refine take_ (i := 1) (N := some 27) (v := ?_) (a' := ?_) (bT 2 18) rfl rfl (take_ofW HT_.out HW_.out (by kernel_rfl)) (fun _ _ _ h => h) (Or.inl ⟨by rfl, ?_⟩) hHeld ?_ ?_
            rotate_left
            ·rintro w' ⟨s0, s1⟩
             go_simp
             with_reducible rfl
            rotate_left
            ·simp only [Act.put, List.setIfInBounds_toArray, List.set_cons_zero, List.set_cons_succ, i64_w, i32_w]
             rfl
            refine one_ (i := 2) (N := some 28) (bT 3 18) rfl rfl (one_of HT_.out (by kernel_rfl)) (by decide) (fun K hK => ?_)
            refine goes_ Try.func68 (by kernel_rfl) rfl #[.int .i64 a0, .agg #[.int .i64 ((rd_T59 l1 x21_2).f0), .int .i64 ((rd_T59 l1 x21_2).f1)]] (by rfl) rfl rfl (by (try simp only [List.map_toArray, List.map_cons, List.map_nil]); first | done | rfl | (simp only [List.length_drop, List.length_take]; rfl)) ?_
            with_reducible refine (spec_poDiagonal.calls a0 ((rd_T59 l1 x21_2).f0) ((rd_T59 l1 x21_2).f1) true _ A13.out).mono ?_
            rintro e w26 ⟨rfl, hb⟩
            refine ⟨_, rfl, ?_⟩
            replace BK112 := bb BK112 hb
            replace HB := hh HB hb
            (try clear hb);(try clear hb2);(try clear hk);(try clear hi)
            refine hK.out _ _ ⟨(blk_cell BK112.out 0).trans rfl, (blk_cell BK112.out 1).trans rfl⟩ (fun hHeld => ?_)
            clear hK K
            refine norm_ (a' := ?_) ?_ ?_
            rotate_left
            ·show Act.put _ (some 28) _ = _
             simp only [Act.put, List.setIfInBounds_toArray, List.set_cons_zero, List.set_cons_succ, i64_w, i32_w]
             rfl
            refine pu_ HT_ 3 (some 29) (bT 4 18) ?_
            refine pu_ HT_ 4 (some 30) (bT 5 18) ?_
            refine pu_ HT_ 5 (some 31) (bT 6 18) ?_
            refine pu_ HT_ 6 (some 32) (bT 7 18) ?_
            refine pu_ HT_ 7 (some 33) (bT 8 18) ?_
            refine pure_ (i := 8) (N := some 34) (v := undef) (a' := ?_) (bT 9 18) rfl rfl (any_of HT_.out (by kernel_rfl)) (fun _ _ _ h => h) (Or.inr ⟨by rfl, rfl⟩) ?_ ?_
            rotate_left
            ·simp only [Act.put, List.setIfInBounds_toArray, List.set_cons_zero, List.set_cons_succ, i64_w, i32_w]
             rfl
            refine pure_ (i := 9) (N := some 35) (v := undef) (a' := ?_) (bT 10 18) rfl rfl (any_of HT_.out (by kernel_rfl)) (fun _ _ _ h => h) (Or.inr ⟨by rfl, rfl⟩) ?_ ?_
            rotate_left
            ·simp only [Act.put, List.setIfInBounds_toArray, List.set_cons_zero, List.set_cons_succ, i64_w, i32_w]
             rfl
            refine pure_ (i := 10) (N := some 36) (v := undef) (a' := ?_) (bT 11 18) rfl rfl (any_of HT_.out (by kernel_rfl)) (fun _ _ _ h => h) (Or.inr ⟨by rfl, rfl⟩) ?_ ?_
            rotate_left
            ·simp only [Act.put, List.setIfInBounds_toArray, List.set_cons_zero, List.set_cons_succ, i64_w, i32_w]
             rfl
            refine pure_ (i := 11) (N := some 37) (v := undef) (a' := ?_) (bT 12 18) rfl rfl (any_of HT_.out (by kernel_rfl)) (fun _ _ _ h => h) (Or.inr ⟨by rfl, rfl⟩) ?_ ?_
            rotate_left
            ·simp only [Act.put, List.setIfInBounds_toArray, List.set_cons_zero, List.set_cons_succ, i64_w, i32_w]
             rfl
            refine pure_ (i := 12) (N := some 38) (v := undef) (a' := ?_) (bT 13 18) rfl rfl (any_of HT_.out (by kernel_rfl)) (fun _ _ _ h => h) (Or.inr ⟨by rfl, rfl⟩) ?_ ?_
            rotate_left
            ·simp only [Act.put, List.setIfInBounds_toArray, List.set_cons_zero, List.set_cons_succ, i64_w, i32_w]
             rfl
            refine pure_ (i := 13) (N := some 39) (v := undef) (a' := ?_) (bT 14 18) rfl rfl (any_of HT_.out (by kernel_rfl)) (fun _ _ _ h => h) (Or.inr ⟨by rfl, rfl⟩) ?_ ?_
            rotate_left
            ·simp only [Act.put, List.setIfInBounds_toArray, List.set_cons_zero, List.set_cons_succ, i64_w, i32_w]
             rfl
            refine pure_ (i := 14) (N := some 40) (v := undef) (a' := ?_) (bT 15 18) rfl rfl (any_of HT_.out (by kernel_rfl)) (fun _ _ _ h => h) (Or.inr ⟨by rfl, rfl⟩) ?_ ?_
            rotate_left
            ·simp only [Act.put, List.setIfInBounds_toArray, List.set_cons_zero, List.set_cons_succ, i64_w, i32_w]
             rfl
            refine pure_ (i := 15) (N := some 41) (v := undef) (a' := ?_) (bT 16 18) rfl rfl (any_of HT_.out (by kernel_rfl)) (fun _ _ _ h => h) (Or.inr ⟨by rfl, rfl⟩) ?_ ?_
            rotate_left
            ·simp only [Act.put, List.setIfInBounds_toArray, List.set_cons_zero, List.set_cons_succ, i64_w, i32_w]
             rfl
            refine pu_ HT_ 16 (some 42) (bT 17 18) ?_
            refine pu_ HT_ 17 (some 43) (bT 18 18) ?_
            refine done_ (done_of HT_.out (by kernel_rfl)) ?_
            try go_wp2
            go_meet
            case rel => exact ⟨_, (false), (by first | rfl | (simp; done) | (simp [*]; done)), H', ⟨by have := HJ2.out; have := HK2.out; first | omega | exact Nat.le_refl _⟩, ⟨pk BK112⟩, ⟨by repeat (first | (with_reducible first | exact HB.out | apply below_alloc | apply pw_below_drewN | apply below_drew1 | refine below_set ?_ GE112.out) | exact HB.out)⟩⟩
          ·replace c14 := Bool.eq_false_iff.mpr c14
           subst c14
           rw [if_neg (show ¬ (false = true) by decide)] at H
           have H' := Aside0.mk H
           clear H
           try go_wp2
           have n0_ : Aside0 (((w11.setCell ⟨gb112, 0, none⟩ (.int .i64 ((rd_T59 l1 x21_2).f0))).setCell ⟨gb112, 1, none⟩ (.int .i64 ((rd_T59 l1 x21_2).f1))).heap[gb112]? = some (.cells #[.int .i64 ((rd_T59 l1 x21_2).f0), .int .i64 ((rd_T59 l1 x21_2).f1)] 59 (0, 0))) := ⟨by refine pf_ ?_; refine blk_put (cs := #[.int .i64 ((rd_T59 l1 x21_2).f0), .int .i64 0]) ?_ 1 _ rfl; refine pf_ ?_; refine blk_put (cs := #[.int .i64 0, .int .i64 0]) ?_ 0 _ rfl; exact pk BK112⟩
           have n1_ : Aside0 (Below w.heap.size w ((w11.setCell ⟨gb112, 0, none⟩ (.int .i64 ((rd_T59 l1 x21_2).f0))).setCell ⟨gb112, 1, none⟩ (.int .i64 ((rd_T59 l1 x21_2).f1)))) := ⟨by repeat (first | (with_reducible first | exact HB.out | apply below_alloc | apply pw_below_drewN | apply below_drew1 | refine below_set ?_ GE112.out) | exact HB.out)⟩
           (try clear BK112)
           (try clear HB)
           generalize ((w11.setCell ⟨gb112, 0, none⟩ (.int .i64 ((rd_T59 l1 x21_2).f0))).setCell ⟨gb112, 1, none⟩ (.int .i64 ((rd_T59 l1 x21_2).f1))) = w27 at n0_ n1_ ⊢
           have BK112 := n0_
           have HB := n1_
           clear n0_ n1_
           replace BK112 := Aside0.mk (blk_drew BK112.out)
           replace HB := Aside0.mk (below_drew1 HB.out)
           refine start_ (n := 18) (S := fun w' => w'.cell? ⟨gb112, 0, none⟩ = some (.int .i64 ((rd_T59 l1 x21_2).f0)) ∧ w'.cell? ⟨gb112, 1, none⟩ = some (.int .i64 ((rd_T59 l1 x21_2).f1))) (ds := []) (bT 0 18) (by kernel_rfl) rfl rfl ⟨(blk_cell BK112.out 0).trans rfl, (blk_cell BK112.out 1).trans rfl⟩ (fun hHeld => ?_); refine with_tabW spec_cuGood.tab6 spec_cuGood.bits6 (fun HT_ HW_ => ?_)
           generalize w27.drew = w28 at BK112 HB hHeld ⊢
           refine pu_ HT_ 0 (some 26) (bT 1 18) ?_
           refine take_ (i := 1) (N := some 27) (v := ?_) (a' := ?_) (bT 2 18) rfl rfl (take_ofW HT_.out HW_.out (by kernel_rfl)) (fun _ _ _ h => h) (Or.inl ⟨by rfl, ?_⟩) hHeld ?_ ?_
           rotate_left
           ·rintro w' ⟨s0, s1⟩
            go_simp
            with_reducible rfl
           rotate_left
           ·simp only [Act.put, List.setIfInBounds_toArray, List.set_cons_zero, List.set_cons_succ, i64_w, i32_w]
            rfl
           refine one_ (i := 2) (N := some 28) (bT 3 18) rfl rfl (one_of HT_.out (by kernel_rfl)) (by decide) (fun K hK => ?_)
           refine goes_ Try.func68 (by kernel_rfl) rfl #[.int .i64 a0, .agg #[.int .i64 ((rd_T59 l1 x21_2).f0), .int .i64 ((rd_T59 l1 x21_2).f1)]] (by rfl) rfl rfl (by (try simp only [List.map_toArray, List.map_cons, List.map_nil]); first | done | rfl | (simp only [List.length_drop, List.length_take]; rfl)) ?_
           with_reducible refine (spec_poDiagonal.calls a0 ((rd_T59 l1 x21_2).f0) ((rd_T59 l1 x21_2).f1) false _ A13.out).mono ?_
           rintro e w29 ⟨rfl, hb⟩
           refine ⟨_, rfl, ?_⟩
           replace BK112 := bb BK112 hb
           replace HB := hh HB hb
           (try clear hb);(try clear hb2);(try clear hk);(try clear hi)
           refine hK.out _ _ ⟨(blk_cell BK112.out 0).trans rfl, (blk_cell BK112.out 1).trans rfl⟩ (fun hHeld => ?_)
           clear hK K
           refine norm_ (a' := ?_) ?_ ?_
           rotate_left
           ·show Act.put _ (some 28) _ = _
            simp only [Act.put, List.setIfInBounds_toArray, List.set_cons_zero, List.set_cons_succ, i64_w, i32_w]
            rfl
           refine pu_ HT_ 3 (some 29) (bT 4 18) ?_
           refine pu_ HT_ 4 (some 30) (bT 5 18) ?_
           refine pure_ (i := 5) (N := some 31) (v := undef) (a' := ?_) (bT 6 18) rfl rfl (any_of HT_.out (by kernel_rfl)) (fun _ _ _ h => h) (Or.inr ⟨by rfl, rfl⟩) ?_ ?_
           rotate_left
           ·simp only [Act.put, List.setIfInBounds_toArray, List.set_cons_zero, List.set_cons_succ, i64_w, i32_w]
            rfl
           refine pure_ (i := 6) (N := some 32) (v := undef) (a' := ?_) (bT 7 18) rfl rfl (any_of HT_.out (by kernel_rfl)) (fun _ _ _ h => h) (Or.inr ⟨by rfl, rfl⟩) ?_ ?_
           rotate_left
           ·simp only [Act.put, List.setIfInBounds_toArray, List.set_cons_zero, List.set_cons_succ, i64_w, i32_w]
            rfl
           refine pure_ (i := 7) (N := some 33) (v := undef) (a' := ?_) (bT 8 18) rfl rfl (any_of HT_.out (by kernel_rfl)) (fun _ _ _ h => h) (Or.inr ⟨by rfl, rfl⟩) ?_ ?_
           rotate_left
           ·simp only [Act.put, List.setIfInBounds_toArray, List.set_cons_zero, List.set_cons_succ, i64_w, i32_w]
            rfl
           refine pure_ (i := 8) (N := some 34) (v := undef) (a' := ?_) (bT 9 18) rfl rfl (any_of HT_.out (by kernel_rfl)) (fun _ _ _ h => h) (Or.inr ⟨by rfl, rfl⟩) ?_ ?_
           rotate_left
           ·simp only [Act.put, List.setIfInBounds_toArray, List.set_cons_zero, List.set_cons_succ, i64_w, i32_w]
            rfl
           refine pure_ (i := 9) (N := some 35) (v := undef) (a' := ?_) (bT 10 18) rfl rfl (any_of HT_.out (by kernel_rfl)) (fun _ _ _ h => h) (Or.inr ⟨by rfl, rfl⟩) ?_ ?_
           rotate_left
           ·simp only [Act.put, List.setIfInBounds_toArray, List.set_cons_zero, List.set_cons_succ, i64_w, i32_w]
            rfl
           refine pure_ (i := 10) (N := some 36) (v := undef) (a' := ?_) (bT 11 18) rfl rfl (any_of HT_.out (by kernel_rfl)) (fun _ _ _ h => h) (Or.inr ⟨by rfl, rfl⟩) ?_ ?_
           rotate_left
           ·simp only [Act.put, List.setIfInBounds_toArray, List.set_cons_zero, List.set_cons_succ, i64_w, i32_w]
            rfl
           refine pure_ (i := 11) (N := some 37) (v := undef) (a' := ?_) (bT 12 18) rfl rfl (any_of HT_.out (by kernel_rfl)) (fun _ _ _ h => h) (Or.inr ⟨by rfl, rfl⟩) ?_ ?_
           rotate_left
           ·simp only [Act.put, List.setIfInBounds_toArray, List.set_cons_zero, List.set_cons_succ, i64_w, i32_w]
            rfl
           refine pure_ (i := 12) (N := some 38) (v := undef) (a' := ?_) (bT 13 18) rfl rfl (any_of HT_.out (by kernel_rfl)) (fun _ _ _ h => h) (Or.inr ⟨by rfl, rfl⟩) ?_ ?_
           rotate_left
           ·simp only [Act.put, List.setIfInBounds_toArray, List.set_cons_zero, List.set_cons_succ, i64_w, i32_w]
            rfl
           refine pure_ (i := 13) (N := some 39) (v := undef) (a' := ?_) (bT 14 18) rfl rfl (any_of HT_.out (by kernel_rfl)) (fun _ _ _ h => h) (Or.inr ⟨by rfl, rfl⟩) ?_ ?_
           rotate_left
           ·simp only [Act.put, List.setIfInBounds_toArray, List.set_cons_zero, List.set_cons_succ, i64_w, i32_w]
            rfl
           refine pure_ (i := 14) (N := some 40) (v := undef) (a' := ?_) (bT 15 18) rfl rfl (any_of HT_.out (by kernel_rfl)) (fun _ _ _ h => h) (Or.inr ⟨by rfl, rfl⟩) ?_ ?_
           rotate_left
           ·simp only [Act.put, List.setIfInBounds_toArray, List.set_cons_zero, List.set_cons_succ, i64_w, i32_w]
            rfl
           refine pure_ (i := 15) (N := some 41) (v := undef) (a' := ?_) (bT 16 18) rfl rfl (any_of HT_.out (by kernel_rfl)) (fun _ _ _ h => h) (Or.inr ⟨by rfl, rfl⟩) ?_ ?_
           rotate_left
           ·simp only [Act.put, List.setIfInBounds_toArray, List.set_cons_zero, List.set_cons_succ, i64_w, i32_w]
            rfl
           refine pure_ (i := 16) (N := some 42) (v := undef) (a' := ?_) (bT 17 18) rfl rfl (any_of HT_.out (by kernel_rfl)) (fun _ _ _ h => h) (Or.inr ⟨by rfl, rfl⟩) ?_ ?_
           rotate_left
           ·simp only [Act.put, List.setIfInBounds_toArray, List.set_cons_zero, List.set_cons_succ, i64_w, i32_w]
            rfl
           refine pu_ HT_ 17 (some 43) (bT 18 18) ?_
           refine done_ (done_of HT_.out (by kernel_rfl)) ?_
           try go_wp2
           go_meet
           case rel => exact ⟨_, (true), (by first | rfl | (simp; done) | (simp [*]; done)), H', ⟨by have := HJ2.out; have := HK2.out; first | omega | exact Nat.le_refl _⟩, ⟨pk BK112⟩, ⟨by repeat (first | (with_reducible first | exact HB.out | apply below_alloc | apply pw_below_drewN | apply below_drew1 | refine below_set ?_ GE112.out) | exact HB.out)⟩⟩
         case rest =>
          clear HC10
          (try clear c5);(try clear c6);(try clear c7);(try clear c7b0);(try clear c8);(try clear c8b0);(try clear c9);(try clear c9b0);(try clear c14);(try clear c15);(try clear c15b0);(try clear c17);(try clear c17b0);(try clear c18);(try clear c18b0);(try clear z12a z12b y12a y12b);(try clear hx111_0);(try clear hx111_1);(try clear hx114_0);(try clear hx114_1);(try clear p111);(try clear p114);(try clear q111);(try clear q114)
          obtain ⟨kq, x43_9, rfl, HA, HJ9, BK112, HB⟩ := hcut
          cases kq with
          | zero => exact absurd HA.out (by simp [spec_cuGood.j2])
          | succ kj9 =>
           have H := HA.out
           clear HA
           simp only [spec_cuGood.j2] at H
           by_cases c30 : x43_9 = true
           ·subst c30
            rw [if_pos rfl] at H
            obtain rfl := Option.some.inj H
            simp only [Option.some.injEq, Prod.mk.injEq] at H
            obtain ⟨rfl⟩ := H
            go_wp2
            go_ret
            exact ⟨eqr, hk HB⟩
           ·replace c30 := Bool.eq_false_iff.mpr c30
            subst c30
            rw [if_neg (show ¬ (false = true) by decide)] at H
            by_cases c31 : 0 ≤ x21_2
            ·rw [if_pos c31] at H
             have c31b0 := eq_true c31
             have c31b1 : decide (0 ≤ x21_2) = true := decide_eq_true c31
             clear c31
             by_cases c32 : x21_2 ≤ (l1.length : Int)
             ·rw [if_pos c32] at H
              have c32b0 := eq_true c32
              have c32b1 : decide (x21_2 ≤ (l1.length : Int)) = true := decide_eq_true c32
              clear c32
              obtain ⟨y116, hy116⟩ : ∃ y_ : List (S59), y_ = (l1.take (x21_2 : Int).toNat) := ⟨_, rfl⟩
              replace H : (spec_cuGood.l1 kj9 a0 l1 l1 (l1.length : Int) x21_2 y116 (y116.length : Int) 0 ((rd_T59 l1 x21_2).f0) ((rd_T59 l1 x21_2).f1)) = some r := by first | (rw [hy116]; with_reducible exact H) | (have H2_ := (Option.bind_some _ _).symm.trans H; rw [hy116]; with_reducible exact H2_) | (have H2_ := (Option.bind_some _ _).symm.trans H; with_reducible exact H2_) | with_reducible exact H | (rw [hy116]; exact H) | exact H
              have Ny116 := Aside0.mk hy116
              clear hy116
              have H' := Aside0.mk H
              clear H
              have q33 : (x21_2 : Int) ≤ ((l1.length : Int) : Int) := of_decide_eq_true (by first | (with_reducible assumption) | assumption)
              obtain ⟨i033, hi033, _, hsz33, _⟩ := info_parts info59
              have hroom33 : l1.length ≤ c1 := HC1.out
              have hC33 : Kd.C k59 _ (some ad111) l1.length l1 := HR1.out
              have hcut33 := cut_to (P := Try.prog) 27 59 .i64 Try.underlying27 hi033 (some ad111) l1.length c1 x21_2 (of_decide_eq_true (by first | (with_reducible assumption) | assumption)) q33 hroom33
              have hr33 := Kd.C_take (m := (x21_2 : Int).toNat) hC33 (by omega)
              have hy33 : y116.length = (x21_2 : Int).toNat := (by rw [Ny116.out, List.length_take]; omega)
              rw [← Ny116.out] at hr33
              rw [← hy33] at hcut33
              have HR119 := Aside0.mk hr33
              have HC119 := Aside0.mk (show y116.length ≤ c1 from by omega)
              clear hr33 hC33 hroom33 hi033 hsz33
              have KY33 := Aside0.mk hy33
              clear hy33
              replace q33 := eq_true q33
              go_wp2
              go_loopg [48] kj9 (fun kq v48 w' => ∃ (x48_4 : Int), v48 = .int .i64 x48_4 ∧ Aside0 (spec_cuGood.l1 kq a0 l1 l1 (l1.length : Int) x21_2 y116 (y116.length : Int) x48_4 ((rd_T59 l1 x21_2).f0) ((rd_T59 l1 x21_2).f1) = some r) ∧ Aside0 (kq ≤ kj9) ∧ Aside0 (w'.heap[gb112]? = some (.cells #[.int .i64 ((rd_T59 l1 x21_2).f0), .int .i64 ((rd_T59 l1 x21_2).f1)] 59 (0, 0))) ∧ Aside0 (Below w.heap.size w w'))
              case atStart => exact ⟨(0), (by first | rfl | (simp; done) | (simp [*]; done)), H', ⟨Nat.le_refl _⟩, ⟨pk BK112⟩, ⟨by repeat (first | (with_reducible first | exact HB.out | apply below_alloc | apply pw_below_drewN | apply below_drew1 | refine below_set ?_ GE112.out) | exact HB.out)⟩⟩
              case round =>
               clear H'
               (try clear c1);(try clear c5);(try clear c6);(try clear c7);(try clear c7b0);(try clear c8);(try clear c8b0);(try clear c9);(try clear c9b0);(try clear c14);(try clear c15);(try clear c15b0);(try clear c17);(try clear c17b0);(try clear c18);(try clear c18b0);(try clear c30);(try clear c31);(try clear c31b0);(try clear c31b1);(try clear c32);(try clear c32b0);(try clear c32b1);(try clear q33 q33);(try clear z12a z12b y12a y12b);(try clear hx111_0);(try clear hx111_1);(try clear hx114_0);(try clear hx114_1);(try clear p111);(try clear p114);(try clear q111);(try clear q114)
               obtain ⟨x48_4, rfl, HA, HK4, BK112, HB⟩ := hrel
               cases gk with
               | zero => exact absurd HA.out (by simp [spec_cuGood.l1])
               | succ k4 =>
                have H := HA.out
                clear HA
                simp only [spec_cuGood.l1] at H
                by_cases c34 : x48_4 < (y116.length : Int)
                ·rw [if_pos c34] at H
                 have c34b0 : decide (x48_4 < (y116.length : Int)) = true := decide_eq_true c34
                 clear c34
                 by_cases c35 : 0 ≤ x48_4
                 ·rw [if_pos c35] at H
                  have c35b0 : decide (0 ≤ x48_4) = true := decide_eq_true c35
                  clear c35
                  by_cases c36 : x48_4 < (y116.length : Int)
                  ·rw [if_pos c36] at H
                   have c36b0 : decide (x48_4 < (y116.length : Int)) = true := decide_eq_true c36
                   clear c36
                   replace H := Option.bind_eq_some_iff.mp H
                   obtain ⟨t122, A370, H⟩ := H
                   have A37 := Aside0.mk A370
                   clear A370
                   by_cases c38 : t122 = true
                   ·subst c38
                    rw [if_pos rfl] at H
                    obtain rfl := Option.some.inj H
                    simp only [Option.some.injEq, Prod.mk.injEq] at H
                    obtain ⟨rfl⟩ := H
                    have p120 : 0 ≤ (x48_4 : Int) := of_decide_eq_true (by first | (with_reducible assumption) | assumption)
                    have q120 : x48_4 < (y116.length : Int) := of_decide_eq_true (by first | (with_reducible assumption) | assumption)
                    obtain ⟨ad120, e120, hx120_0, hx120_1⟩ := at_T59 HR119.out x48_4 p120 q120
                    obtain rfl : ad111 = ad120 := (by injection e120)
                    replace hx120_0 := (HB.out.cell (World.block_lt_of_cell? w _ hx120_0)).trans hx120_0
                    replace hx120_1 := (HB.out.cell (World.block_lt_of_cell? w _ hx120_1)).trans hx120_1
                    replace p120 := eq_true p120
                    replace q120 := eq_true q120
                    go_wp2_with (first | ((with_reducible refine gate_dst (N := 8) rfl ?_); (try (refine gate_guard (by rfl) ?_; dsimp only)); refine box_ 8 #[.int .i64 0, .int .i64 0] 59 ?_; intro gb121 hg w39 hbox hb; have BK121 := Aside0.mk (hbox); have GW121 := ge_ HB hg; have GE121 := GW121; obtain ⟨NB112_121, NB121_112⟩ := nb BK112 hg; replace BK112 := bb BK112 hb; replace HB := hh HB hb; clear hb hbox hg; have hnb40 := NB121_112.out; have hnc40 := NB112_121.out; obtain ⟨z41a, z41b, y41a, y41b⟩ := c2_ BK121; obtain ⟨z42a, z42b, y42a, y42b⟩ := c2_ BK112) | ((with_reducible refine gate_callee (f := 70) rfl ?_); refine gof_ (some 54) Try.func70 #[.agg #[.int .i64 ((rd_T59 l1 x21_2).f0), .int .i64 ((rd_T59 l1 x21_2).f1)], .agg #[.int .i64 ((rd_T59 y116 x48_4).f0), .int .i64 ((rd_T59 y116 x48_4).f1)]] ?_; (with_reducible refine (spec_poCross.calls ((rd_T59 l1 x21_2).f0) ((rd_T59 l1 x21_2).f1) ((rd_T59 y116 x48_4).f0) ((rd_T59 y116 x48_4).f1) true _ A37.out).mono ?_); rintro e w43 ⟨rfl, hb⟩; refine ⟨_, rfl, ?_⟩; replace BK112 := bb BK112 hb; replace BK121 := Aside0.mk (blk_below (g := gb121) (o := .cells #[.int .i64 ((rd_T59 y116 x48_4).f0), .int .i64 ((rd_T59 y116 x48_4).f1)] 59 (0, 0)) (by refine pf_ ?_; refine blk_put (cs := #[.int .i64 ((rd_T59 y116 x48_4).f0), .int .i64 0]) ?_ 1 _ rfl; refine pf_ ?_; refine blk_put (cs := #[.int .i64 0, .int .i64 0]) ?_ 0 _ rfl; exact pk BK121) hb); replace HB := hh HB hb; clear hb))
                    go_ret
                    exact ⟨eqr, hk HB⟩
                   ·replace c38 := Bool.eq_false_iff.mpr c38
                    subst c38
                    rw [if_neg (show ¬ (false = true) by decide)] at H
                    have H' := Aside0.mk H
                    clear H
                    have p120 : 0 ≤ (x48_4 : Int) := of_decide_eq_true (by first | (with_reducible assumption) | assumption)
                    have q120 : x48_4 < (y116.length : Int) := of_decide_eq_true (by first | (with_reducible assumption) | assumption)
                    obtain ⟨ad120, e120, hx120_0, hx120_1⟩ := at_T59 HR119.out x48_4 p120 q120
                    obtain rfl : ad111 = ad120 := (by injection e120)
                    replace hx120_0 := (HB.out.cell (World.block_lt_of_cell? w _ hx120_0)).trans hx120_0
                    replace hx120_1 := (HB.out.cell (World.block_lt_of_cell? w _ hx120_1)).trans hx120_1
                    replace p120 := eq_true p120
                    replace q120 := eq_true q120
                    go_wp2_with (first | ((with_reducible refine gate_dst (N := 8) rfl ?_); (try (refine gate_guard (by rfl) ?_; dsimp only)); refine box_ 8 #[.int .i64 0, .int .i64 0] 59 ?_; intro gb121 hg w44 hbox hb; have BK121 := Aside0.mk (hbox); have GW121 := ge_ HB hg; have GE121 := GW121; obtain ⟨NB112_121, NB121_112⟩ := nb BK112 hg; replace BK112 := bb BK112 hb; replace HB := hh HB hb; clear hb hbox hg; have hnb45 := NB121_112.out; have hnc45 := NB112_121.out; obtain ⟨z46a, z46b, y46a, y46b⟩ := c2_ BK121; obtain ⟨z47a, z47b, y47a, y47b⟩ := c2_ BK112) | ((with_reducible refine gate_callee (f := 70) rfl ?_); refine gof_ (some 54) Try.func70 #[.agg #[.int .i64 ((rd_T59 l1 x21_2).f0), .int .i64 ((rd_T59 l1 x21_2).f1)], .agg #[.int .i64 ((rd_T59 y116 x48_4).f0), .int .i64 ((rd_T59 y116 x48_4).f1)]] ?_; (with_reducible refine (spec_poCross.calls ((rd_T59 l1 x21_2).f0) ((rd_T59 l1 x21_2).f1) ((rd_T59 y116 x48_4).f0) ((rd_T59 y116 x48_4).f1) false _ A37.out).mono ?_); rintro e w48 ⟨rfl, hb⟩; refine ⟨_, rfl, ?_⟩; replace BK112 := bb BK112 hb; replace BK121 := Aside0.mk (blk_below (g := gb121) (o := .cells #[.int .i64 ((rd_T59 y116 x48_4).f0), .int .i64 ((rd_T59 y116 x48_4).f1)] 59 (0, 0)) (by refine pf_ ?_; refine blk_put (cs := #[.int .i64 ((rd_T59 y116 x48_4).f0), .int .i64 0]) ?_ 1 _ rfl; refine pf_ ?_; refine blk_put (cs := #[.int .i64 0, .int .i64 0]) ?_ 0 _ rfl; exact pk BK121) hb); replace HB := hh HB hb; clear hb))
                    go_roundg k4
                    case measure => have := HJ2.out; have := HK2.out; have := HJ9.out; have := HK4.out; omega
                    case rel => exact ⟨(wrap64 (x48_4 + 1)), (by first | rfl | (simp; done) | (simp [*]; done)), H', ⟨by have := HJ2.out; have := HK2.out; have := HJ9.out; have := HK4.out; omega⟩, ⟨pk BK112⟩, ⟨by repeat (first | (with_reducible first | exact HB.out | apply below_alloc | apply pw_below_drewN | apply below_drew1 | refine below_set ?_ GE112.out | refine below_set ?_ GE121.out) | exact HB.out)⟩⟩
                  ·rw [if_neg c36] at H
                   exact absurd H (by simp)
                 ·rw [if_neg c35] at H
                  exact absurd H (by simp)
                ·rw [if_neg c34] at H
                 have c34b0 : decide (x48_4 < (y116.length : Int)) = false := decide_eq_false c34
                 clear c34
                 have H' := Aside0.mk H
                 clear H
                 go_wp2
                 go_roundg k4
                 case measure => have := HJ2.out; have := HK2.out; have := HJ9.out; have := HK4.out; omega
                 case rel => exact ⟨(wrap64 (x21_2 + 1)), (by first | rfl | (simp; done) | (simp [*]; done)), H', ⟨by have := HJ2.out; have := HK2.out; have := HJ9.out; have := HK4.out; omega⟩, ⟨by repeat (first | (with_reducible first | exact HB.out | apply below_alloc | apply pw_below_drewN | apply below_drew1 | refine below_set ?_ GE112.out) | exact HB.out)⟩⟩
             ·rw [if_neg c32] at H
              exact absurd H (by simp)
            ·rw [if_neg c31] at H
             exact absurd H (by simp)
        ·rw [if_neg c9] at H
         exact absurd H (by simp)
       ·rw [if_neg c8] at H
        exact absurd H (by simp)
      ·rw [if_neg c7] at H
       have c7b0 : decide (x21_2 < (l1.length : Int)) = false := decide_eq_false c7
       clear c7
       obtain rfl := Option.some.inj H
       simp only [Option.some.injEq, Prod.mk.injEq] at H
       obtain ⟨rfl⟩ := H
       go_wp2
       go_ret
       exact ⟨eqr, hk HB⟩

end Go.Proofs.Ytggocekjhohhcaa.P

/-
  DERIVED: THE SHELF's CONTRACTS AT THIS DUMP, IN PLAIN WORDS (tools/lay-plain.mjs out of 'YtggocekjhohhcaaShelfE.lean', which tools/lay-shelf.mjs wrote): THE SAME DECLARATIONS UNDER THE SAME NAMES: 'import', 'namespace', 'open', 'def', 'theorem' AND NOTHING ELSE: no command of the shelf's: FOR A HAND-IN. Each laying: the table of numbers ('.._ren') and one theorem, a field a fact of the dump's own or the kernel's comparison; each contract: ONE APPLICATION.
-/
namespace Go.Proofs
open Go.Shelf
def Try.lContD_ren : Go.Shelf.Ren := ⟨fun | 8 => 99 | 6 => 117 | n => n, fun | 22 => 27 | 23 => 59 | 25 => 98 | 4 => 4 | 3 => 3 | 0 => 0 | n => n, fun | n => n⟩
theorem Try.lContD : Go.Proofs.SlLaysH0.n8 Try.prog Try.lContD_ren := {
  mixed := by kernel_rfl
  f6 := ⟨Try.f117.name, by decide, Try.func117.trans (congrArg some (by kernel_rfl))⟩
  f8 := ⟨Try.f99.name, by decide, Try.func99.trans (congrArg some (by kernel_rfl))⟩
  t0 := Try.underlying0
  a0 := Try.isAgg0
  z0 := Try.sizeOf0
  v0 := Try.zeroValue0
  t3 := Try.underlying3
  a3 := Try.isAgg3
  z3 := Try.sizeOf3
  v3 := Try.zeroValue3
  t4 := Try.underlying4
  a4 := Try.isAgg4
  z4 := Try.sizeOf4
  v4 := Try.zeroValue4
  t22 := Try.underlying27
  a22 := Try.isAgg27
  z22 := Try.sizeOf27
  v22 := Try.zeroValue27
  t25 := Try.underlying98
  a25 := Try.isAgg98
  z25 := Try.sizeOf98
  v25 := Try.zeroValue98 }
end Go.Proofs

/- What crosses hands back: walked by hand over the shelf's contract of slices.ContainsFunc at a struct. -/
namespace Go.Proofs.Ytggocekjhohhcaa.P
set_option linter.unusedVariables false
set_option linter.unusedSimpArgs false
open Go.RowKit Go.Shelf Go.Lib Go.Proofs.YtggocekjhohhcaaW.PrintWords
abbrev Dia := S59
instance : Inhabited Dia := ⟨⟨0, 0⟩⟩
def encDia (x : Dia) : List Value := [.int .i64 x.f0, .int .i64 x.f1]
theorem dias_cells {w : World} {A : Option Addr} {l : List Dia} (h : Kd.C k59 w A l.length l) (hn : l ≠ []) :
    ∃ b o, A = some ⟨b, o, none⟩ ∧ b < w.heap.size ∧ ∀ j, j < l.length → ∀ i v, (encDia l[j]!)[i]? = some v → w.cell? ⟨b, o + j * 2 + i, none⟩ = some v := by
  obtain ⟨b, o, rfl, hb, hc⟩ := row_cells (d := k59) (by decide) h hn
  refine ⟨b, o, rfl, hb, fun j hj i v hv => ?_⟩
  obtain ⟨c, _, hk, hcc⟩ := hc j l[j] (by simp [hj])
  obtain rfl := k59_open hk
  rw [show l[j]! = l[j] from by simp [hj]] at hv
  exact hcc i v hv
def crossD (d e : Dia) : Bool := (decide (d.f0 < e.f0) && decide (e.f0 < d.f1) && decide (d.f1 < e.f1)) || (decide (e.f0 < d.f0) && decide (d.f0 < e.f1) && decide (e.f1 < d.f1))
def impl_crosses.f (l : List Dia) (a0 a1 : Int) : Option Bool := some (l.any fun e => crossD ⟨a0, a1⟩ e)
set_option maxHeartbeats 1000000 in
theorem impl_crosses.pred (d : Dia) (B : Nat) (w : World) (hB : B < w.heap.size) (h0 : w.cell? ⟨B, 0, none⟩ = some (.int .i64 d.f0)) (h1 : w.cell? ⟨B, 1, none⟩ = some (.int .i64 d.f1)) :
    PredBelow Try.prog 100 #[.pointer (some ⟨B, 0, none⟩)] (fun x => .agg (encDia x).toArray) (fun x => crossD d x) w := fun W x hb => by
  have c0 : W.cell? ⟨B, 0, none⟩ = some (.int .i64 d.f0) := (hb.cell (p := ⟨B, 0, none⟩) hB).trans h0
  have c1 : W.cell? ⟨B, 1, none⟩ = some (.int .i64 d.f1) := (hb.cell (p := ⟨B, 1, none⟩) hB).trans h1
  have hBW : B < W.heap.size := Nat.lt_of_lt_of_le hB hb.size
  have hne : B ≠ W.heap.size := by omega
  obtain ⟨x0, x1⟩ := x
  obtain ⟨d0, d1⟩ := d
  show Calls Try.prog 100 #[.agg #[.int .i64 x0, .int .i64 x1], .pointer (some ⟨B, 0, none⟩)] W _
  go_enter Try.func100, Try.ntmps100
  go_wp2
  all_goals
    have hs := hb.size
    go_ret
    refine ⟨congrArg (fun b => Ending.returned (.bool b)) ?_, ((hb.alloc hs _).alloc (by simp; omega) _).alloc (by simp; omega) _⟩
    rw [Bool.eq_iff_iff]
    simp [crossD]
    try omega
theorem contD_empty (A0 : Option Addr) (c0 : Nat) (fv : Value) (w : World) :
    Calls Try.prog 99 #[.slice A0 0 c0, fv] w fun e w' => e = .returned (.bool false) ∧ w' = w := by
  have hI : ∀ W, Calls Try.prog 117 #[.slice A0 0 c0, fv] W fun e w' => e = .returned (.int .i64 (-1)) ∧ w' = W := fun W => by
    go_enter Try.func117, Try.ntmps117
    go_wp2
    go_loopg [5, 8] 0 (fun _ _ s8 wr => s8 = .int .i64 0 ∧ wr = W)
    case atStart => exact ⟨rfl, rfl⟩
    case round =>
      obtain ⟨rfl, rfl⟩ := hrel
      go_wp2
      go_ret
      exact ⟨rfl, rfl⟩
  go_enter Try.func99, Try.ntmps99
  go_wp2_with (go_at_call 117; refine (hI _).mono ?_; rintro e w' ⟨rfl, rfl⟩)
  go_ret
  exact ⟨rfl, rfl⟩
set_option maxHeartbeats 1000000 in
theorem impl_crosses.calls (A0 : Option Addr) (c0 : Nat) (l : List Dia) (a0 a1 : Int) (r : Bool) (w : World) (hr0 : Kd.C k59 w A0 l.length l) (hc0 : l.length ≤ c0) (h : impl_crosses.f l a0 a1 = some r) :
    Calls Try.prog 76 #[.slice A0 l.length c0, .agg #[.int .i64 a0, .int .i64 a1]] w fun e w' => e = .returned (.bool r) ∧ Below w.heap.size w w' := by
  unfold impl_crosses.f at h
  obtain rfl := Option.some.inj h
  clear h
  have eg : ∀ args w, (callFunc 100 args).run Try.prog w = .ok (.enter 100 args) w := enters_of Try.func100 (by kernel_rfl) rfl
  have hlen := hr0.2.1
  have hcon : ∀ B W, Below w.heap.size w W → B < W.heap.size → W.cell? ⟨B, 0, none⟩ = some (.int .i64 a0) → W.cell? ⟨B, 1, none⟩ = some (.int .i64 a1) →
      Calls Try.prog 99 #[.slice A0 l.length c0, .func (.func 100) #[] #[.pointer (some ⟨B, 0, none⟩)]] W
        fun e w' => e = .returned (.bool (l.any fun e => crossD ⟨a0, a1⟩ e)) ∧ Below W.heap.size W w' := fun B W hW hB h0 h1 => by
    by_cases hn : l = []
    · subst hn
      exact (contD_empty A0 c0 _ W).mono fun e w' ⟨he, hw⟩ => ⟨he, hw ▸ Below.refl _ _⟩
    · obtain ⟨b, o, rfl, hb, hc⟩ := dias_cells hr0 hn
      have h9 := AnyQ.slices_ContainsFunc Try.lContD 2 Try.isAgg59 Try.sizeOf59 encDia (fun _ => rfl) (fun x => crossD ⟨a0, a1⟩ x) 100 #[.pointer (some ⟨B, 0, none⟩)] eg b o l.length c0 l W
        (impl_crosses.pred ⟨a0, a1⟩ B W hB h0 h1) (Nat.le_refl _) hlen (Nat.lt_of_lt_of_le hb hW.size) (fun j hj i v hv => (hW.cell (p := ⟨b, o + j * 2 + i, none⟩) hb).trans (hc j hj i v hv))
      rw [List.take_length] at h9
      exact h9
  clear hr0 hc0
  generalize (l.any fun e => crossD ⟨a0, a1⟩ e) = r at hcon ⊢
  go_enter Try.func76, Try.ntmps76
  go_wp2_with (go_at_call 99; refine (hcon _ _ ((Below.refl _ _).alloc (Nat.le_refl _) _) (by simp) (by simp) (by simp)).mono ?_; rintro e w' ⟨rfl, hb⟩)
  go_ret
  exact ⟨rfl, ((Below.refl _ _).alloc (Nat.le_refl _) _).trans (hb.mono (by simp))⟩
end Go.Proofs.Ytggocekjhohhcaa.P

-- By a program of this session.
namespace Go.Proofs.Ytggocekjhohhcaa.P
open Go.RowKit Go.Proofs.YtggocekjhohhcaaW.PrintWords Go.Proofs.YtggocekjhohhcaaW.PrintLast Go.Proofs.YtggocekjhohhcaaW.PrintMore
attribute [local go_sem] max2_int min2_int max_two min_two max_three min_three max_four min_four
set_option linter.unusedVariables false
set_option linter.unusedSimpArgs false

/-! ### impl_within: function 85 -/
def impl_within.f (a0 : Int) (a1 : Int) (a2 : Int) : Option (Bool) := if a0 ≥ a1 then (some (decide (a0 ≤ a2))) else (some false)
set_option maxHeartbeats 8000000 in
set_option maxRecDepth 100000 in
theorem impl_within.calls (a0 : Int) (a1 : Int) (a2 : Int) (r : Bool) (w : World) (h : impl_within.f a0 a1 a2 = some r) :
  Calls Try.prog 85 #[.int .i64 a0, .int .i64 a1, .int .i64 a2] w fun e w' => e = .returned (.bool r) ∧ Drawn0 w w' := by
 have H : (if a0 ≥ a1 then (some (decide (a0 ≤ a2))) else (some false)) = some r := h
 clear h
 by_cases c4 : a0 ≥ a1
 ·rw [if_pos c4] at H
  have c4b0 : decide (a1 ≤ a0) = true := decide_eq_true c4
  clear c4
  obtain rfl := Option.some.inj H
  simp only [Option.some.injEq, Prod.mk.injEq] at H
  obtain ⟨rfl⟩ := H
  go_enter Try.func85, Try.ntmps85
  go_wp2
  go_ret
  exact ⟨by first | rfl | (simp; done) | (simp [*]; done), by repeat (first | exact Drawn0.refl _ | apply Drawn0.step)⟩
 ·rw [if_neg c4] at H
  have c4b0 : decide (a1 ≤ a0) = false := decide_eq_false c4
  clear c4
  obtain rfl := Option.some.inj H
  simp only [Option.some.injEq, Prod.mk.injEq] at H
  obtain ⟨rfl⟩ := H
  go_enter Try.func85, Try.ntmps85
  go_wp2
  go_ret
  exact ⟨by first | rfl | (simp; done) | (simp [*]; done), by repeat (first | exact Drawn0.refl _ | apply Drawn0.step)⟩

end Go.Proofs.Ytggocekjhohhcaa.P

-- By a program of this session.
namespace Go.Proofs.Ytggocekjhohhcaa.P
open Go.RowKit Go.Proofs.YtggocekjhohhcaaW.PrintWords Go.Proofs.YtggocekjhohhcaaW.PrintLast Go.Proofs.YtggocekjhohhcaaW.PrintMore
attribute [local go_sem] max2_int min2_int max_two min_two max_three min_three max_four min_four
set_option linter.unusedVariables false
set_option linter.unusedSimpArgs false

/-! ### impl_isPolygon: function 73 -/
def impl_isPolygon.f (a0 : Int) : Option (Bool) := (impl_within.f a0 3 12).bind fun t179 => (some t179)
set_option maxHeartbeats 8000000 in
set_option maxRecDepth 100000 in
theorem impl_isPolygon.calls (a0 : Int) (r : Bool) (w : World) (h : impl_isPolygon.f a0 = some r) :
  Calls Try.prog 73 #[.int .i64 a0] w fun e w' => e = .returned (.bool r) ∧ Drawn0 w w' := by
 have H : ((impl_within.f a0 3 12).bind fun t179 => (some t179)) = some r := h
 clear h
 replace H := Option.bind_eq_some_iff.mp H
 obtain ⟨t179, A20, H⟩ := H
 have A2 := Aside0.mk A20
 clear A20
 obtain rfl := Option.some.inj H
 simp only [Option.some.injEq, Prod.mk.injEq] at H
 obtain ⟨rfl⟩ := H
 go_enter Try.func73, Try.ntmps73
 go_wp2_with (first | ((with_reducible refine gate_callee (f := 85) rfl ?_); refine gof_ (some 4) Try.func85 #[.int .i64 a0, .int .i64 3, .int .i64 12] ?_; (with_reducible refine (impl_within.calls a0 3 12 t179 _ A2.out).mono ?_); rintro e w' ⟨rfl, ⟨nd, rfl⟩⟩; refine ⟨_, rfl, ?_⟩))
 go_ret
 exact ⟨by first | rfl | (simp; done) | (simp [*]; done), by repeat (first | exact Drawn0.refl _ | apply Drawn0.step)⟩

end Go.Proofs.Ytggocekjhohhcaa.P

-- By a program of this session.
namespace Go.Proofs.Ytggocekjhohhcaa.P
open Go.RowKit Go.Proofs.YtggocekjhohhcaaW.PrintWords Go.Proofs.YtggocekjhohhcaaW.PrintLast Go.Proofs.YtggocekjhohhcaaW.PrintMore
attribute [local go_sem] max2_int min2_int max_two min_two max_three min_three max_four min_four
set_option linter.unusedVariables false
set_option linter.unusedSimpArgs false

/-! ### impl_isDiagonal: function 74 -/
def impl_isDiagonal.f (a0 : Int) (a1_0 : Int) (a1_1 : Int) : Option (Bool) := (impl_within.f a1_0 0 (wrap64 (a0 - 1))).bind fun t181 => (if t181 = true then ((impl_within.f a1_1 0 (wrap64 (a0 - 1))).bind fun t182 => (if t182 = true then (if (wrap64 (a1_1 - a1_0)) > 1 then (if a1_0 = 0 then (some (!(a1_1 == (wrap64 (a0 - 1))))) else (some (!false))) else (some false)) else (some false))) else (some false))
set_option maxHeartbeats 8000000 in
set_option maxRecDepth 100000 in
theorem impl_isDiagonal.calls (a0 : Int) (a1_0 : Int) (a1_1 : Int) (r : Bool) (w : World) (h : impl_isDiagonal.f a0 a1_0 a1_1 = some r) :
  Calls Try.prog 74 #[.int .i64 a0, .agg #[.int .i64 a1_0, .int .i64 a1_1]] w fun e w' => e = .returned (.bool r) ∧ Below w.heap.size w w' := by
 have hu59 := Try.underlying59
 have HB := Aside0.mk (Below.refl w.heap.size w)
 have H := h
 clear h
 unfold impl_isDiagonal.f at H
 replace H := Option.bind_eq_some_iff.mp H
 obtain ⟨t181, A30, H⟩ := H
 have A3 := Aside0.mk A30
 clear A30
 by_cases c4 : t181 = true
 ·subst c4
  rw [if_pos rfl] at H
  replace H := Option.bind_eq_some_iff.mp H
  obtain ⟨t182, A50, H⟩ := H
  have A5 := Aside0.mk A50
  clear A50
  by_cases c6 : t182 = true
  ·subst c6
   rw [if_pos rfl] at H
   by_cases c7 : (wrap64 (a1_1 - a1_0)) > 1
   ·rw [if_pos c7] at H
    have c7b0 : decide (1 < (wrap64 (a1_1 - a1_0))) = true := decide_eq_true c7
    clear c7
    by_cases c8 : a1_0 = 0
    ·rw [if_pos c8] at H
     have c8b0 : (a1_0 == 0) = true := beq_iff_eq.mpr c8
     have c8b1 : (a1_0 != 0) = false := bne_eq_false_iff_eq.mpr c8
     clear c8
     obtain rfl := Option.some.inj H
     simp only [Option.some.injEq, Prod.mk.injEq] at H
     obtain ⟨rfl⟩ := H
     go_enter Try.func74, Try.ntmps74
     go_wp2_with (first | ((with_reducible refine gate_dst (N := 3) rfl ?_); refine box_ 3 #[.int .i64 a1_0, .int .i64 a1_1] 59 ?_; intro gb180 hg w9 hbox hb; have BK180 := Aside0.mk (hbox); have GW180 := ge_ HB hg; have GE180 := GW180; replace HB := hh HB hb; clear hb hbox hg; obtain ⟨z10a, z10b, y10a, y10b⟩ := c2_ BK180) | ((with_reducible refine gate_callee (f := 85) rfl ?_); refine gof_ (some 9) Try.func85 #[.int .i64 a1_0, .int .i64 0, .int .i64 (wrap64 (a0 - 1))] ?_; (with_reducible refine (impl_within.calls a1_0 0 (wrap64 (a0 - 1)) true _ A3.out).mono ?_); rintro e w' ⟨rfl, ⟨nd, rfl⟩⟩; refine ⟨_, rfl, ?_⟩) | (go_at_call 85; (with_reducible refine (impl_within.calls a1_1 0 (wrap64 (a0 - 1)) true _ A5.out).mono ?_); rintro e w' ⟨rfl, ⟨nd, rfl⟩⟩))
     go_ret
     exact ⟨eqr, hk HB⟩
    ·rw [if_neg c8] at H
     have c8b0 : (a1_0 == 0) = false := beq_eq_false_iff_ne.mpr c8
     have c8b1 : (a1_0 != 0) = true := bne_iff_ne.mpr c8
     obtain rfl := Option.some.inj H
     simp only [Option.some.injEq, Prod.mk.injEq] at H
     obtain ⟨rfl⟩ := H
     go_enter Try.func74, Try.ntmps74
     go_wp2_with (first | ((with_reducible refine gate_dst (N := 3) rfl ?_); refine box_ 3 #[.int .i64 a1_0, .int .i64 a1_1] 59 ?_; intro gb180 hg w11 hbox hb; have BK180 := Aside0.mk (hbox); have GW180 := ge_ HB hg; have GE180 := GW180; replace HB := hh HB hb; clear hb hbox hg; obtain ⟨z12a, z12b, y12a, y12b⟩ := c2_ BK180) | ((with_reducible refine gate_callee (f := 85) rfl ?_); refine gof_ (some 9) Try.func85 #[.int .i64 a1_0, .int .i64 0, .int .i64 (wrap64 (a0 - 1))] ?_; (with_reducible refine (impl_within.calls a1_0 0 (wrap64 (a0 - 1)) true _ A3.out).mono ?_); rintro e w' ⟨rfl, ⟨nd, rfl⟩⟩; refine ⟨_, rfl, ?_⟩) | (go_at_call 85; (with_reducible refine (impl_within.calls a1_1 0 (wrap64 (a0 - 1)) true _ A5.out).mono ?_); rintro e w' ⟨rfl, ⟨nd, rfl⟩⟩))
     go_ret
     exact ⟨eqr, hk HB⟩
   ·rw [if_neg c7] at H
    have c7b0 : decide (1 < (wrap64 (a1_1 - a1_0))) = false := decide_eq_false c7
    clear c7
    obtain rfl := Option.some.inj H
    simp only [Option.some.injEq, Prod.mk.injEq] at H
    obtain ⟨rfl⟩ := H
    go_enter Try.func74, Try.ntmps74
    go_wp2_with (first | ((with_reducible refine gate_dst (N := 3) rfl ?_); refine box_ 3 #[.int .i64 a1_0, .int .i64 a1_1] 59 ?_; intro gb180 hg w13 hbox hb; have BK180 := Aside0.mk (hbox); have GW180 := ge_ HB hg; have GE180 := GW180; replace HB := hh HB hb; clear hb hbox hg; obtain ⟨z14a, z14b, y14a, y14b⟩ := c2_ BK180) | ((with_reducible refine gate_callee (f := 85) rfl ?_); refine gof_ (some 9) Try.func85 #[.int .i64 a1_0, .int .i64 0, .int .i64 (wrap64 (a0 - 1))] ?_; (with_reducible refine (impl_within.calls a1_0 0 (wrap64 (a0 - 1)) true _ A3.out).mono ?_); rintro e w' ⟨rfl, ⟨nd, rfl⟩⟩; refine ⟨_, rfl, ?_⟩) | (go_at_call 85; (with_reducible refine (impl_within.calls a1_1 0 (wrap64 (a0 - 1)) true _ A5.out).mono ?_); rintro e w' ⟨rfl, ⟨nd, rfl⟩⟩))
    go_ret
    exact ⟨eqr, hk HB⟩
  ·replace c6 := Bool.eq_false_iff.mpr c6
   subst c6
   rw [if_neg (show ¬ (false = true) by decide)] at H
   obtain rfl := Option.some.inj H
   simp only [Option.some.injEq, Prod.mk.injEq] at H
   obtain ⟨rfl⟩ := H
   go_enter Try.func74, Try.ntmps74
   go_wp2_with (first | ((with_reducible refine gate_dst (N := 3) rfl ?_); refine box_ 3 #[.int .i64 a1_0, .int .i64 a1_1] 59 ?_; intro gb180 hg w15 hbox hb; have BK180 := Aside0.mk (hbox); have GW180 := ge_ HB hg; have GE180 := GW180; replace HB := hh HB hb; clear hb hbox hg; obtain ⟨z16a, z16b, y16a, y16b⟩ := c2_ BK180) | ((with_reducible refine gate_callee (f := 85) rfl ?_); refine gof_ (some 9) Try.func85 #[.int .i64 a1_0, .int .i64 0, .int .i64 (wrap64 (a0 - 1))] ?_; (with_reducible refine (impl_within.calls a1_0 0 (wrap64 (a0 - 1)) true _ A3.out).mono ?_); rintro e w' ⟨rfl, ⟨nd, rfl⟩⟩; refine ⟨_, rfl, ?_⟩) | (go_at_call 85; (with_reducible refine (impl_within.calls a1_1 0 (wrap64 (a0 - 1)) false _ A5.out).mono ?_); rintro e w' ⟨rfl, ⟨nd, rfl⟩⟩))
   go_ret
   exact ⟨eqr, hk HB⟩
 ·replace c4 := Bool.eq_false_iff.mpr c4
  subst c4
  rw [if_neg (show ¬ (false = true) by decide)] at H
  obtain rfl := Option.some.inj H
  simp only [Option.some.injEq, Prod.mk.injEq] at H
  obtain ⟨rfl⟩ := H
  go_enter Try.func74, Try.ntmps74
  go_wp2_with (first | ((with_reducible refine gate_dst (N := 3) rfl ?_); refine box_ 3 #[.int .i64 a1_0, .int .i64 a1_1] 59 ?_; intro gb180 hg w17 hbox hb; have BK180 := Aside0.mk (hbox); have GW180 := ge_ HB hg; have GE180 := GW180; replace HB := hh HB hb; clear hb hbox hg; obtain ⟨z18a, z18b, y18a, y18b⟩ := c2_ BK180) | ((with_reducible refine gate_callee (f := 85) rfl ?_); refine gof_ (some 9) Try.func85 #[.int .i64 a1_0, .int .i64 0, .int .i64 (wrap64 (a0 - 1))] ?_; (with_reducible refine (impl_within.calls a1_0 0 (wrap64 (a0 - 1)) false _ A3.out).mono ?_); rintro e w' ⟨rfl, ⟨nd, rfl⟩⟩; refine ⟨_, rfl, ?_⟩))
  go_ret
  exact ⟨eqr, hk HB⟩

end Go.Proofs.Ytggocekjhohhcaa.P

-- By a program of this session.
namespace Go.Proofs.Ytggocekjhohhcaa.P
open Go.RowKit Go.Proofs.YtggocekjhohhcaaW.PrintWords Go.Proofs.YtggocekjhohhcaaW.PrintLast Go.Proofs.YtggocekjhohhcaaW.PrintMore
attribute [local go_sem] max2_int min2_int max_two min_two max_three min_three max_four min_four
set_option linter.unusedVariables false
set_option linter.unusedSimpArgs false

/-! ### cmp_Or_int: function 97 -/
def cmp_Or_int.l0 : Nat → Int → List Int → Int → Int → Option (Int)
 | 0, _, _, _, _ => none
 | k + 1, x3, x6, x7, x8 => if x8 < x7 then (if 0 ≤ x8 then (if x8 < (x6.length : Int) then (if (rd x6 x8) = x3 then (cmp_Or_int.l0 k x3 x6 x7 (wrap64 (x8 + 1))) else (some (rd x6 x8))) else (none)) else (none)) else (some x3)
def cmp_Or_int.f (k : Nat) (l0 : List Int) : Option (Int) := cmp_Or_int.l0 k 0 l0 (l0.length : Int) 0
theorem cmp_Or_int.mono_l : ∀ k, (∀ y0 y1 y2 y3, LeO (cmp_Or_int.l0 k y0 y1 y2 y3) (cmp_Or_int.l0 (k + 1) y0 y1 y2 y3))
 | 0 => fun _ _ _ _ r h => by simp [cmp_Or_int.l0] at h
 | k + 1 => by
  have ih0 := cmp_Or_int.mono_l k
  ·intro y0 y1 y2 y3
   unfold cmp_Or_int.l0
   repeat' first
   | (with_reducible exact ih0 _ _ _ _)
   | (with_reducible exact LeO.refl _)
   | (with_reducible exact LeO.none _)
   | (with_reducible refine LeO.ite ?_ ?_)
   | (with_reducible refine LeO.bind ?_ (fun _ => ?_))
   | apply ih0
   | apply LeO.none
   | refine LeO.ite ?_ ?_
   | refine LeO.bind ?_ (fun _ => ?_)
theorem cmp_Or_int.mono : ∀ a0 k, LeO (cmp_Or_int.f k a0) (cmp_Or_int.f (k + 1) a0) := by
 intro a0 k
 have ih0 := cmp_Or_int.mono_l k
 unfold cmp_Or_int.f
 repeat' first
   | (with_reducible exact ih0 _ _ _ _)
   | (with_reducible exact LeO.refl _)
   | (with_reducible exact LeO.none _)
   | (with_reducible refine LeO.ite ?_ ?_)
   | (with_reducible refine LeO.bind ?_ (fun _ => ?_))
   | apply ih0
   | apply LeO.none
   | refine LeO.ite ?_ ?_
   | refine LeO.bind ?_ (fun _ => ?_)
set_option maxHeartbeats 8000000 in
set_option maxRecDepth 100000 in
theorem cmp_Or_int.calls (k : Nat) (A0 : Option Addr) (c0 : Nat) (l0 : List Int) (r : Int) (w : World) (hr0 : Kd.C (Kd.int .i64) w A0 l0.length l0) (hc0 : l0.length ≤ c0) (h : cmp_Or_int.f k l0 = some r) :
  Calls Try.prog 97 #[.slice A0 l0.length c0] w fun e w' => e = .returned (.int .i64 r) ∧ Drawn0 w w' := by
 have HR0 := Aside0.mk hr0
 have HC0 := Aside0.mk hc0
 clear hr0 hc0
 have H : (cmp_Or_int.l0 k 0 l0 (l0.length : Int) 0) = some r := h
 clear h
 have H' := Aside0.mk H
 clear H
 go_enter Try.func97, Try.ntmps97
 go_wp2
 go_loopg [8] k (fun kq v8 w' => ∃ (x8_1 : Int), v8 = .int .i64 x8_1 ∧ Aside0 (cmp_Or_int.l0 kq 0 l0 (l0.length : Int) x8_1 = some r) ∧ Aside0 (kq ≤ k) ∧ Drawn0 w w')
 case atStart => exact ⟨(0), (by first | rfl | (simp; done) | (simp [*]; done)), H', ⟨Nat.le_refl _⟩, by repeat (first | exact Drawn0.refl _ | apply Drawn0.step)⟩
 case round =>
  clear H'
  obtain ⟨x8_1, rfl, HA, HK1, ⟨m1, rfl⟩⟩ := hrel
  cases gk with
  | zero => exact absurd HA.out (by simp [cmp_Or_int.l0])
  | succ k1 =>
   have H := HA.out
   clear HA
   simp only [cmp_Or_int.l0] at H
   by_cases c2 : x8_1 < (l0.length : Int)
   ·rw [if_pos c2] at H
    have c2b0 : decide (x8_1 < (l0.length : Int)) = true := decide_eq_true c2
    clear c2
    by_cases c3 : 0 ≤ x8_1
    ·rw [if_pos c3] at H
     have c3b0 : decide (0 ≤ x8_1) = true := decide_eq_true c3
     clear c3
     by_cases c4 : x8_1 < (l0.length : Int)
     ·rw [if_pos c4] at H
      have c4b0 : decide (x8_1 < (l0.length : Int)) = true := decide_eq_true c4
      clear c4
      by_cases c5 : (rd l0 x8_1) = 0
      ·rw [if_pos c5] at H
       have c5b0 : ((rd l0 x8_1) == 0) = true := beq_iff_eq.mpr c5
       have c5b1 : ((rd l0 x8_1) != 0) = false := bne_eq_false_iff_eq.mpr c5
       clear c5
       have H' := Aside0.mk H
       clear H
       have p183 : 0 ≤ (x8_1 : Int) := of_decide_eq_true (by first | (with_reducible assumption) | assumption)
       have q183 : x8_1 < (l0.length : Int) := of_decide_eq_true (by first | (with_reducible assumption) | assumption)
       obtain ⟨ad183, e183, hx183_0⟩ := Kd.at_int HR0.out x8_1 p183 q183
       cases e183
       replace p183 := eq_true p183
       replace q183 := eq_true q183
       go_wp2
       go_roundg k1
       case measure => have := HK1.out; omega
       case rel => exact ⟨(wrap64 (x8_1 + 1)), (by first | rfl | (simp; done) | (simp [*]; done)), H', ⟨by have := HK1.out; omega⟩, by repeat (first | exact Drawn0.refl _ | apply Drawn0.step)⟩
      ·rw [if_neg c5] at H
       have c5b0 : ((rd l0 x8_1) == 0) = false := beq_eq_false_iff_ne.mpr c5
       have c5b1 : ((rd l0 x8_1) != 0) = true := bne_iff_ne.mpr c5
       obtain rfl := Option.some.inj H
       simp only [Option.some.injEq, Prod.mk.injEq] at H
       obtain ⟨rfl⟩ := H
       have p183 : 0 ≤ (x8_1 : Int) := of_decide_eq_true (by first | (with_reducible assumption) | assumption)
       have q183 : x8_1 < (l0.length : Int) := of_decide_eq_true (by first | (with_reducible assumption) | assumption)
       obtain ⟨ad183, e183, hx183_0⟩ := Kd.at_int HR0.out x8_1 p183 q183
       cases e183
       replace p183 := eq_true p183
       replace q183 := eq_true q183
       go_wp2
       go_ret
       exact ⟨by first | rfl | (simp; done) | (simp [*]; done), by repeat (first | exact Drawn0.refl _ | apply Drawn0.step)⟩
     ·rw [if_neg c4] at H
      exact absurd H (by simp)
    ·rw [if_neg c3] at H
     exact absurd H (by simp)
   ·rw [if_neg c2] at H
    have c2b0 : decide (x8_1 < (l0.length : Int)) = false := decide_eq_false c2
    clear c2
    obtain rfl := Option.some.inj H
    simp only [Option.some.injEq, Prod.mk.injEq] at H
    obtain ⟨rfl⟩ := H
    go_wp2
    go_ret
    exact ⟨by first | rfl | (simp; done) | (simp [*]; done), by repeat (first | exact Drawn0.refl _ | apply Drawn0.step)⟩

end Go.Proofs.Ytggocekjhohhcaa.P

-- By a program of this session.
namespace Go.Proofs.Ytggocekjhohhcaa.P
open Go.RowKit Go.Proofs.YtggocekjhohhcaaW.PrintWords Go.Proofs.YtggocekjhohhcaaW.PrintLast Go.Proofs.YtggocekjhohhcaaW.PrintMore
attribute [local go_sem] max2_int min2_int max_two min_two max_three min_three max_four min_four
set_option linter.unusedVariables false
set_option linter.unusedSimpArgs false

/-! ### cmp_isNaN_int: function 116 -/
def cmp_isNaN_int.f (a0 : Int) : Option (Bool) := some (a0 != a0)
set_option maxHeartbeats 8000000 in
set_option maxRecDepth 100000 in
theorem cmp_isNaN_int.calls (a0 : Int) (r : Bool) (w : World) (h : cmp_isNaN_int.f a0 = some r) :
  Calls Try.prog 116 #[.int .i64 a0] w fun e w' => e = .returned (.bool r) ∧ Drawn0 w w' := by
 have H : (some (a0 != a0)) = some r := h
 clear h
 obtain rfl := Option.some.inj H
 simp only [Option.some.injEq, Prod.mk.injEq] at H
 obtain ⟨rfl⟩ := H
 go_enter Try.func116, Try.ntmps116
 go_wp2
 go_ret
 exact ⟨by first | rfl | (simp; done) | (simp [*]; done), by repeat (first | exact Drawn0.refl _ | apply Drawn0.step)⟩

end Go.Proofs.Ytggocekjhohhcaa.P

-- By a program of this session.
namespace Go.Proofs.Ytggocekjhohhcaa.P
open Go.RowKit Go.Proofs.YtggocekjhohhcaaW.PrintWords Go.Proofs.YtggocekjhohhcaaW.PrintLast Go.Proofs.YtggocekjhohhcaaW.PrintMore
attribute [local go_sem] max2_int min2_int max_two min_two max_three min_three max_four min_four
set_option linter.unusedVariables false
set_option linter.unusedSimpArgs false

/-! ### cmp_Compare_int: function 98 -/
def cmp_Compare_int.f (a0 : Int) (a1 : Int) : Option (Int) := (cmp_isNaN_int.f a0).bind fun t184 => ((cmp_isNaN_int.f a1).bind fun t185 => (if t184 = true then (if t185 = true then (some 0) else (some (-1))) else (if t185 = true then (some 1) else (if a0 < a1 then (some (-1)) else (if a0 > a1 then (some 1) else (some 0))))))
set_option maxHeartbeats 8000000 in
set_option maxRecDepth 100000 in
theorem cmp_Compare_int.calls (a0 : Int) (a1 : Int) (r : Int) (w : World) (h : cmp_Compare_int.f a0 a1 = some r) :
  Calls Try.prog 98 #[.int .i64 a0, .int .i64 a1] w fun e w' => e = .returned (.int .i64 r) ∧ Drawn0 w w' := by
 have H := h
 clear h
 unfold cmp_Compare_int.f at H
 replace H := Option.bind_eq_some_iff.mp H
 obtain ⟨t184, A30, H⟩ := H
 have A3 := Aside0.mk A30
 clear A30
 replace H := Option.bind_eq_some_iff.mp H
 obtain ⟨t185, A40, H⟩ := H
 have A4 := Aside0.mk A40
 clear A40
 by_cases c5 : t184 = true
 ·subst c5
  rw [if_pos rfl] at H
  by_cases c6 : t185 = true
  ·subst c6
   rw [if_pos rfl] at H
   obtain rfl := Option.some.inj H
   simp only [Option.some.injEq, Prod.mk.injEq] at H
   obtain ⟨rfl⟩ := H
   go_enter Try.func98, Try.ntmps98
   go_wp2_with (first | ((with_reducible refine gate_callee (f := 116) rfl ?_); refine gof_ (some 8) Try.func116 #[.int .i64 a0] ?_; (with_reducible refine (cmp_isNaN_int.calls a0 true _ A3.out).mono ?_); rintro e w' ⟨rfl, ⟨nd, rfl⟩⟩; refine ⟨_, rfl, ?_⟩) | ((with_reducible refine gate_callee (f := 116) rfl ?_); refine gof_ (some 10) Try.func116 #[.int .i64 a1] ?_; (with_reducible refine (cmp_isNaN_int.calls a1 true _ A4.out).mono ?_); rintro e w' ⟨rfl, ⟨nd, rfl⟩⟩; refine ⟨_, rfl, ?_⟩))
   go_ret
   exact ⟨by first | rfl | (simp; done) | (simp [*]; done), by repeat (first | exact Drawn0.refl _ | apply Drawn0.step)⟩
  ·replace c6 := Bool.eq_false_iff.mpr c6
   subst c6
   rw [if_neg (show ¬ (false = true) by decide)] at H
   obtain rfl := Option.some.inj H
   simp only [Option.some.injEq, Prod.mk.injEq] at H
   obtain ⟨rfl⟩ := H
   go_enter Try.func98, Try.ntmps98
   go_wp2_with (first | ((with_reducible refine gate_callee (f := 116) rfl ?_); refine gof_ (some 8) Try.func116 #[.int .i64 a0] ?_; (with_reducible refine (cmp_isNaN_int.calls a0 true _ A3.out).mono ?_); rintro e w' ⟨rfl, ⟨nd, rfl⟩⟩; refine ⟨_, rfl, ?_⟩) | ((with_reducible refine gate_callee (f := 116) rfl ?_); refine gof_ (some 10) Try.func116 #[.int .i64 a1] ?_; (with_reducible refine (cmp_isNaN_int.calls a1 false _ A4.out).mono ?_); rintro e w' ⟨rfl, ⟨nd, rfl⟩⟩; refine ⟨_, rfl, ?_⟩))
   go_ret
   exact ⟨by first | rfl | (simp; done) | (simp [*]; done), by repeat (first | exact Drawn0.refl _ | apply Drawn0.step)⟩
 ·replace c5 := Bool.eq_false_iff.mpr c5
  subst c5
  rw [if_neg (show ¬ (false = true) by decide)] at H
  by_cases c7 : t185 = true
  ·subst c7
   rw [if_pos rfl] at H
   obtain rfl := Option.some.inj H
   simp only [Option.some.injEq, Prod.mk.injEq] at H
   obtain ⟨rfl⟩ := H
   go_enter Try.func98, Try.ntmps98
   go_wp2_with (first | ((with_reducible refine gate_callee (f := 116) rfl ?_); refine gof_ (some 8) Try.func116 #[.int .i64 a0] ?_; (with_reducible refine (cmp_isNaN_int.calls a0 false _ A3.out).mono ?_); rintro e w' ⟨rfl, ⟨nd, rfl⟩⟩; refine ⟨_, rfl, ?_⟩) | ((with_reducible refine gate_callee (f := 116) rfl ?_); refine gof_ (some 10) Try.func116 #[.int .i64 a1] ?_; (with_reducible refine (cmp_isNaN_int.calls a1 true _ A4.out).mono ?_); rintro e w' ⟨rfl, ⟨nd, rfl⟩⟩; refine ⟨_, rfl, ?_⟩))
   go_ret
   exact ⟨by first | rfl | (simp; done) | (simp [*]; done), by repeat (first | exact Drawn0.refl _ | apply Drawn0.step)⟩
  ·replace c7 := Bool.eq_false_iff.mpr c7
   subst c7
   rw [if_neg (show ¬ (false = true) by decide)] at H
   by_cases c8 : a0 < a1
   ·rw [if_pos c8] at H
    have c8b0 : decide (a0 < a1) = true := decide_eq_true c8
    clear c8
    obtain rfl := Option.some.inj H
    simp only [Option.some.injEq, Prod.mk.injEq] at H
    obtain ⟨rfl⟩ := H
    go_enter Try.func98, Try.ntmps98
    go_wp2_with (first | ((with_reducible refine gate_callee (f := 116) rfl ?_); refine gof_ (some 8) Try.func116 #[.int .i64 a0] ?_; (with_reducible refine (cmp_isNaN_int.calls a0 false _ A3.out).mono ?_); rintro e w' ⟨rfl, ⟨nd, rfl⟩⟩; refine ⟨_, rfl, ?_⟩) | ((with_reducible refine gate_callee (f := 116) rfl ?_); refine gof_ (some 10) Try.func116 #[.int .i64 a1] ?_; (with_reducible refine (cmp_isNaN_int.calls a1 false _ A4.out).mono ?_); rintro e w' ⟨rfl, ⟨nd, rfl⟩⟩; refine ⟨_, rfl, ?_⟩))
    go_ret
    exact ⟨by first | rfl | (simp; done) | (simp [*]; done), by repeat (first | exact Drawn0.refl _ | apply Drawn0.step)⟩
   ·rw [if_neg c8] at H
    have c8b0 : decide (a0 < a1) = false := decide_eq_false c8
    clear c8
    by_cases c9 : a0 > a1
    ·rw [if_pos c9] at H
     have c9b0 : decide (a1 < a0) = true := decide_eq_true c9
     clear c9
     obtain rfl := Option.some.inj H
     simp only [Option.some.injEq, Prod.mk.injEq] at H
     obtain ⟨rfl⟩ := H
     go_enter Try.func98, Try.ntmps98
     go_wp2_with (first | ((with_reducible refine gate_callee (f := 116) rfl ?_); refine gof_ (some 8) Try.func116 #[.int .i64 a0] ?_; (with_reducible refine (cmp_isNaN_int.calls a0 false _ A3.out).mono ?_); rintro e w' ⟨rfl, ⟨nd, rfl⟩⟩; refine ⟨_, rfl, ?_⟩) | ((with_reducible refine gate_callee (f := 116) rfl ?_); refine gof_ (some 10) Try.func116 #[.int .i64 a1] ?_; (with_reducible refine (cmp_isNaN_int.calls a1 false _ A4.out).mono ?_); rintro e w' ⟨rfl, ⟨nd, rfl⟩⟩; refine ⟨_, rfl, ?_⟩))
     go_ret
     exact ⟨by first | rfl | (simp; done) | (simp [*]; done), by repeat (first | exact Drawn0.refl _ | apply Drawn0.step)⟩
    ·rw [if_neg c9] at H
     have c9b0 : decide (a1 < a0) = false := decide_eq_false c9
     clear c9
     obtain rfl := Option.some.inj H
     simp only [Option.some.injEq, Prod.mk.injEq] at H
     obtain ⟨rfl⟩ := H
     go_enter Try.func98, Try.ntmps98
     go_wp2_with (first | ((with_reducible refine gate_callee (f := 116) rfl ?_); refine gof_ (some 8) Try.func116 #[.int .i64 a0] ?_; (with_reducible refine (cmp_isNaN_int.calls a0 false _ A3.out).mono ?_); rintro e w' ⟨rfl, ⟨nd, rfl⟩⟩; refine ⟨_, rfl, ?_⟩) | ((with_reducible refine gate_callee (f := 116) rfl ?_); refine gof_ (some 10) Try.func116 #[.int .i64 a1] ?_; (with_reducible refine (cmp_isNaN_int.calls a1 false _ A4.out).mono ?_); rintro e w' ⟨rfl, ⟨nd, rfl⟩⟩; refine ⟨_, rfl, ?_⟩))
     go_ret
     exact ⟨by first | rfl | (simp; done) | (simp [*]; done), by repeat (first | exact Drawn0.refl _ | apply Drawn0.step)⟩

end Go.Proofs.Ytggocekjhohhcaa.P

-- By a program of this session.
namespace Go.Proofs.Ytggocekjhohhcaa.P
open Go.RowKit Go.Proofs.YtggocekjhohhcaaW.PrintWords Go.Proofs.YtggocekjhohhcaaW.PrintLast Go.Proofs.YtggocekjhohhcaaW.PrintMore
attribute [local go_sem] max2_int min2_int max_two min_two max_three min_three max_four min_four
set_option linter.unusedVariables false
set_option linter.unusedSimpArgs false

/-! ### impl_compareDiagonals: function 75 -/
def impl_compareDiagonals.f (k : Nat) (a0_0 : Int) (a0_1 : Int) (a1_0 : Int) (a1_1 : Int) : Option (Int) := (cmp_Compare_int.f a0_0 a1_0).bind fun t188 => ((cmp_Compare_int.f a0_1 a1_1).bind fun t189 => ((cmp_Or_int.f k (([t188, t189] : List Int))).bind fun t193 => (some t193)))
theorem impl_compareDiagonals.mono : ∀ a0 a1 a2 a3 k, LeO (impl_compareDiagonals.f k a0 a1 a2 a3) (impl_compareDiagonals.f (k + 1) a0 a1 a2 a3) := by
 intro a0 a1 a2 a3 k
 unfold impl_compareDiagonals.f
 repeat' first
   | (with_reducible exact cmp_Or_int.mono _ _)
   | (with_reducible exact LeO.refl _)
   | (with_reducible exact LeO.none _)
   | (with_reducible refine LeO.ite ?_ ?_)
   | (with_reducible refine LeO.bind ?_ (fun _ => ?_))
   | apply cmp_Or_int.mono
   | apply LeO.none
   | refine LeO.ite ?_ ?_
   | refine LeO.bind ?_ (fun _ => ?_)
def impl_compareDiagonals.T1 : Bool × List (List Nat × List Nat) := (true, [([], []), ([0], [0]), ([], []), ([2], [2]), ([1, 3], [1, 3]), ([], []), ([5], [5]), ([], []), ([7], [7]), ([6, 8, 4], [6, 8]), ([4, 9], [4, 9]), ([10, 9], [10]), ([11, 11, 0, 1, 2, 3, 4, 5, 6, 7, 8, 9, 10, 11], [11])])
def impl_compareDiagonals.B1 : List Nat := [0, 1, 0, 4, 15, 0, 32, 0, 128, 511, 1023, 2047, 4095]
theorem impl_compareDiagonals.tab1 : rtab .any (opsOf Try.f75 1) = impl_compareDiagonals.T1 := by kernel_rfl
theorem impl_compareDiagonals.bits1 : waitsOk impl_compareDiagonals.T1.2 impl_compareDiagonals.B1 = true := by kernel_rfl
set_option maxHeartbeats 8000000 in
set_option maxRecDepth 100000 in
theorem impl_compareDiagonals.calls (k : Nat) (a0_0 : Int) (a0_1 : Int) (a1_0 : Int) (a1_1 : Int) (r : Int) (w : World) (h : impl_compareDiagonals.f k a0_0 a0_1 a1_0 a1_1 = some r) :
  Calls Try.prog 75 #[.agg #[.int .i64 a0_0, .int .i64 a0_1], .agg #[.int .i64 a1_0, .int .i64 a1_1]] w fun e w' => e = .returned (.int .i64 r) ∧ Below w.heap.size w w' := by
 have hu59 := Try.underlying59
 have HB := Aside0.mk (Below.refl w.heap.size w)
 have H : ((cmp_Compare_int.f a0_0 a1_0).bind fun t188 => ((cmp_Compare_int.f a0_1 a1_1).bind fun t189 => ((cmp_Or_int.f k (([t188, t189] : List Int))).bind fun t193 => (some t193)))) = some r := h
 clear h
 replace H := Option.bind_eq_some_iff.mp H
 obtain ⟨t188, A30, H⟩ := H
 have A3 := Aside0.mk A30
 clear A30
 replace H := Option.bind_eq_some_iff.mp H
 obtain ⟨t189, A40, H⟩ := H
 have A4 := Aside0.mk A40
 clear A40
 obtain ⟨y190, hy190⟩ : ∃ y_ : List Int, y_ = (([t188, t189] : List Int)) := ⟨_, rfl⟩
 replace H : ((cmp_Or_int.f k y190).bind fun t193 => (some t193)) = some r := by first | (rw [hy190]; with_reducible exact H) | (have H2_ := (Option.bind_some _ _).symm.trans H; rw [hy190]; with_reducible exact H2_) | (have H2_ := (Option.bind_some _ _).symm.trans H; with_reducible exact H2_) | with_reducible exact H | (rw [hy190]; exact H) | exact H
 have Ny190 := Aside0.mk hy190
 clear hy190
 replace H := Option.bind_eq_some_iff.mp H
 obtain ⟨t193, A50, H⟩ := H
 have A5 := Aside0.mk A50
 clear A50
 obtain rfl := Option.some.inj H
 simp only [Option.some.injEq, Prod.mk.injEq] at H
 obtain ⟨rfl⟩ := H
 go_enter Try.func75, Try.ntmps75
 try go_wp2_with (first | ((with_reducible refine gate_dst (N := 2) rfl ?_); refine box_ 2 #[.int .i64 a0_0, .int .i64 a0_1] 59 ?_; intro gb186 hg w6 hbox hb; have BK186 := Aside0.mk (hbox); have GW186 := ge_ HB hg; have GE186 := GW186; replace HB := hh HB hb; clear hb hbox hg) | ((with_reducible refine gate_dst (N := 3) rfl ?_); refine box_ 3 #[.int .i64 a1_0, .int .i64 a1_1] 59 ?_; intro gb187 hg w7 hbox hb; have BK187 := Aside0.mk (hbox); have GW187 := ge_ HB hg; have GE187 := GW187; obtain ⟨NB186_187, NB187_186⟩ := nb BK186 hg; replace BK186 := bb BK186 hb; replace HB := hh HB hb; clear hb hbox hg))
 replace BK186 := Aside0.mk (blk_drew BK186.out)
 replace BK187 := Aside0.mk (blk_drew BK187.out)
 replace HB := Aside0.mk (below_drew1 HB.out)
 refine start_ (n := 13) (S := fun w' => w'.cell? ⟨gb186, 0, none⟩ = some (.int .i64 a0_0) ∧ w'.cell? ⟨gb186, 1, none⟩ = some (.int .i64 a0_1) ∧ w'.cell? ⟨gb187, 0, none⟩ = some (.int .i64 a1_0) ∧ w'.cell? ⟨gb187, 1, none⟩ = some (.int .i64 a1_1)) (ds := []) (bT 0 13) (by kernel_rfl) rfl rfl ⟨(blk_cell BK186.out 0).trans rfl, (blk_cell BK186.out 1).trans rfl, (blk_cell BK187.out 0).trans rfl, (blk_cell BK187.out 1).trans rfl⟩ (fun hHeld => ?_); refine with_tabW impl_compareDiagonals.tab1 impl_compareDiagonals.bits1 (fun HT_ HW_ => ?_)
 generalize w7.drew = w8 at BK186 BK187 HB hHeld ⊢
 refine pu_ HT_ 0 (some 5) (bT 1 13) ?_
 refine pure_ (i := 2) (N := some 7) (v := ?_) (a' := ?_) #[true, false, true, false, false, false, false, false, false, false, false, false, false] rfl rfl (any_of HT_.out (by kernel_rfl)) (fun _ _ _ h => h) (Or.inl ⟨by rfl, ?_⟩) ?_ ?_; rotate_left; (· intro w'; go_simp; with_reducible rfl); rotate_left; (· simp only [Act.put, List.setIfInBounds_toArray, List.set_cons_zero, List.set_cons_succ, i64_w, i32_w]; rfl)
 refine pure_ (i := 5) (N := some 10) (v := ?_) (a' := ?_) #[true, false, true, false, false, true, false, false, false, false, false, false, false] rfl rfl (any_of HT_.out (by kernel_rfl)) (fun _ _ _ h => h) (Or.inl ⟨by rfl, ?_⟩) ?_ ?_; rotate_left; (· intro w'; go_simp; with_reducible rfl); rotate_left; (· simp only [Act.put, List.setIfInBounds_toArray, List.set_cons_zero, List.set_cons_succ, i64_w, i32_w]; rfl)
 refine pure_ (i := 7) (N := some 12) (v := ?_) (a' := ?_) #[true, false, true, false, false, true, false, true, false, false, false, false, false] rfl rfl (any_of HT_.out (by kernel_rfl)) (fun _ _ _ h => h) (Or.inl ⟨by rfl, ?_⟩) ?_ ?_; rotate_left; (· intro w'; go_simp; with_reducible rfl); rotate_left; (· simp only [Act.put, List.setIfInBounds_toArray, List.set_cons_zero, List.set_cons_succ, i64_w, i32_w]; rfl)
 refine take_ (i := 1) (N := some 6) (v := ?_) (a' := ?_) #[true, true, true, false, false, true, false, true, false, false, false, false, false] rfl rfl (take_ofW HT_.out HW_.out (by kernel_rfl)) (fun _ _ _ h => h) (Or.inl ⟨by rfl, ?_⟩) hHeld ?_ ?_
 rotate_left
 ·rintro w' ⟨s0, s1, s2, s3⟩
  go_simp
  with_reducible rfl
 rotate_left
 ·simp only [Act.put, List.setIfInBounds_toArray, List.set_cons_zero, List.set_cons_succ, i64_w, i32_w]
  rfl
 refine take_ (i := 3) (N := some 8) (v := ?_) (a' := ?_) #[true, true, true, true, false, true, false, true, false, false, false, false, false] rfl rfl (take_ofW HT_.out HW_.out (by kernel_rfl)) (fun _ _ _ h => h) (Or.inl ⟨by rfl, ?_⟩) hHeld ?_ ?_
 rotate_left
 ·rintro w' ⟨s0, s1, s2, s3⟩
  go_simp
  with_reducible rfl
 rotate_left
 ·simp only [Act.put, List.setIfInBounds_toArray, List.set_cons_zero, List.set_cons_succ, i64_w, i32_w]
  rfl
 refine take_ (i := 6) (N := some 11) (v := ?_) (a' := ?_) #[true, true, true, true, false, true, true, true, false, false, false, false, false] rfl rfl (take_ofW HT_.out HW_.out (by kernel_rfl)) (fun _ _ _ h => h) (Or.inl ⟨by rfl, ?_⟩) hHeld ?_ ?_
 rotate_left
 ·rintro w' ⟨s0, s1, s2, s3⟩
  go_simp
  with_reducible rfl
 rotate_left
 ·simp only [Act.put, List.setIfInBounds_toArray, List.set_cons_zero, List.set_cons_succ, i64_w, i32_w]
  rfl
 refine take_ (i := 8) (N := some 13) (v := ?_) (a' := ?_) #[true, true, true, true, false, true, true, true, true, false, false, false, false] rfl rfl (take_ofW HT_.out HW_.out (by kernel_rfl)) (fun _ _ _ h => h) (Or.inl ⟨by rfl, ?_⟩) hHeld ?_ ?_
 rotate_left
 ·rintro w' ⟨s0, s1, s2, s3⟩
  go_simp
  with_reducible rfl
 rotate_left
 ·simp only [Act.put, List.setIfInBounds_toArray, List.set_cons_zero, List.set_cons_succ, i64_w, i32_w]
  rfl
 refine one_ (i := 4) (N := some 9) (bT 9 13) rfl rfl (one_of HT_.out (by kernel_rfl)) (by decide) (fun K hK => ?_)
 refine goes_ Try.func98 (by kernel_rfl) rfl #[.int .i64 a0_0, .int .i64 a1_0] (by rfl) rfl rfl (by (try simp only [List.map_toArray, List.map_cons, List.map_nil]); first | done | rfl | (simp only [List.length_drop, List.length_take]; rfl)) ?_
 with_reducible refine (cmp_Compare_int.calls a0_0 a1_0 t188 _ A3.out).mono ?_
 rintro e w' ⟨rfl, ⟨nd, rfl⟩⟩
 refine ⟨_, rfl, ?_⟩
 refine hK.out _ _ ⟨(blk_cell BK186.out 0).trans rfl, (blk_cell BK186.out 1).trans rfl, (blk_cell BK187.out 0).trans rfl, (blk_cell BK187.out 1).trans rfl⟩ (fun hHeld => ?_)
 clear hK K
 refine norm_ (a' := ?_) ?_ ?_
 rotate_left
 ·show Act.put _ (some 9) _ = _
  simp only [Act.put, List.setIfInBounds_toArray, List.set_cons_zero, List.set_cons_succ, i64_w, i32_w]
  rfl
 refine one_ (i := 9) (N := some 14) (bT 10 13) rfl rfl (one_of HT_.out (by kernel_rfl)) (by decide) (fun K hK => ?_)
 refine goes_ Try.func98 (by kernel_rfl) rfl #[.int .i64 a0_1, .int .i64 a1_1] (by rfl) rfl rfl (by (try simp only [List.map_toArray, List.map_cons, List.map_nil]); first | done | rfl | (simp only [List.length_drop, List.length_take]; rfl)) ?_
 with_reducible refine (cmp_Compare_int.calls a0_1 a1_1 t189 _ A4.out).mono ?_
 rintro e w' ⟨rfl, ⟨nd, rfl⟩⟩
 refine ⟨_, rfl, ?_⟩
 refine hK.out _ _ ⟨(blk_cell BK186.out 0).trans rfl, (blk_cell BK186.out 1).trans rfl, (blk_cell BK187.out 0).trans rfl, (blk_cell BK187.out 1).trans rfl⟩ (fun hHeld => ?_)
 clear hK K
 refine norm_ (a' := ?_) ?_ ?_
 rotate_left
 ·show Act.put _ (some 14) _ = _
  simp only [Act.put, List.setIfInBounds_toArray, List.set_cons_zero, List.set_cons_succ, i64_w, i32_w]
  rfl
 refine one_ (i := 10) (N := some 15) (bT 11 13) rfl rfl (one_of HT_.out (by kernel_rfl)) (by decide) (fun K hK => ?_)
 refine Kd.R_lit_step (Kd.int .i64) _ 3 ?hg (N := 15) ?hd (xs := ([t188, t189] : List Int)) (inner := [.int .i64 t188, .int .i64 t189]) (ok := fun _ => True) (okp := fun _ => True) ?hr ?hp (fun _ hk => hk) trivial (Below.refl _ _) (Nat.le_refl _) (by simp) ?_; (case hd => rfl); (case hg => rfl); (case hr => first | (go_simp; done) | (go_simp; rfl)); (case hp => exact (Reps.one (show Kd.M (Kd.int .i64) _ _ _ t188 [.int .i64 t188] from rfl) (Reps.one (show Kd.M (Kd.int .i64) _ _ _ t189 [.int .i64 t189] from rfl) (Reps.none _ _))))
 intro v191 w9 ho10 hb hg_ hnew_
 clear hg_ hnew_
 (first | rw [← Ny190.out] at ho10 | (simp only [Int.reduceToNat] at ho10; rw [← Ny190.out] at ho10))
 have HO192 := Aside0.mk (Kd.R_lower ho10 (below_size (hk HB)))
 replace BK186 := bb BK186 hb
 replace BK187 := bb BK187 hb
 replace HB := hh HB hb
 clear hb ho10
 obtain ⟨Ao11, co11, eo11⟩ := Kd.R_slice HO192.out
 (first | subst eo11 | (injection eo11 with f1_ f2_ f3_; have f4_ := f1_.symm; have f5_ := f3_.symm; clear f1_ f2_ f3_; subst f4_; subst f5_))
 refine hK.out _ _ ⟨(blk_cell BK186.out 0).trans rfl, (blk_cell BK186.out 1).trans rfl, (blk_cell BK187.out 0).trans rfl, (blk_cell BK187.out 1).trans rfl⟩ (fun hHeld => ?_)
 clear hK K
 refine norm_ (a' := ?_) ?_ ?_
 rotate_left
 ·show Act.put _ (some 15) _ = _
  simp only [Act.put, List.setIfInBounds_toArray, List.set_cons_zero, List.set_cons_succ, i64_w, i32_w]
  rfl
 refine one_ (i := 11) (N := some 16) (bT 12 13) rfl rfl (one_of HT_.out (by kernel_rfl)) (by decide) (fun K hK => ?_)
 refine goes_ Try.func97 (by kernel_rfl) rfl #[.slice Ao11 y190.length co11] (by rfl) rfl rfl (by (try simp only [List.map_toArray, List.map_cons, List.map_nil]); first | done | rfl | (simp only [List.length_drop, List.length_take]; rfl)) ?_
 with_reducible refine (cmp_Or_int.calls k _ _ y190 t193 _ ?side1 ?side2 A5.out).mono ?_
 (case side1 => repeat (first | exact (Kd.R_reads' HO192.out).2.2 | (with_reducible refine Kd.C_alloc ?_ _) | (with_reducible refine Kd.C_drewN ?_ _) | (with_reducible refine Kd.C_drew ?_)))
 (case side2 => exact (Kd.R_reads' HO192.out).2.1)
 rintro e w' ⟨rfl, ⟨nd, rfl⟩⟩
 refine ⟨_, rfl, ?_⟩
 refine hK.out _ _ ⟨(blk_cell BK186.out 0).trans rfl, (blk_cell BK186.out 1).trans rfl, (blk_cell BK187.out 0).trans rfl, (blk_cell BK187.out 1).trans rfl⟩ (fun hHeld => ?_)
 clear hK K
 refine norm_ (a' := ?_) ?_ ?_
 rotate_left
 ·show Act.put _ (some 16) _ = _
  simp only [Act.put, List.setIfInBounds_toArray, List.set_cons_zero, List.set_cons_succ, i64_w, i32_w]
  rfl
 refine pu_ HT_ 12 (some 4) (bT 13 13) ?_
 refine done_ (done_of HT_.out (by kernel_rfl)) ?_
 try go_wp2
 go_ret
 exact ⟨eqr, hk HB⟩

end Go.Proofs.Ytggocekjhohhcaa.P

-- By a program of this session.
namespace Go.Proofs.Ytggocekjhohhcaa.P
open Go.RowKit Go.Proofs.YtggocekjhohhcaaW.PrintWords Go.Proofs.YtggocekjhohhcaaW.PrintLast Go.Proofs.YtggocekjhohhcaaW.PrintMore
attribute [local go_sem] max2_int min2_int max_two min_two max_three min_three max_four min_four
set_option linter.unusedVariables false
set_option linter.unusedSimpArgs false

/-! ### impl_IsCut: function 42 -/
mutual
def impl_IsCut.j0 : Nat → Int → List (S59) → Bool → Option (Bool)
 | 0, _, _, _ => none
 | k + 1, x0, x1, x16 => if x16 = true then (some false) else (impl_IsCut.l0 k x0 x1 x1 (x1.length : Int) 0)
def impl_IsCut.l0 : Nat → Int → List (S59) → List (S59) → Int → Int → Option (Bool)
 | 0, _, _, _, _, _ => none
 | k + 1, x0, x1, x17, x18, x19 => if x19 < x18 then (if 0 ≤ x19 then (if x19 < (x17.length : Int) then ((impl_isDiagonal.f x0 ((rd_T59 x17 x19).f0) ((rd_T59 x17 x19).f1)).bind fun t197 => (if t197 = true then (if x19 > 0 then (if 0 ≤ (wrap64 (x19 - 1)) then (if (wrap64 (x19 - 1)) < (x1.length : Int) then ((impl_compareDiagonals.f k ((rd_T59 x1 (wrap64 (x19 - 1))).f0) ((rd_T59 x1 (wrap64 (x19 - 1))).f1) ((rd_T59 x17 x19).f0) ((rd_T59 x17 x19).f1)).bind fun t199 => (if t199 ≥ 0 then (some false) else (if x19 ≤ (x1.length : Int) then ((impl_crosses.f (x1.take (x19 : Int).toNat) ((rd_T59 x17 x19).f0) ((rd_T59 x17 x19).f1)).bind fun t204 => (if t204 = true then (some false) else (impl_IsCut.l0 k x0 x1 x17 x18 (wrap64 (x19 + 1))))) else (none)))) else (none)) else (none)) else (if x19 ≤ (x1.length : Int) then ((impl_crosses.f (x1.take (x19 : Int).toNat) ((rd_T59 x17 x19).f0) ((rd_T59 x17 x19).f1)).bind fun t209 => (if t209 = true then (some false) else (impl_IsCut.l0 k x0 x1 x17 x18 (wrap64 (x19 + 1))))) else (none))) else (some false))) else (none)) else (none)) else (some true)
end
def impl_IsCut.f (k : Nat) (a0 : Int) (l1 : List (S59)) : Option (Bool) := (impl_isPolygon.f a0).bind fun t194 => (if t194 = true then (impl_IsCut.j0 k a0 l1 (decide ((l1.length : Int) > (wrap64 (a0 - 3))))) else (impl_IsCut.j0 k a0 l1 true))
theorem impl_IsCut.mono_l : ∀ k, (∀ y0 y1 y2, LeO (impl_IsCut.j0 k y0 y1 y2) (impl_IsCut.j0 (k + 1) y0 y1 y2)) ∧ (∀ y0 y1 y2 y3 y4, LeO (impl_IsCut.l0 k y0 y1 y2 y3 y4) (impl_IsCut.l0 (k + 1) y0 y1 y2 y3 y4))
 | 0 => ⟨fun _ _ _ r h => by simp [impl_IsCut.j0] at h, fun _ _ _ _ _ r h => by simp [impl_IsCut.l0] at h⟩
 | k + 1 => by
  obtain ⟨ih0, ih1⟩ := impl_IsCut.mono_l k
  refine ⟨?_, ?_⟩
  ·intro y0 y1 y2
   unfold impl_IsCut.j0
   repeat' first
   | (with_reducible exact ih0 _ _ _)
   | (with_reducible exact ih1 _ _ _ _ _)
   | (with_reducible exact impl_compareDiagonals.mono _ _ _ _ _)
   | (with_reducible exact LeO.refl _)
   | (with_reducible exact LeO.none _)
   | (with_reducible refine LeO.ite ?_ ?_)
   | (with_reducible refine LeO.bind ?_ (fun _ => ?_))
   | apply ih0
   | apply ih1
   | apply impl_compareDiagonals.mono
   | apply LeO.none
   | refine LeO.ite ?_ ?_
   | refine LeO.bind ?_ (fun _ => ?_)
  ·intro y0 y1 y2 y3 y4
   unfold impl_IsCut.l0
   repeat' first
   | (with_reducible exact ih0 _ _ _)
   | (with_reducible exact ih1 _ _ _ _ _)
   | (with_reducible exact impl_compareDiagonals.mono _ _ _ _ _)
   | (with_reducible exact LeO.refl _)
   | (with_reducible exact LeO.none _)
   | (with_reducible refine LeO.ite ?_ ?_)
   | (with_reducible refine LeO.bind ?_ (fun _ => ?_))
   | apply ih0
   | apply ih1
   | apply impl_compareDiagonals.mono
   | apply LeO.none
   | refine LeO.ite ?_ ?_
   | refine LeO.bind ?_ (fun _ => ?_)
theorem impl_IsCut.mono : ∀ a0 a1 k, LeO (impl_IsCut.f k a0 a1) (impl_IsCut.f (k + 1) a0 a1) := by
 intro a0 a1 k
 obtain ⟨ih0, ih1⟩ := impl_IsCut.mono_l k
 unfold impl_IsCut.f
 repeat' first
   | (with_reducible exact ih0 _ _ _)
   | (with_reducible exact ih1 _ _ _ _ _)
   | (with_reducible exact impl_compareDiagonals.mono _ _ _ _ _)
   | (with_reducible exact LeO.refl _)
   | (with_reducible exact LeO.none _)
   | (with_reducible refine LeO.ite ?_ ?_)
   | (with_reducible refine LeO.bind ?_ (fun _ => ?_))
   | apply ih0
   | apply ih1
   | apply impl_compareDiagonals.mono
   | apply LeO.none
   | refine LeO.ite ?_ ?_
   | refine LeO.bind ?_ (fun _ => ?_)
def impl_IsCut.T6 : Bool × List (List Nat × List Nat) := (true, [([], []), ([], []), ([0, 1], [0, 1]), ([2], [2]), ([3, 2], [3]), ([4], [4]), ([5, 4], [4, 5]), ([6, 4, 4], [4, 6]), ([7], [7]), ([7], [7]), ([9, 7], [7, 9]), ([8, 10, 7], [7, 8, 10]), ([11, 7], [7, 11]), ([7], [7]), ([12, 13, 7, 7], [7, 12, 13]), ([14, 7], [7, 14]), ([7, 15, 4], [4, 7, 15]), ([4, 16], [4, 16]), ([17, 14], [17]), ([18], [18]), ([18], [18]), ([19, 20, 18], [18, 19, 20]), ([18], [18]), ([21, 22, 18, 18], [18, 21, 22]), ([18, 23], [18, 23])])
def impl_IsCut.B6 : List Nat := [0, 0, 3, 7, 15, 31, 63, 127, 255, 255, 767, 2047, 4095, 255, 16383, 32767, 65535, 131071, 262143, 524287, 524287, 2097151, 524287, 8388607, 16777215]
theorem impl_IsCut.tab6 : rtab .any (opsOf Try.f42 6) = impl_IsCut.T6 := by kernel_rfl
theorem impl_IsCut.bits6 : waitsOk impl_IsCut.T6.2 impl_IsCut.B6 = true := by kernel_rfl
set_option maxHeartbeats 8000000 in
set_option maxRecDepth 100000 in
theorem impl_IsCut.calls (k : Nat) (a0 : Int) (A1 : Option Addr) (c1 : Nat) (l1 : List (S59)) (r : Bool) (w : World) (hr1 : Kd.C k59 w A1 l1.length l1) (hc1 : l1.length ≤ c1) (h : impl_IsCut.f k a0 l1 = some r) :
  Calls Try.prog 42 #[.int .i64 a0, .slice A1 l1.length c1] w fun e w' => e = .returned (.bool r) ∧ Below w.heap.size w w' := by
 have hu59 := Try.underlying59
 have HR1 := Aside0.mk hr1
 have HC1 := Aside0.mk hc1
 clear hr1 hc1
 have HB := Aside0.mk (Below.refl w.heap.size w)
 have H : ((impl_isPolygon.f a0).bind fun t194 => (if t194 = true then (impl_IsCut.j0 k a0 l1 (decide ((l1.length : Int) > (wrap64 (a0 - 3))))) else (impl_IsCut.j0 k a0 l1 true))) = some r := h
 clear h
 have HC3 := Aside0.mk H
 clear H
 go_enter Try.func42, Try.ntmps42
 go_upto_region 1 with (fail)
 go_cut [16] (fun v16 wc => ∃ (kq : Nat) (x16_2 : Bool), v16 = .bool x16_2 ∧ Aside0 (impl_IsCut.j0 kq a0 l1 x16_2 = some r) ∧ Aside0 (kq ≤ k) ∧ Aside0 (Below w.heap.size w wc))
 case first =>
  have H := HC3.out
  clear HC3
  replace H := Option.bind_eq_some_iff.mp H
  obtain ⟨t194, A40, H⟩ := H
  have A4 := Aside0.mk A40
  clear A40
  by_cases c5 : t194 = true
  ·subst c5
   rw [if_pos rfl] at H
   have H' := Aside0.mk H
   clear H
   go_wp2_with (first | ((with_reducible refine gate_callee (f := 73) rfl ?_); refine gof_ (some 8) Try.func73 #[.int .i64 a0] ?_; (with_reducible refine (impl_isPolygon.calls a0 true _ A4.out).mono ?_); rintro e w' ⟨rfl, ⟨nd, rfl⟩⟩; refine ⟨_, rfl, ?_⟩))
   go_meet
   case rel => exact ⟨_, (decide ((l1.length : Int) > (wrap64 (a0 - 3)))), (by first | rfl | (simp; done) | (simp [*]; done)), H', ⟨by first | omega | exact Nat.le_refl _⟩, ⟨by repeat (first | (with_reducible first | exact HB.out | apply below_alloc | apply pw_below_drewN | apply below_drew1) | exact HB.out)⟩⟩
  ·replace c5 := Bool.eq_false_iff.mpr c5
   subst c5
   rw [if_neg (show ¬ (false = true) by decide)] at H
   have H' := Aside0.mk H
   clear H
   go_wp2_with (first | ((with_reducible refine gate_callee (f := 73) rfl ?_); refine gof_ (some 8) Try.func73 #[.int .i64 a0] ?_; (with_reducible refine (impl_isPolygon.calls a0 false _ A4.out).mono ?_); rintro e w' ⟨rfl, ⟨nd, rfl⟩⟩; refine ⟨_, rfl, ?_⟩))
   go_meet
   case rel => exact ⟨_, (true), (by first | rfl | (simp; done) | (simp [*]; done)), H', ⟨by first | omega | exact Nat.le_refl _⟩, ⟨by repeat (first | (with_reducible first | exact HB.out | apply below_alloc | apply pw_below_drewN | apply below_drew1) | exact HB.out)⟩⟩
 case rest =>
  clear HC3
  try clear c5
  obtain ⟨kq, x16_2, rfl, HA, HJ2, HB⟩ := hcut
  cases kq with
  | zero => exact absurd HA.out (by simp [impl_IsCut.j0])
  | succ kj2 =>
   have H := HA.out
   clear HA
   simp only [impl_IsCut.j0] at H
   by_cases c6 : x16_2 = true
   ·subst c6
    rw [if_pos rfl] at H
    obtain rfl := Option.some.inj H
    simp only [Option.some.injEq, Prod.mk.injEq] at H
    obtain ⟨rfl⟩ := H
    go_wp2
    go_ret
    exact ⟨eqr, hk HB⟩
   ·replace c6 := Bool.eq_false_iff.mpr c6
    subst c6
    rw [if_neg (show ¬ (false = true) by decide)] at H
    have H' := Aside0.mk H
    clear H
    go_wp2
    go_loopg [19] kj2 (fun kq v19 w' => ∃ (x19_2 : Int), v19 = .int .i64 x19_2 ∧ Aside0 (impl_IsCut.l0 kq a0 l1 l1 (l1.length : Int) x19_2 = some r) ∧ Aside0 (kq ≤ kj2) ∧ Aside0 (Below w.heap.size w w'))
    case atStart => exact ⟨(0), (by first | rfl | (simp; done) | (simp [*]; done)), H', ⟨Nat.le_refl _⟩, ⟨by repeat (first | (with_reducible first | exact HB.out | apply below_alloc | apply pw_below_drewN | apply below_drew1) | exact HB.out)⟩⟩
    case round =>
     clear H'
     (try clear c5);(try clear c6)
     obtain ⟨x19_2, rfl, HA, HK2, HB⟩ := hrel
     cases gk with
     | zero => exact absurd HA.out (by simp [impl_IsCut.l0])
     | succ k2 =>
      have H := HA.out
      clear HA
      simp only [impl_IsCut.l0] at H
      by_cases c7 : x19_2 < (l1.length : Int)
      ·rw [if_pos c7] at H
       have c7b0 : decide (x19_2 < (l1.length : Int)) = true := decide_eq_true c7
       clear c7
       by_cases c8 : 0 ≤ x19_2
       ·rw [if_pos c8] at H
        have c8b0 : decide (0 ≤ x19_2) = true := decide_eq_true c8
        clear c8
        by_cases c9 : x19_2 < (l1.length : Int)
        ·rw [if_pos c9] at H
         have c9b0 : decide (x19_2 < (l1.length : Int)) = true := decide_eq_true c9
         clear c9
         replace H := Option.bind_eq_some_iff.mp H
         obtain ⟨t197, A100, H⟩ := H
         have A10 := Aside0.mk A100
         clear A100
         by_cases c11 : t197 = true
         ·subst c11
          rw [if_pos rfl] at H
          by_cases c12 : x19_2 > 0
          ·rw [if_pos c12] at H
           have c12b0 : decide (0 < x19_2) = true := decide_eq_true c12
           clear c12
           obtain ⟨ji13, hji13⟩ : ∃ j_ : Int, (wrap64 (x19_2 - 1)) = j_ := ⟨_, rfl⟩
           replace H : (if 0 ≤ (ji13) then (if (ji13) < (l1.length : Int) then ((impl_compareDiagonals.f k2 ((rd_T59 l1 (ji13)).f0) ((rd_T59 l1 (ji13)).f1) ((rd_T59 l1 x19_2).f0) ((rd_T59 l1 x19_2).f1)).bind fun t199 => (if t199 ≥ 0 then (some false) else (if x19_2 ≤ (l1.length : Int) then ((impl_crosses.f (l1.take (x19_2 : Int).toNat) ((rd_T59 l1 x19_2).f0) ((rd_T59 l1 x19_2).f1)).bind fun t204 => (if t204 = true then (some false) else (impl_IsCut.l0 k2 a0 l1 l1 (l1.length : Int) (wrap64 (x19_2 + 1))))) else (none)))) else (none)) else (none)) = some r := by first | (rw [hji13] at H; exact H) | (simp only [hji13] at H ⊢; exact H)
           (try rw [hji13] at A10)
           have hji13w : (IntKind.i64.wrap (x19_2 - 1)) = ji13 := (i64_w _).trans hji13
           by_cases c14 : 0 ≤ (ji13)
           ·rw [if_pos c14] at H
            have c14b0 : decide (0 ≤ (ji13)) = true := decide_eq_true c14
            clear c14
            by_cases c15 : (ji13) < (l1.length : Int)
            ·rw [if_pos c15] at H
             have c15b0 : decide ((ji13) < (l1.length : Int)) = true := decide_eq_true c15
             clear c15
             replace H := Option.bind_eq_some_iff.mp H
             obtain ⟨t199, A160, H⟩ := H
             have A16 := Aside0.mk A160
             clear A160
             by_cases c17 : t199 ≥ 0
             ·rw [if_pos c17] at H
              have c17b0 : decide (0 ≤ t199) = true := decide_eq_true c17
              clear c17
              obtain rfl := Option.some.inj H
              simp only [Option.some.injEq, Prod.mk.injEq] at H
              obtain ⟨rfl⟩ := H
              have p195 : 0 ≤ (x19_2 : Int) := of_decide_eq_true (by first | (with_reducible assumption) | assumption)
              have q195 : x19_2 < (l1.length : Int) := of_decide_eq_true (by first | (with_reducible assumption) | assumption)
              obtain ⟨ad195, e195, hx195_0, hx195_1⟩ := at_T59 HR1.out x19_2 p195 q195
              cases e195
              replace hx195_0 := (HB.out.cell (World.block_lt_of_cell? w _ hx195_0)).trans hx195_0
              replace hx195_1 := (HB.out.cell (World.block_lt_of_cell? w _ hx195_1)).trans hx195_1
              replace p195 := eq_true p195
              replace q195 := eq_true q195
              try go_wp2_with (first | ((with_reducible refine gate_dst (N := 6) rfl ?_); (try (refine gate_guard (by rfl) ?_; dsimp only)); refine box_ 6 #[.int .i64 0, .int .i64 0] 59 ?_; intro gb196 hg w18 hbox hb; have BK196 := Aside0.mk (hbox); have GW196 := ge_ HB hg; have GE196 := GW196; replace HB := hh HB hb; clear hb hbox hg; obtain ⟨z19a, z19b, y19a, y19b⟩ := c2_ BK196))
              have n0_ : Aside0 (((w18.setCell ⟨gb196, 0, none⟩ (.int .i64 ((rd_T59 l1 x19_2).f0))).setCell ⟨gb196, 1, none⟩ (.int .i64 ((rd_T59 l1 x19_2).f1))).heap[gb196]? = some (.cells #[.int .i64 ((rd_T59 l1 x19_2).f0), .int .i64 ((rd_T59 l1 x19_2).f1)] 59 (0, 0))) := ⟨by refine pf_ ?_; refine blk_put (cs := #[.int .i64 ((rd_T59 l1 x19_2).f0), .int .i64 0]) ?_ 1 _ rfl; refine pf_ ?_; refine blk_put (cs := #[.int .i64 0, .int .i64 0]) ?_ 0 _ rfl; exact pk BK196⟩
              have n1_ : Aside0 (Below w.heap.size w ((w18.setCell ⟨gb196, 0, none⟩ (.int .i64 ((rd_T59 l1 x19_2).f0))).setCell ⟨gb196, 1, none⟩ (.int .i64 ((rd_T59 l1 x19_2).f1)))) := ⟨by repeat (first | (with_reducible first | exact HB.out | apply below_alloc | apply pw_below_drewN | apply below_drew1 | refine below_set ?_ GE196.out) | exact HB.out)⟩
              (try clear BK196)
              (try clear HB)
              generalize ((w18.setCell ⟨gb196, 0, none⟩ (.int .i64 ((rd_T59 l1 x19_2).f0))).setCell ⟨gb196, 1, none⟩ (.int .i64 ((rd_T59 l1 x19_2).f1))) = w20 at n0_ n1_ ⊢
              have BK196 := n0_
              have HB := n1_
              clear n0_ n1_
              replace BK196 := Aside0.mk (blk_drew BK196.out)
              replace HB := Aside0.mk (below_drew1 HB.out)
              have p198 : 0 ≤ ((ji13) : Int) := of_decide_eq_true (by first | (with_reducible assumption) | assumption)
              have q198 : (ji13) < (l1.length : Int) := of_decide_eq_true (by first | (with_reducible assumption) | assumption)
              obtain ⟨ad198, e198, hx198_0, hx198_1⟩ := at_T59 HR1.out (ji13) p198 q198
              have hw198_1 := hx198_1
              have hw198_0 := hx198_0
              obtain rfl : ad195 = ad198 := (by injection e198)
              replace hx198_0 := (HB.out.cell (World.block_lt_of_cell? w _ hx198_0)).trans hx198_0
              replace hx198_1 := (HB.out.cell (World.block_lt_of_cell? w _ hx198_1)).trans hx198_1
              replace p198 := eq_true p198
              replace q198 := eq_true q198
              refine start_ (n := 25) (S := fun w' => w'.cell? ⟨gb196, 0, none⟩ = some (.int .i64 ((rd_T59 l1 x19_2).f0)) ∧ w'.cell? ⟨gb196, 1, none⟩ = some (.int .i64 ((rd_T59 l1 x19_2).f1)) ∧ w'.cell? (ad195.add (((ji13)).toNat * 2)) = some (.int .i64 ((rd_T59 l1 (ji13)).f0)) ∧ w'.cell? ⟨(ad195.add (((ji13)).toNat * 2)).block, (ad195.add (((ji13)).toNat * 2)).off + 1, none⟩ = some (.int .i64 ((rd_T59 l1 (ji13)).f1))) (ds := []) (bT 0 25) (by kernel_rfl) rfl rfl ⟨(blk_cell BK196.out 0).trans rfl, (blk_cell BK196.out 1).trans rfl, ((HB.out.cell (World.block_lt_of_cell? w _ hw198_0)).trans hw198_0), ((HB.out.cell (World.block_lt_of_cell? w _ hw198_1)).trans hw198_1)⟩ (fun hHeld => ?_); refine with_tabW impl_IsCut.tab6 impl_IsCut.bits6 (fun HT_ HW_ => ?_)
              generalize w20.drew = w21 at BK196 HB hx198_0 hx198_1 hHeld ⊢
              refine pu_ HT_ 0 (some 24) (bT 1 25) ?_
              refine take_ (i := 1) (N := some 25) (v := ?_) (a' := ?_) (bT 2 25) rfl rfl (take_ofW HT_.out HW_.out (by kernel_rfl)) (fun _ _ _ h => h) (Or.inl ⟨by rfl, ?_⟩) hHeld ?_ ?_
              rotate_left
              ·rintro w' ⟨s0, s1, s2, s3⟩
               go_simp
               with_reducible rfl
              rotate_left
              ·simp only [Act.put, List.setIfInBounds_toArray, List.set_cons_zero, List.set_cons_succ, i64_w, i32_w]
               rfl
              refine one_ (i := 2) (N := some 26) (bT 3 25) rfl rfl (one_of HT_.out (by kernel_rfl)) (by decide) (fun K hK => ?_)
              refine goes_ Try.func74 (by kernel_rfl) rfl #[.int .i64 a0, .agg #[.int .i64 ((rd_T59 l1 x19_2).f0), .int .i64 ((rd_T59 l1 x19_2).f1)]] (by rfl) rfl rfl (by (try simp only [List.map_toArray, List.map_cons, List.map_nil]); first | done | rfl | (simp only [List.length_drop, List.length_take]; rfl)) ?_
              with_reducible refine (impl_isDiagonal.calls a0 ((rd_T59 l1 x19_2).f0) ((rd_T59 l1 x19_2).f1) true _ A10.out).mono ?_
              rintro e w22 ⟨rfl, hb⟩
              refine ⟨_, rfl, ?_⟩
              replace BK196 := bb BK196 hb
              replace HB := hh HB hb
              (try clear hb);(try clear hb2);(try clear hk);(try clear hi)
              refine hK.out _ _ ⟨(blk_cell BK196.out 0).trans rfl, (blk_cell BK196.out 1).trans rfl, ((HB.out.cell (World.block_lt_of_cell? w _ hw198_0)).trans hw198_0), ((HB.out.cell (World.block_lt_of_cell? w _ hw198_1)).trans hw198_1)⟩ (fun hHeld => ?_)
              clear hK K
              refine norm_ (a' := ?_) ?_ ?_
              rotate_left
              ·show Act.put _ (some 26) _ = _
               simp only [Act.put, List.setIfInBounds_toArray, List.set_cons_zero, List.set_cons_succ, i64_w, i32_w]
               rfl
              refine pu_ HT_ 3 (some 27) (bT 4 25) ?_
              refine pu_ HT_ 4 (some 28) (bT 5 25) ?_
              refine pu_ HT_ 5 (some 29) (bT 6 25) ?_
              refine pu_ HT_ 6 (some 30) (bT 7 25) ?_
              refine pu_ HT_ 7 (some 31) (bT 8 25) ?_
              refine pu_ HT_ 8 (some 32) (bT 9 25) ?_
              refine pu_ HT_ 9 (some 33) (bT 10 25) ?_
              refine pu_ HT_ 10 (some 34) (bT 11 25) ?_
              refine pu_ HT_ 11 (some 35) (bT 12 25) ?_
              refine take_ (i := 12) (N := some 36) (v := ?_) (a' := ?_) (bT 13 25) rfl rfl (take_ofW HT_.out HW_.out (by kernel_rfl)) (fun _ _ _ h => h) (Or.inl ⟨by rfl, ?_⟩) hHeld ?_ ?_
              rotate_left
              ·rintro w' ⟨s0, s1, s2, s3⟩
               go_simp
               with_reducible rfl
              rotate_left
              ·simp only [Act.put, List.setIfInBounds_toArray, List.set_cons_zero, List.set_cons_succ, i64_w, i32_w]
               rfl
              refine take_ (i := 13) (N := some 37) (v := ?_) (a' := ?_) (bT 14 25) rfl rfl (take_ofW HT_.out HW_.out (by kernel_rfl)) (fun _ _ _ h => h) (Or.inl ⟨by rfl, ?_⟩) hHeld ?_ ?_
              rotate_left
              ·rintro w' ⟨s0, s1, s2, s3⟩
               go_simp
               with_reducible rfl
              rotate_left
              ·simp only [Act.put, List.setIfInBounds_toArray, List.set_cons_zero, List.set_cons_succ, i64_w, i32_w]
               rfl
              refine one_ (i := 14) (N := some 38) (bT 15 25) rfl rfl (one_of HT_.out (by kernel_rfl)) (by decide) (fun K hK => ?_)
              refine goes_ Try.func75 (by kernel_rfl) rfl #[.agg #[.int .i64 ((rd_T59 l1 (ji13)).f0), .int .i64 ((rd_T59 l1 (ji13)).f1)], .agg #[.int .i64 ((rd_T59 l1 x19_2).f0), .int .i64 ((rd_T59 l1 x19_2).f1)]] (by rfl) rfl rfl (by (try simp only [List.map_toArray, List.map_cons, List.map_nil]); first | done | (simp only [hji13]; rfl) | rfl | (simp only [List.length_drop, List.length_take]; rfl)) ?_
              with_reducible refine (impl_compareDiagonals.calls k2 ((rd_T59 l1 (ji13)).f0) ((rd_T59 l1 (ji13)).f1) ((rd_T59 l1 x19_2).f0) ((rd_T59 l1 x19_2).f1) t199 _ A16.out).mono ?_
              rintro e w23 ⟨rfl, hb⟩
              refine ⟨_, rfl, ?_⟩
              replace BK196 := bb BK196 hb
              replace HB := hh HB hb
              (try clear hb);(try clear hb2);(try clear hk);(try clear hi)
              refine hK.out _ _ ⟨(blk_cell BK196.out 0).trans rfl, (blk_cell BK196.out 1).trans rfl, ((HB.out.cell (World.block_lt_of_cell? w _ hw198_0)).trans hw198_0), ((HB.out.cell (World.block_lt_of_cell? w _ hw198_1)).trans hw198_1)⟩ (fun hHeld => ?_)
              clear hK K
              refine norm_ (a' := ?_) ?_ ?_
              rotate_left
              ·show Act.put _ (some 38) _ = _
               simp only [Act.put, List.setIfInBounds_toArray, List.set_cons_zero, List.set_cons_succ, i64_w, i32_w]
               rfl
              refine pu_ HT_ 15 (some 39) (bT 16 25) ?_
              refine pu_ HT_ 16 (some 40) (bT 17 25) ?_
              refine pu_ HT_ 17 (some 41) (bT 18 25) ?_
              refine pu_ HT_ 18 (some 42) (bT 19 25) ?_
              refine pure_ (i := 19) (N := some 43) (v := undef) (a' := ?_) (bT 20 25) rfl rfl (any_of HT_.out (by kernel_rfl)) (fun _ _ _ h => h) (Or.inr ⟨by rfl, rfl⟩) ?_ ?_
              rotate_left
              ·simp only [Act.put, List.setIfInBounds_toArray, List.set_cons_zero, List.set_cons_succ, i64_w, i32_w]
               rfl
              refine pure_ (i := 20) (N := some 44) (v := undef) (a' := ?_) (bT 21 25) rfl rfl (any_of HT_.out (by kernel_rfl)) (fun _ _ _ h => h) (Or.inr ⟨by rfl, rfl⟩) ?_ ?_
              rotate_left
              ·simp only [Act.put, List.setIfInBounds_toArray, List.set_cons_zero, List.set_cons_succ, i64_w, i32_w]
               rfl
              refine pure_ (i := 21) (N := some 45) (v := undef) (a' := ?_) (bT 22 25) rfl rfl (any_of HT_.out (by kernel_rfl)) (fun _ _ _ h => h) (Or.inr ⟨by rfl, rfl⟩) ?_ ?_
              rotate_left
              ·simp only [Act.put, List.setIfInBounds_toArray, List.set_cons_zero, List.set_cons_succ, i64_w, i32_w]
               rfl
              refine pure_ (i := 22) (N := some 46) (v := undef) (a' := ?_) (bT 23 25) rfl rfl (any_of HT_.out (by kernel_rfl)) (fun _ _ _ h => h) (Or.inr ⟨by rfl, rfl⟩) ?_ ?_
              rotate_left
              ·simp only [Act.put, List.setIfInBounds_toArray, List.set_cons_zero, List.set_cons_succ, i64_w, i32_w]
               rfl
              refine pure_ (i := 23) (N := some 47) (v := undef) (a' := ?_) (bT 24 25) rfl rfl (any_of HT_.out (by kernel_rfl)) (fun _ _ _ h => h) (Or.inr ⟨by rfl, rfl⟩) ?_ ?_
              rotate_left
              ·simp only [Act.put, List.setIfInBounds_toArray, List.set_cons_zero, List.set_cons_succ, i64_w, i32_w]
               rfl
              refine pu_ HT_ 24 (some 48) (bT 25 25) ?_
              refine done_ (done_of HT_.out (by kernel_rfl)) ?_
              try go_wp2
              go_ret
              exact ⟨by first | rfl | (simp [errW_none, errW_some] <;> rfl) | (simp only [← hji13]; first | rfl | (simp [errW_none, errW_some] <;> rfl)) | (simp [*, errW_none, errW_some] <;> rfl), hk HB⟩
             ·rw [if_neg c17] at H
              have c17b0 : decide (0 ≤ t199) = false := decide_eq_false c17
              clear c17
              have c24b0 := eq_true (of_decide_eq_true (by first | (with_reducible assumption) | assumption) : 0 ≤ x19_2)
              by_cases c25 : x19_2 ≤ (l1.length : Int)
              ·rw [if_pos c25] at H
               have c25b0 := eq_true c25
               have c25b1 : decide (x19_2 ≤ (l1.length : Int)) = true := decide_eq_true c25
               clear c25
               obtain ⟨y200, hy200⟩ : ∃ y_ : List (S59), y_ = (l1.take (x19_2 : Int).toNat) := ⟨_, rfl⟩
               replace H : ((impl_crosses.f y200 ((rd_T59 l1 x19_2).f0) ((rd_T59 l1 x19_2).f1)).bind fun t204 => (if t204 = true then (some false) else (impl_IsCut.l0 k2 a0 l1 l1 (l1.length : Int) (wrap64 (x19_2 + 1))))) = some r := by first | (rw [hy200]; with_reducible exact H) | (have H2_ := (Option.bind_some _ _).symm.trans H; rw [hy200]; with_reducible exact H2_) | (have H2_ := (Option.bind_some _ _).symm.trans H; with_reducible exact H2_) | with_reducible exact H | (rw [hy200]; exact H) | exact H
               have Ny200 := Aside0.mk hy200
               clear hy200
               replace H := Option.bind_eq_some_iff.mp H
               obtain ⟨t204, A260, H⟩ := H
               have A26 := Aside0.mk A260
               clear A260
               by_cases c27 : t204 = true
               ·subst c27
                rw [if_pos rfl] at H
                obtain rfl := Option.some.inj H
                simp only [Option.some.injEq, Prod.mk.injEq] at H
                obtain ⟨rfl⟩ := H
                have p195 : 0 ≤ (x19_2 : Int) := of_decide_eq_true (by first | (with_reducible assumption) | assumption)
                have q195 : x19_2 < (l1.length : Int) := of_decide_eq_true (by first | (with_reducible assumption) | assumption)
                obtain ⟨ad195, e195, hx195_0, hx195_1⟩ := at_T59 HR1.out x19_2 p195 q195
                cases e195
                replace hx195_0 := (HB.out.cell (World.block_lt_of_cell? w _ hx195_0)).trans hx195_0
                replace hx195_1 := (HB.out.cell (World.block_lt_of_cell? w _ hx195_1)).trans hx195_1
                replace p195 := eq_true p195
                replace q195 := eq_true q195
                try go_wp2_with (first | ((with_reducible refine gate_dst (N := 6) rfl ?_); (try (refine gate_guard (by rfl) ?_; dsimp only)); refine box_ 6 #[.int .i64 0, .int .i64 0] 59 ?_; intro gb196 hg w28 hbox hb; have BK196 := Aside0.mk (hbox); have GW196 := ge_ HB hg; have GE196 := GW196; replace HB := hh HB hb; clear hb hbox hg; obtain ⟨z29a, z29b, y29a, y29b⟩ := c2_ BK196))
                have n0_ : Aside0 (((w28.setCell ⟨gb196, 0, none⟩ (.int .i64 ((rd_T59 l1 x19_2).f0))).setCell ⟨gb196, 1, none⟩ (.int .i64 ((rd_T59 l1 x19_2).f1))).heap[gb196]? = some (.cells #[.int .i64 ((rd_T59 l1 x19_2).f0), .int .i64 ((rd_T59 l1 x19_2).f1)] 59 (0, 0))) := ⟨by refine pf_ ?_; refine blk_put (cs := #[.int .i64 ((rd_T59 l1 x19_2).f0), .int .i64 0]) ?_ 1 _ rfl; refine pf_ ?_; refine blk_put (cs := #[.int .i64 0, .int .i64 0]) ?_ 0 _ rfl; exact pk BK196⟩
                have n1_ : Aside0 (Below w.heap.size w ((w28.setCell ⟨gb196, 0, none⟩ (.int .i64 ((rd_T59 l1 x19_2).f0))).setCell ⟨gb196, 1, none⟩ (.int .i64 ((rd_T59 l1 x19_2).f1)))) := ⟨by repeat (first | (with_reducible first | exact HB.out | apply below_alloc | apply pw_below_drewN | apply below_drew1 | refine below_set ?_ GE196.out) | exact HB.out)⟩
                (try clear BK196)
                (try clear HB)
                generalize ((w28.setCell ⟨gb196, 0, none⟩ (.int .i64 ((rd_T59 l1 x19_2).f0))).setCell ⟨gb196, 1, none⟩ (.int .i64 ((rd_T59 l1 x19_2).f1))) = w30 at n0_ n1_ ⊢
                have BK196 := n0_
                have HB := n1_
                clear n0_ n1_
                replace BK196 := Aside0.mk (blk_drew BK196.out)
                replace HB := Aside0.mk (below_drew1 HB.out)
                have p198 : 0 ≤ ((ji13) : Int) := of_decide_eq_true (by first | (with_reducible assumption) | assumption)
                have q198 : (ji13) < (l1.length : Int) := of_decide_eq_true (by first | (with_reducible assumption) | assumption)
                obtain ⟨ad198, e198, hx198_0, hx198_1⟩ := at_T59 HR1.out (ji13) p198 q198
                have hw198_1 := hx198_1
                have hw198_0 := hx198_0
                obtain rfl : ad195 = ad198 := (by injection e198)
                replace hx198_0 := (HB.out.cell (World.block_lt_of_cell? w _ hx198_0)).trans hx198_0
                replace hx198_1 := (HB.out.cell (World.block_lt_of_cell? w _ hx198_1)).trans hx198_1
                replace p198 := eq_true p198
                replace q198 := eq_true q198
                refine start_ (n := 25) (S := fun w' => w'.cell? ⟨gb196, 0, none⟩ = some (.int .i64 ((rd_T59 l1 x19_2).f0)) ∧ w'.cell? ⟨gb196, 1, none⟩ = some (.int .i64 ((rd_T59 l1 x19_2).f1)) ∧ w'.cell? (ad195.add (((ji13)).toNat * 2)) = some (.int .i64 ((rd_T59 l1 (ji13)).f0)) ∧ w'.cell? ⟨(ad195.add (((ji13)).toNat * 2)).block, (ad195.add (((ji13)).toNat * 2)).off + 1, none⟩ = some (.int .i64 ((rd_T59 l1 (ji13)).f1))) (ds := []) (bT 0 25) (by kernel_rfl) rfl rfl ⟨(blk_cell BK196.out 0).trans rfl, (blk_cell BK196.out 1).trans rfl, ((HB.out.cell (World.block_lt_of_cell? w _ hw198_0)).trans hw198_0), ((HB.out.cell (World.block_lt_of_cell? w _ hw198_1)).trans hw198_1)⟩ (fun hHeld => ?_); refine with_tabW impl_IsCut.tab6 impl_IsCut.bits6 (fun HT_ HW_ => ?_)
                generalize w30.drew = w31 at BK196 HB hx198_0 hx198_1 hHeld ⊢
                refine pu_ HT_ 0 (some 24) (bT 1 25) ?_
                refine take_ (i := 1) (N := some 25) (v := ?_) (a' := ?_) (bT 2 25) rfl rfl (take_ofW HT_.out HW_.out (by kernel_rfl)) (fun _ _ _ h => h) (Or.inl ⟨by rfl, ?_⟩) hHeld ?_ ?_
                rotate_left
                ·rintro w' ⟨s0, s1, s2, s3⟩
                 go_simp
                 with_reducible rfl
                rotate_left
                ·simp only [Act.put, List.setIfInBounds_toArray, List.set_cons_zero, List.set_cons_succ, i64_w, i32_w]
                 rfl
                refine one_ (i := 2) (N := some 26) (bT 3 25) rfl rfl (one_of HT_.out (by kernel_rfl)) (by decide) (fun K hK => ?_)
                refine goes_ Try.func74 (by kernel_rfl) rfl #[.int .i64 a0, .agg #[.int .i64 ((rd_T59 l1 x19_2).f0), .int .i64 ((rd_T59 l1 x19_2).f1)]] (by rfl) rfl rfl (by (try simp only [List.map_toArray, List.map_cons, List.map_nil]); first | done | rfl | (simp only [List.length_drop, List.length_take]; rfl)) ?_
                with_reducible refine (impl_isDiagonal.calls a0 ((rd_T59 l1 x19_2).f0) ((rd_T59 l1 x19_2).f1) true _ A10.out).mono ?_
                rintro e w32 ⟨rfl, hb⟩
                refine ⟨_, rfl, ?_⟩
                replace BK196 := bb BK196 hb
                replace HB := hh HB hb
                (try clear hb);(try clear hb2);(try clear hk);(try clear hi)
                refine hK.out _ _ ⟨(blk_cell BK196.out 0).trans rfl, (blk_cell BK196.out 1).trans rfl, ((HB.out.cell (World.block_lt_of_cell? w _ hw198_0)).trans hw198_0), ((HB.out.cell (World.block_lt_of_cell? w _ hw198_1)).trans hw198_1)⟩ (fun hHeld => ?_)
                clear hK K
                refine norm_ (a' := ?_) ?_ ?_
                rotate_left
                ·show Act.put _ (some 26) _ = _
                 simp only [Act.put, List.setIfInBounds_toArray, List.set_cons_zero, List.set_cons_succ, i64_w, i32_w]
                 rfl
                refine pu_ HT_ 3 (some 27) (bT 4 25) ?_
                refine pu_ HT_ 4 (some 28) (bT 5 25) ?_
                refine pu_ HT_ 5 (some 29) (bT 6 25) ?_
                refine pu_ HT_ 6 (some 30) (bT 7 25) ?_
                refine pu_ HT_ 7 (some 31) (bT 8 25) ?_
                refine pu_ HT_ 8 (some 32) (bT 9 25) ?_
                refine pu_ HT_ 9 (some 33) (bT 10 25) ?_
                refine pu_ HT_ 10 (some 34) (bT 11 25) ?_
                refine pu_ HT_ 11 (some 35) (bT 12 25) ?_
                refine take_ (i := 12) (N := some 36) (v := ?_) (a' := ?_) (bT 13 25) rfl rfl (take_ofW HT_.out HW_.out (by kernel_rfl)) (fun _ _ _ h => h) (Or.inl ⟨by rfl, ?_⟩) hHeld ?_ ?_
                rotate_left
                ·rintro w' ⟨s0, s1, s2, s3⟩
                 go_simp
                 with_reducible rfl
                rotate_left
                ·simp only [Act.put, List.setIfInBounds_toArray, List.set_cons_zero, List.set_cons_succ, i64_w, i32_w]
                 rfl
                refine take_ (i := 13) (N := some 37) (v := ?_) (a' := ?_) (bT 14 25) rfl rfl (take_ofW HT_.out HW_.out (by kernel_rfl)) (fun _ _ _ h => h) (Or.inl ⟨by rfl, ?_⟩) hHeld ?_ ?_
                rotate_left
                ·rintro w' ⟨s0, s1, s2, s3⟩
                 go_simp
                 with_reducible rfl
                rotate_left
                ·simp only [Act.put, List.setIfInBounds_toArray, List.set_cons_zero, List.set_cons_succ, i64_w, i32_w]
                 rfl
                refine one_ (i := 14) (N := some 38) (bT 15 25) rfl rfl (one_of HT_.out (by kernel_rfl)) (by decide) (fun K hK => ?_)
                refine goes_ Try.func75 (by kernel_rfl) rfl #[.agg #[.int .i64 ((rd_T59 l1 (ji13)).f0), .int .i64 ((rd_T59 l1 (ji13)).f1)], .agg #[.int .i64 ((rd_T59 l1 x19_2).f0), .int .i64 ((rd_T59 l1 x19_2).f1)]] (by rfl) rfl rfl (by (try simp only [List.map_toArray, List.map_cons, List.map_nil]); first | done | (simp only [hji13]; rfl) | rfl | (simp only [List.length_drop, List.length_take]; rfl)) ?_
                with_reducible refine (impl_compareDiagonals.calls k2 ((rd_T59 l1 (ji13)).f0) ((rd_T59 l1 (ji13)).f1) ((rd_T59 l1 x19_2).f0) ((rd_T59 l1 x19_2).f1) t199 _ A16.out).mono ?_
                rintro e w33 ⟨rfl, hb⟩
                refine ⟨_, rfl, ?_⟩
                replace BK196 := bb BK196 hb
                replace HB := hh HB hb
                (try clear hb);(try clear hb2);(try clear hk);(try clear hi)
                have q34 : (x19_2 : Int) ≤ ((l1.length : Int) : Int) := of_decide_eq_true (by first | (with_reducible assumption) | assumption)
                obtain ⟨i034, hi034, _, hsz34, _⟩ := info_parts info59
                have hroom34 : l1.length ≤ c1 := HC1.out
                have hC34 : Kd.C k59 _ (some ad195) l1.length l1 := HR1.out
                have hcut34 := cut_to (P := Try.prog) 27 59 .i64 Try.underlying27 hi034 (some ad195) l1.length c1 x19_2 (of_decide_eq_true (by first | (with_reducible assumption) | assumption)) q34 hroom34
                have hr34 := Kd.C_take (m := (x19_2 : Int).toNat) hC34 (by omega)
                have hy34 : y200.length = (x19_2 : Int).toNat := (by rw [Ny200.out, List.length_take]; omega)
                rw [← Ny200.out] at hr34
                rw [← hy34] at hcut34
                have HR203 := Aside0.mk hr34
                have HC203 := Aside0.mk (show y200.length ≤ c1 from by omega)
                clear hr34 hC34 hroom34 hi034 hsz34
                have KY34 := Aside0.mk hy34
                clear hy34
                replace q34 := eq_true q34
                refine hK.out _ _ ⟨(blk_cell BK196.out 0).trans rfl, (blk_cell BK196.out 1).trans rfl, ((HB.out.cell (World.block_lt_of_cell? w _ hw198_0)).trans hw198_0), ((HB.out.cell (World.block_lt_of_cell? w _ hw198_1)).trans hw198_1)⟩ (fun hHeld => ?_)
                clear hK K
                refine norm_ (a' := ?_) ?_ ?_
                rotate_left
                ·show Act.put _ (some 38) _ = _
                 simp only [Act.put, List.setIfInBounds_toArray, List.set_cons_zero, List.set_cons_succ, i64_w, i32_w]
                 rfl
                refine pu_ HT_ 15 (some 39) (bT 16 25) ?_
                refine pu_ HT_ 16 (some 40) (bT 17 25) ?_
                refine pu_ HT_ 17 (some 41) (bT 18 25) ?_
                refine pu_ HT_ 18 (some 42) (bT 19 25) ?_
                refine pu_ HT_ 19 (some 43) (bT 20 25) ?_
                refine pu_ HT_ 20 (some 44) (bT 21 25) ?_
                refine pu_ HT_ 21 (some 45) (bT 22 25) ?_
                refine take_ (i := 22) (N := some 46) (v := ?_) (a' := ?_) (bT 23 25) rfl rfl (take_ofW HT_.out HW_.out (by kernel_rfl)) (fun _ _ _ h => h) (Or.inl ⟨by rfl, ?_⟩) hHeld ?_ ?_
                rotate_left
                ·rintro w' ⟨s0, s1, s2, s3⟩
                 go_simp
                 with_reducible rfl
                rotate_left
                ·simp only [Act.put, List.setIfInBounds_toArray, List.set_cons_zero, List.set_cons_succ, i64_w, i32_w]
                 rfl
                refine one_ (i := 23) (N := some 47) (bT 24 25) rfl rfl (one_of HT_.out (by kernel_rfl)) (by decide) (fun K hK => ?_)
                refine goes_ Try.func76 (by kernel_rfl) rfl #[.slice (some ad195) y200.length c1, .agg #[.int .i64 ((rd_T59 l1 x19_2).f0), .int .i64 ((rd_T59 l1 x19_2).f1)]] (by rfl) rfl rfl (by (try simp only [List.map_toArray, List.map_cons, List.map_nil]); first | done | rfl | (simp only [List.length_drop, List.length_take]; rfl)) ?_
                with_reducible refine (impl_crosses.calls _ _ y200 ((rd_T59 l1 x19_2).f0) ((rd_T59 l1 x19_2).f1) true _ ?side1 ?side2 A26.out).mono ?_
                (case side1 => repeat (first | exact (Kd.C_below HR203.out HB.out) | (with_reducible refine Kd.C_alloc ?_ _) | (with_reducible refine Kd.C_drewN ?_ _) | (with_reducible refine Kd.C_drew ?_)))
                (case side2 => exact HC203.out)
                rintro e w35 ⟨rfl, hb⟩
                refine ⟨_, rfl, ?_⟩
                replace BK196 := bb BK196 hb
                replace HB := hh HB hb
                (try clear hb);(try clear hb2);(try clear hk);(try clear hi)
                refine hK.out _ _ ⟨(blk_cell BK196.out 0).trans rfl, (blk_cell BK196.out 1).trans rfl, ((HB.out.cell (World.block_lt_of_cell? w _ hw198_0)).trans hw198_0), ((HB.out.cell (World.block_lt_of_cell? w _ hw198_1)).trans hw198_1)⟩ (fun hHeld => ?_)
                clear hK K
                refine norm_ (a' := ?_) ?_ ?_
                rotate_left
                ·show Act.put _ (some 47) _ = _
                 simp only [Act.put, List.setIfInBounds_toArray, List.set_cons_zero, List.set_cons_succ, i64_w, i32_w]
                 rfl
                refine pu_ HT_ 24 (some 48) (bT 25 25) ?_
                refine done_ (done_of HT_.out (by kernel_rfl)) ?_
                try go_wp2
                go_ret
                exact ⟨by first | rfl | (simp [errW_none, errW_some] <;> rfl) | (simp only [← hji13]; first | rfl | (simp [errW_none, errW_some] <;> rfl)) | (simp [*, errW_none, errW_some] <;> rfl), hk HB⟩
               ·replace c27 := Bool.eq_false_iff.mpr c27
                subst c27
                rw [if_neg (show ¬ (false = true) by decide)] at H
                have H' := Aside0.mk H
                clear H
                have p195 : 0 ≤ (x19_2 : Int) := of_decide_eq_true (by first | (with_reducible assumption) | assumption)
                have q195 : x19_2 < (l1.length : Int) := of_decide_eq_true (by first | (with_reducible assumption) | assumption)
                obtain ⟨ad195, e195, hx195_0, hx195_1⟩ := at_T59 HR1.out x19_2 p195 q195
                cases e195
                replace hx195_0 := (HB.out.cell (World.block_lt_of_cell? w _ hx195_0)).trans hx195_0
                replace hx195_1 := (HB.out.cell (World.block_lt_of_cell? w _ hx195_1)).trans hx195_1
                replace p195 := eq_true p195
                replace q195 := eq_true q195
                try go_wp2_with (first | ((with_reducible refine gate_dst (N := 6) rfl ?_); (try (refine gate_guard (by rfl) ?_; dsimp only)); refine box_ 6 #[.int .i64 0, .int .i64 0] 59 ?_; intro gb196 hg w36 hbox hb; have BK196 := Aside0.mk (hbox); have GW196 := ge_ HB hg; have GE196 := GW196; replace HB := hh HB hb; clear hb hbox hg; obtain ⟨z37a, z37b, y37a, y37b⟩ := c2_ BK196))
                have n0_ : Aside0 (((w36.setCell ⟨gb196, 0, none⟩ (.int .i64 ((rd_T59 l1 x19_2).f0))).setCell ⟨gb196, 1, none⟩ (.int .i64 ((rd_T59 l1 x19_2).f1))).heap[gb196]? = some (.cells #[.int .i64 ((rd_T59 l1 x19_2).f0), .int .i64 ((rd_T59 l1 x19_2).f1)] 59 (0, 0))) := ⟨by refine pf_ ?_; refine blk_put (cs := #[.int .i64 ((rd_T59 l1 x19_2).f0), .int .i64 0]) ?_ 1 _ rfl; refine pf_ ?_; refine blk_put (cs := #[.int .i64 0, .int .i64 0]) ?_ 0 _ rfl; exact pk BK196⟩
                have n1_ : Aside0 (Below w.heap.size w ((w36.setCell ⟨gb196, 0, none⟩ (.int .i64 ((rd_T59 l1 x19_2).f0))).setCell ⟨gb196, 1, none⟩ (.int .i64 ((rd_T59 l1 x19_2).f1)))) := ⟨by repeat (first | (with_reducible first | exact HB.out | apply below_alloc | apply pw_below_drewN | apply below_drew1 | refine below_set ?_ GE196.out) | exact HB.out)⟩
                (try clear BK196)
                (try clear HB)
                generalize ((w36.setCell ⟨gb196, 0, none⟩ (.int .i64 ((rd_T59 l1 x19_2).f0))).setCell ⟨gb196, 1, none⟩ (.int .i64 ((rd_T59 l1 x19_2).f1))) = w38 at n0_ n1_ ⊢
                have BK196 := n0_
                have HB := n1_
                clear n0_ n1_
                replace BK196 := Aside0.mk (blk_drew BK196.out)
                replace HB := Aside0.mk (below_drew1 HB.out)
                have p198 : 0 ≤ ((ji13) : Int) := of_decide_eq_true (by first | (with_reducible assumption) | assumption)
                have q198 : (ji13) < (l1.length : Int) := of_decide_eq_true (by first | (with_reducible assumption) | assumption)
                obtain ⟨ad198, e198, hx198_0, hx198_1⟩ := at_T59 HR1.out (ji13) p198 q198
                have hw198_1 := hx198_1
                have hw198_0 := hx198_0
                obtain rfl : ad195 = ad198 := (by injection e198)
                replace hx198_0 := (HB.out.cell (World.block_lt_of_cell? w _ hx198_0)).trans hx198_0
                replace hx198_1 := (HB.out.cell (World.block_lt_of_cell? w _ hx198_1)).trans hx198_1
                replace p198 := eq_true p198
                replace q198 := eq_true q198
                refine start_ (n := 25) (S := fun w' => w'.cell? ⟨gb196, 0, none⟩ = some (.int .i64 ((rd_T59 l1 x19_2).f0)) ∧ w'.cell? ⟨gb196, 1, none⟩ = some (.int .i64 ((rd_T59 l1 x19_2).f1)) ∧ w'.cell? (ad195.add (((ji13)).toNat * 2)) = some (.int .i64 ((rd_T59 l1 (ji13)).f0)) ∧ w'.cell? ⟨(ad195.add (((ji13)).toNat * 2)).block, (ad195.add (((ji13)).toNat * 2)).off + 1, none⟩ = some (.int .i64 ((rd_T59 l1 (ji13)).f1))) (ds := []) (bT 0 25) (by kernel_rfl) rfl rfl ⟨(blk_cell BK196.out 0).trans rfl, (blk_cell BK196.out 1).trans rfl, ((HB.out.cell (World.block_lt_of_cell? w _ hw198_0)).trans hw198_0), ((HB.out.cell (World.block_lt_of_cell? w _ hw198_1)).trans hw198_1)⟩ (fun hHeld => ?_); refine with_tabW impl_IsCut.tab6 impl_IsCut.bits6 (fun HT_ HW_ => ?_)
                generalize w38.drew = w39 at BK196 HB hx198_0 hx198_1 hHeld ⊢
                refine pu_ HT_ 0 (some 24) (bT 1 25) ?_
                refine take_ (i := 1) (N := some 25) (v := ?_) (a' := ?_) (bT 2 25) rfl rfl (take_ofW HT_.out HW_.out (by kernel_rfl)) (fun _ _ _ h => h) (Or.inl ⟨by rfl, ?_⟩) hHeld ?_ ?_
                rotate_left
                ·rintro w' ⟨s0, s1, s2, s3⟩
                 go_simp
                 with_reducible rfl
                rotate_left
                ·simp only [Act.put, List.setIfInBounds_toArray, List.set_cons_zero, List.set_cons_succ, i64_w, i32_w]
                 rfl
                refine one_ (i := 2) (N := some 26) (bT 3 25) rfl rfl (one_of HT_.out (by kernel_rfl)) (by decide) (fun K hK => ?_)
                refine goes_ Try.func74 (by kernel_rfl) rfl #[.int .i64 a0, .agg #[.int .i64 ((rd_T59 l1 x19_2).f0), .int .i64 ((rd_T59 l1 x19_2).f1)]] (by rfl) rfl rfl (by (try simp only [List.map_toArray, List.map_cons, List.map_nil]); first | done | rfl | (simp only [List.length_drop, List.length_take]; rfl)) ?_
                with_reducible refine (impl_isDiagonal.calls a0 ((rd_T59 l1 x19_2).f0) ((rd_T59 l1 x19_2).f1) true _ A10.out).mono ?_
                rintro e w40 ⟨rfl, hb⟩
                refine ⟨_, rfl, ?_⟩
                replace BK196 := bb BK196 hb
                replace HB := hh HB hb
                (try clear hb);(try clear hb2);(try clear hk);(try clear hi)
                refine hK.out _ _ ⟨(blk_cell BK196.out 0).trans rfl, (blk_cell BK196.out 1).trans rfl, ((HB.out.cell (World.block_lt_of_cell? w _ hw198_0)).trans hw198_0), ((HB.out.cell (World.block_lt_of_cell? w _ hw198_1)).trans hw198_1)⟩ (fun hHeld => ?_)
                clear hK K
                refine norm_ (a' := ?_) ?_ ?_
                rotate_left
                ·show Act.put _ (some 26) _ = _
                 simp only [Act.put, List.setIfInBounds_toArray, List.set_cons_zero, List.set_cons_succ, i64_w, i32_w]
                 rfl
                refine pu_ HT_ 3 (some 27) (bT 4 25) ?_
                refine pu_ HT_ 4 (some 28) (bT 5 25) ?_
                refine pu_ HT_ 5 (some 29) (bT 6 25) ?_
                refine pu_ HT_ 6 (some 30) (bT 7 25) ?_
                refine pu_ HT_ 7 (some 31) (bT 8 25) ?_
                refine pu_ HT_ 8 (some 32) (bT 9 25) ?_
                refine pu_ HT_ 9 (some 33) (bT 10 25) ?_
                refine pu_ HT_ 10 (some 34) (bT 11 25) ?_
                refine pu_ HT_ 11 (some 35) (bT 12 25) ?_
                refine take_ (i := 12) (N := some 36) (v := ?_) (a' := ?_) (bT 13 25) rfl rfl (take_ofW HT_.out HW_.out (by kernel_rfl)) (fun _ _ _ h => h) (Or.inl ⟨by rfl, ?_⟩) hHeld ?_ ?_
                rotate_left
                ·rintro w' ⟨s0, s1, s2, s3⟩
                 go_simp
                 with_reducible rfl
                rotate_left
                ·simp only [Act.put, List.setIfInBounds_toArray, List.set_cons_zero, List.set_cons_succ, i64_w, i32_w]
                 rfl
                refine take_ (i := 13) (N := some 37) (v := ?_) (a' := ?_) (bT 14 25) rfl rfl (take_ofW HT_.out HW_.out (by kernel_rfl)) (fun _ _ _ h => h) (Or.inl ⟨by rfl, ?_⟩) hHeld ?_ ?_
                rotate_left
                ·rintro w' ⟨s0, s1, s2, s3⟩
                 go_simp
                 with_reducible rfl
                rotate_left
                ·simp only [Act.put, List.setIfInBounds_toArray, List.set_cons_zero, List.set_cons_succ, i64_w, i32_w]
                 rfl
                refine one_ (i := 14) (N := some 38) (bT 15 25) rfl rfl (one_of HT_.out (by kernel_rfl)) (by decide) (fun K hK => ?_)
                refine goes_ Try.func75 (by kernel_rfl) rfl #[.agg #[.int .i64 ((rd_T59 l1 (ji13)).f0), .int .i64 ((rd_T59 l1 (ji13)).f1)], .agg #[.int .i64 ((rd_T59 l1 x19_2).f0), .int .i64 ((rd_T59 l1 x19_2).f1)]] (by rfl) rfl rfl (by (try simp only [List.map_toArray, List.map_cons, List.map_nil]); first | done | (simp only [hji13]; rfl) | rfl | (simp only [List.length_drop, List.length_take]; rfl)) ?_
                with_reducible refine (impl_compareDiagonals.calls k2 ((rd_T59 l1 (ji13)).f0) ((rd_T59 l1 (ji13)).f1) ((rd_T59 l1 x19_2).f0) ((rd_T59 l1 x19_2).f1) t199 _ A16.out).mono ?_
                rintro e w41 ⟨rfl, hb⟩
                refine ⟨_, rfl, ?_⟩
                replace BK196 := bb BK196 hb
                replace HB := hh HB hb
                (try clear hb);(try clear hb2);(try clear hk);(try clear hi)
                have q42 : (x19_2 : Int) ≤ ((l1.length : Int) : Int) := of_decide_eq_true (by first | (with_reducible assumption) | assumption)
                obtain ⟨i042, hi042, _, hsz42, _⟩ := info_parts info59
                have hroom42 : l1.length ≤ c1 := HC1.out
                have hC42 : Kd.C k59 _ (some ad195) l1.length l1 := HR1.out
                have hcut42 := cut_to (P := Try.prog) 27 59 .i64 Try.underlying27 hi042 (some ad195) l1.length c1 x19_2 (of_decide_eq_true (by first | (with_reducible assumption) | assumption)) q42 hroom42
                have hr42 := Kd.C_take (m := (x19_2 : Int).toNat) hC42 (by omega)
                have hy42 : y200.length = (x19_2 : Int).toNat := (by rw [Ny200.out, List.length_take]; omega)
                rw [← Ny200.out] at hr42
                rw [← hy42] at hcut42
                have HR203 := Aside0.mk hr42
                have HC203 := Aside0.mk (show y200.length ≤ c1 from by omega)
                clear hr42 hC42 hroom42 hi042 hsz42
                have KY42 := Aside0.mk hy42
                clear hy42
                replace q42 := eq_true q42
                refine hK.out _ _ ⟨(blk_cell BK196.out 0).trans rfl, (blk_cell BK196.out 1).trans rfl, ((HB.out.cell (World.block_lt_of_cell? w _ hw198_0)).trans hw198_0), ((HB.out.cell (World.block_lt_of_cell? w _ hw198_1)).trans hw198_1)⟩ (fun hHeld => ?_)
                clear hK K
                refine norm_ (a' := ?_) ?_ ?_
                rotate_left
                ·show Act.put _ (some 38) _ = _
                 simp only [Act.put, List.setIfInBounds_toArray, List.set_cons_zero, List.set_cons_succ, i64_w, i32_w]
                 rfl
                refine pu_ HT_ 15 (some 39) (bT 16 25) ?_
                refine pu_ HT_ 16 (some 40) (bT 17 25) ?_
                refine pu_ HT_ 17 (some 41) (bT 18 25) ?_
                refine pu_ HT_ 18 (some 42) (bT 19 25) ?_
                refine pu_ HT_ 19 (some 43) (bT 20 25) ?_
                refine pu_ HT_ 20 (some 44) (bT 21 25) ?_
                refine pu_ HT_ 21 (some 45) (bT 22 25) ?_
                refine take_ (i := 22) (N := some 46) (v := ?_) (a' := ?_) (bT 23 25) rfl rfl (take_ofW HT_.out HW_.out (by kernel_rfl)) (fun _ _ _ h => h) (Or.inl ⟨by rfl, ?_⟩) hHeld ?_ ?_
                rotate_left
                ·rintro w' ⟨s0, s1, s2, s3⟩
                 go_simp
                 with_reducible rfl
                rotate_left
                ·simp only [Act.put, List.setIfInBounds_toArray, List.set_cons_zero, List.set_cons_succ, i64_w, i32_w]
                 rfl
                refine one_ (i := 23) (N := some 47) (bT 24 25) rfl rfl (one_of HT_.out (by kernel_rfl)) (by decide) (fun K hK => ?_)
                refine goes_ Try.func76 (by kernel_rfl) rfl #[.slice (some ad195) y200.length c1, .agg #[.int .i64 ((rd_T59 l1 x19_2).f0), .int .i64 ((rd_T59 l1 x19_2).f1)]] (by rfl) rfl rfl (by (try simp only [List.map_toArray, List.map_cons, List.map_nil]); first | done | rfl | (simp only [List.length_drop, List.length_take]; rfl)) ?_
                with_reducible refine (impl_crosses.calls _ _ y200 ((rd_T59 l1 x19_2).f0) ((rd_T59 l1 x19_2).f1) false _ ?side1 ?side2 A26.out).mono ?_
                (case side1 => repeat (first | exact (Kd.C_below HR203.out HB.out) | (with_reducible refine Kd.C_alloc ?_ _) | (with_reducible refine Kd.C_drewN ?_ _) | (with_reducible refine Kd.C_drew ?_)))
                (case side2 => exact HC203.out)
                rintro e w43 ⟨rfl, hb⟩
                refine ⟨_, rfl, ?_⟩
                replace BK196 := bb BK196 hb
                replace HB := hh HB hb
                (try clear hb);(try clear hb2);(try clear hk);(try clear hi)
                refine hK.out _ _ ⟨(blk_cell BK196.out 0).trans rfl, (blk_cell BK196.out 1).trans rfl, ((HB.out.cell (World.block_lt_of_cell? w _ hw198_0)).trans hw198_0), ((HB.out.cell (World.block_lt_of_cell? w _ hw198_1)).trans hw198_1)⟩ (fun hHeld => ?_)
                clear hK K
                refine norm_ (a' := ?_) ?_ ?_
                rotate_left
                ·show Act.put _ (some 47) _ = _
                 simp only [Act.put, List.setIfInBounds_toArray, List.set_cons_zero, List.set_cons_succ, i64_w, i32_w]
                 rfl
                refine pu_ HT_ 24 (some 48) (bT 25 25) ?_
                refine done_ (done_of HT_.out (by kernel_rfl)) ?_
                try go_wp2
                go_roundg k2
                case measure => have := HJ2.out; have := HK2.out; omega
                case rel => exact ⟨(wrap64 (x19_2 + 1)), (by first | rfl | (simp; done) | (simp [*]; done)), H', ⟨by have := HJ2.out; have := HK2.out; omega⟩, ⟨by repeat (first | (with_reducible first | exact HB.out | apply below_alloc | apply pw_below_drewN | apply below_drew1 | refine below_set ?_ GE196.out) | exact HB.out)⟩⟩
              ·rw [if_neg c25] at H
               exact absurd H (by simp)
            ·rw [if_neg c15] at H
             exact absurd H (by simp)
           ·rw [if_neg c14] at H
            exact absurd H (by simp)
          ·rw [if_neg c12] at H
           have c12b0 : decide (0 < x19_2) = false := decide_eq_false c12
           clear c12
           have c44b0 := eq_true (of_decide_eq_true (by first | (with_reducible assumption) | assumption) : 0 ≤ x19_2)
           by_cases c45 : x19_2 ≤ (l1.length : Int)
           ·rw [if_pos c45] at H
            have c45b0 := eq_true c45
            have c45b1 : decide (x19_2 ≤ (l1.length : Int)) = true := decide_eq_true c45
            clear c45
            obtain ⟨y205, hy205⟩ : ∃ y_ : List (S59), y_ = (l1.take (x19_2 : Int).toNat) := ⟨_, rfl⟩
            replace H : ((impl_crosses.f y205 ((rd_T59 l1 x19_2).f0) ((rd_T59 l1 x19_2).f1)).bind fun t209 => (if t209 = true then (some false) else (impl_IsCut.l0 k2 a0 l1 l1 (l1.length : Int) (wrap64 (x19_2 + 1))))) = some r := by first | (rw [hy205]; with_reducible exact H) | (have H2_ := (Option.bind_some _ _).symm.trans H; rw [hy205]; with_reducible exact H2_) | (have H2_ := (Option.bind_some _ _).symm.trans H; with_reducible exact H2_) | with_reducible exact H | (rw [hy205]; exact H) | exact H
            have Ny205 := Aside0.mk hy205
            clear hy205
            replace H := Option.bind_eq_some_iff.mp H
            obtain ⟨t209, A460, H⟩ := H
            have A46 := Aside0.mk A460
            clear A460
            by_cases c47 : t209 = true
            ·subst c47
             rw [if_pos rfl] at H
             obtain rfl := Option.some.inj H
             simp only [Option.some.injEq, Prod.mk.injEq] at H
             obtain ⟨rfl⟩ := H
             have p195 : 0 ≤ (x19_2 : Int) := of_decide_eq_true (by first | (with_reducible assumption) | assumption)
             have q195 : x19_2 < (l1.length : Int) := of_decide_eq_true (by first | (with_reducible assumption) | assumption)
             obtain ⟨ad195, e195, hx195_0, hx195_1⟩ := at_T59 HR1.out x19_2 p195 q195
             cases e195
             replace hx195_0 := (HB.out.cell (World.block_lt_of_cell? w _ hx195_0)).trans hx195_0
             replace hx195_1 := (HB.out.cell (World.block_lt_of_cell? w _ hx195_1)).trans hx195_1
             replace p195 := eq_true p195
             replace q195 := eq_true q195
             try go_wp2_with (first | ((with_reducible refine gate_dst (N := 6) rfl ?_); (try (refine gate_guard (by rfl) ?_; dsimp only)); refine box_ 6 #[.int .i64 0, .int .i64 0] 59 ?_; intro gb196 hg w48 hbox hb; have BK196 := Aside0.mk (hbox); have GW196 := ge_ HB hg; have GE196 := GW196; replace HB := hh HB hb; clear hb hbox hg; obtain ⟨z49a, z49b, y49a, y49b⟩ := c2_ BK196))
             have n0_ : Aside0 (((w48.setCell ⟨gb196, 0, none⟩ (.int .i64 ((rd_T59 l1 x19_2).f0))).setCell ⟨gb196, 1, none⟩ (.int .i64 ((rd_T59 l1 x19_2).f1))).heap[gb196]? = some (.cells #[.int .i64 ((rd_T59 l1 x19_2).f0), .int .i64 ((rd_T59 l1 x19_2).f1)] 59 (0, 0))) := ⟨by refine pf_ ?_; refine blk_put (cs := #[.int .i64 ((rd_T59 l1 x19_2).f0), .int .i64 0]) ?_ 1 _ rfl; refine pf_ ?_; refine blk_put (cs := #[.int .i64 0, .int .i64 0]) ?_ 0 _ rfl; exact pk BK196⟩
             have n1_ : Aside0 (Below w.heap.size w ((w48.setCell ⟨gb196, 0, none⟩ (.int .i64 ((rd_T59 l1 x19_2).f0))).setCell ⟨gb196, 1, none⟩ (.int .i64 ((rd_T59 l1 x19_2).f1)))) := ⟨by repeat (first | (with_reducible first | exact HB.out | apply below_alloc | apply pw_below_drewN | apply below_drew1 | refine below_set ?_ GE196.out) | exact HB.out)⟩
             (try clear BK196)
             (try clear HB)
             generalize ((w48.setCell ⟨gb196, 0, none⟩ (.int .i64 ((rd_T59 l1 x19_2).f0))).setCell ⟨gb196, 1, none⟩ (.int .i64 ((rd_T59 l1 x19_2).f1))) = w50 at n0_ n1_ ⊢
             have BK196 := n0_
             have HB := n1_
             clear n0_ n1_
             replace BK196 := Aside0.mk (blk_drew BK196.out)
             replace HB := Aside0.mk (below_drew1 HB.out)
             refine start_ (n := 25) (S := fun w' => w'.cell? ⟨gb196, 0, none⟩ = some (.int .i64 ((rd_T59 l1 x19_2).f0)) ∧ w'.cell? ⟨gb196, 1, none⟩ = some (.int .i64 ((rd_T59 l1 x19_2).f1))) (ds := []) (bT 0 25) (by kernel_rfl) rfl rfl ⟨(blk_cell BK196.out 0).trans rfl, (blk_cell BK196.out 1).trans rfl⟩ (fun hHeld => ?_); refine with_tabW impl_IsCut.tab6 impl_IsCut.bits6 (fun HT_ HW_ => ?_)
             generalize w50.drew = w51 at BK196 HB hHeld ⊢
             refine pu_ HT_ 0 (some 24) (bT 1 25) ?_
             refine take_ (i := 1) (N := some 25) (v := ?_) (a' := ?_) (bT 2 25) rfl rfl (take_ofW HT_.out HW_.out (by kernel_rfl)) (fun _ _ _ h => h) (Or.inl ⟨by rfl, ?_⟩) hHeld ?_ ?_
             rotate_left
             ·rintro w' ⟨s0, s1⟩
              go_simp
              with_reducible rfl
             rotate_left
             ·simp only [Act.put, List.setIfInBounds_toArray, List.set_cons_zero, List.set_cons_succ, i64_w, i32_w]
              rfl
             refine one_ (i := 2) (N := some 26) (bT 3 25) rfl rfl (one_of HT_.out (by kernel_rfl)) (by decide) (fun K hK => ?_)
             refine goes_ Try.func74 (by kernel_rfl) rfl #[.int .i64 a0, .agg #[.int .i64 ((rd_T59 l1 x19_2).f0), .int .i64 ((rd_T59 l1 x19_2).f1)]] (by rfl) rfl rfl (by (try simp only [List.map_toArray, List.map_cons, List.map_nil]); first | done | rfl | (simp only [List.length_drop, List.length_take]; rfl)) ?_
             with_reducible refine (impl_isDiagonal.calls a0 ((rd_T59 l1 x19_2).f0) ((rd_T59 l1 x19_2).f1) true _ A10.out).mono ?_
             rintro e w52 ⟨rfl, hb⟩
             refine ⟨_, rfl, ?_⟩
             replace BK196 := bb BK196 hb
             replace HB := hh HB hb
             (try clear hb);(try clear hb2);(try clear hk);(try clear hi)
             have q53 : (x19_2 : Int) ≤ ((l1.length : Int) : Int) := of_decide_eq_true (by first | (with_reducible assumption) | assumption)
             obtain ⟨i053, hi053, _, hsz53, _⟩ := info_parts info59
             have hroom53 : l1.length ≤ c1 := HC1.out
             have hC53 : Kd.C k59 _ (some ad195) l1.length l1 := HR1.out
             have hcut53 := cut_to (P := Try.prog) 27 59 .i64 Try.underlying27 hi053 (some ad195) l1.length c1 x19_2 (of_decide_eq_true (by first | (with_reducible assumption) | assumption)) q53 hroom53
             have hr53 := Kd.C_take (m := (x19_2 : Int).toNat) hC53 (by omega)
             have hy53 : y205.length = (x19_2 : Int).toNat := (by rw [Ny205.out, List.length_take]; omega)
             rw [← Ny205.out] at hr53
             rw [← hy53] at hcut53
             have HR208 := Aside0.mk hr53
             have HC208 := Aside0.mk (show y205.length ≤ c1 from by omega)
             clear hr53 hC53 hroom53 hi053 hsz53
             have KY53 := Aside0.mk hy53
             clear hy53
             replace q53 := eq_true q53
             refine hK.out _ _ ⟨(blk_cell BK196.out 0).trans rfl, (blk_cell BK196.out 1).trans rfl⟩ (fun hHeld => ?_)
             clear hK K
             refine norm_ (a' := ?_) ?_ ?_
             rotate_left
             ·show Act.put _ (some 26) _ = _
              simp only [Act.put, List.setIfInBounds_toArray, List.set_cons_zero, List.set_cons_succ, i64_w, i32_w]
              rfl
             refine pu_ HT_ 3 (some 27) (bT 4 25) ?_
             refine pu_ HT_ 4 (some 28) (bT 5 25) ?_
             refine pu_ HT_ 5 (some 29) (bT 6 25) ?_
             refine pu_ HT_ 6 (some 30) (bT 7 25) ?_
             refine pu_ HT_ 7 (some 31) (bT 8 25) ?_
             refine pure_ (i := 8) (N := some 32) (v := undef) (a' := ?_) (bT 9 25) rfl rfl (any_of HT_.out (by kernel_rfl)) (fun _ _ _ h => h) (Or.inr ⟨by rfl, rfl⟩) ?_ ?_
             rotate_left
             ·simp only [Act.put, List.setIfInBounds_toArray, List.set_cons_zero, List.set_cons_succ, i64_w, i32_w]
              rfl
             refine pure_ (i := 9) (N := some 33) (v := undef) (a' := ?_) (bT 10 25) rfl rfl (any_of HT_.out (by kernel_rfl)) (fun _ _ _ h => h) (Or.inr ⟨by rfl, rfl⟩) ?_ ?_
             rotate_left
             ·simp only [Act.put, List.setIfInBounds_toArray, List.set_cons_zero, List.set_cons_succ, i64_w, i32_w]
              rfl
             refine pure_ (i := 10) (N := some 34) (v := undef) (a' := ?_) (bT 11 25) rfl rfl (any_of HT_.out (by kernel_rfl)) (fun _ _ _ h => h) (Or.inr ⟨by rfl, rfl⟩) ?_ ?_
             rotate_left
             ·simp only [Act.put, List.setIfInBounds_toArray, List.set_cons_zero, List.set_cons_succ, i64_w, i32_w]
              rfl
             refine pure_ (i := 11) (N := some 35) (v := undef) (a' := ?_) (bT 12 25) rfl rfl (any_of HT_.out (by kernel_rfl)) (fun _ _ _ h => h) (Or.inr ⟨by rfl, rfl⟩) ?_ ?_
             rotate_left
             ·simp only [Act.put, List.setIfInBounds_toArray, List.set_cons_zero, List.set_cons_succ, i64_w, i32_w]
              rfl
             refine pure_ (i := 12) (N := some 36) (v := undef) (a' := ?_) (bT 13 25) rfl rfl (any_of HT_.out (by kernel_rfl)) (fun _ _ _ h => h) (Or.inr ⟨by rfl, rfl⟩) ?_ ?_
             rotate_left
             ·simp only [Act.put, List.setIfInBounds_toArray, List.set_cons_zero, List.set_cons_succ, i64_w, i32_w]
              rfl
             refine pure_ (i := 13) (N := some 37) (v := undef) (a' := ?_) (bT 14 25) rfl rfl (any_of HT_.out (by kernel_rfl)) (fun _ _ _ h => h) (Or.inr ⟨by rfl, rfl⟩) ?_ ?_
             rotate_left
             ·simp only [Act.put, List.setIfInBounds_toArray, List.set_cons_zero, List.set_cons_succ, i64_w, i32_w]
              rfl
             refine pure_ (i := 14) (N := some 38) (v := undef) (a' := ?_) (bT 15 25) rfl rfl (any_of HT_.out (by kernel_rfl)) (fun _ _ _ h => h) (Or.inr ⟨by rfl, rfl⟩) ?_ ?_
             rotate_left
             ·simp only [Act.put, List.setIfInBounds_toArray, List.set_cons_zero, List.set_cons_succ, i64_w, i32_w]
              rfl
             refine pure_ (i := 15) (N := some 39) (v := undef) (a' := ?_) (bT 16 25) rfl rfl (any_of HT_.out (by kernel_rfl)) (fun _ _ _ h => h) (Or.inr ⟨by rfl, rfl⟩) ?_ ?_
             rotate_left
             ·simp only [Act.put, List.setIfInBounds_toArray, List.set_cons_zero, List.set_cons_succ, i64_w, i32_w]
              rfl
             refine pu_ HT_ 16 (some 40) (bT 17 25) ?_
             refine pu_ HT_ 17 (some 41) (bT 18 25) ?_
             refine pu_ HT_ 18 (some 42) (bT 19 25) ?_
             refine pu_ HT_ 19 (some 43) (bT 20 25) ?_
             refine pu_ HT_ 20 (some 44) (bT 21 25) ?_
             refine pu_ HT_ 21 (some 45) (bT 22 25) ?_
             refine take_ (i := 22) (N := some 46) (v := ?_) (a' := ?_) (bT 23 25) rfl rfl (take_ofW HT_.out HW_.out (by kernel_rfl)) (fun _ _ _ h => h) (Or.inl ⟨by rfl, ?_⟩) hHeld ?_ ?_
             rotate_left
             ·rintro w' ⟨s0, s1⟩
              go_simp
              with_reducible rfl
             rotate_left
             ·simp only [Act.put, List.setIfInBounds_toArray, List.set_cons_zero, List.set_cons_succ, i64_w, i32_w]
              rfl
             refine one_ (i := 23) (N := some 47) (bT 24 25) rfl rfl (one_of HT_.out (by kernel_rfl)) (by decide) (fun K hK => ?_)
             refine goes_ Try.func76 (by kernel_rfl) rfl #[.slice (some ad195) y205.length c1, .agg #[.int .i64 ((rd_T59 l1 x19_2).f0), .int .i64 ((rd_T59 l1 x19_2).f1)]] (by rfl) rfl rfl (by (try simp only [List.map_toArray, List.map_cons, List.map_nil]); first | done | rfl | (simp only [List.length_drop, List.length_take]; rfl)) ?_
             with_reducible refine (impl_crosses.calls _ _ y205 ((rd_T59 l1 x19_2).f0) ((rd_T59 l1 x19_2).f1) true _ ?side1 ?side2 A46.out).mono ?_
             (case side1 => repeat (first | exact (Kd.C_below HR208.out HB.out) | (with_reducible refine Kd.C_alloc ?_ _) | (with_reducible refine Kd.C_drewN ?_ _) | (with_reducible refine Kd.C_drew ?_)))
             (case side2 => exact HC208.out)
             rintro e w54 ⟨rfl, hb⟩
             refine ⟨_, rfl, ?_⟩
             replace BK196 := bb BK196 hb
             replace HB := hh HB hb
             (try clear hb);(try clear hb2);(try clear hk);(try clear hi)
             refine hK.out _ _ ⟨(blk_cell BK196.out 0).trans rfl, (blk_cell BK196.out 1).trans rfl⟩ (fun hHeld => ?_)
             clear hK K
             refine norm_ (a' := ?_) ?_ ?_
             rotate_left
             ·show Act.put _ (some 47) _ = _
              simp only [Act.put, List.setIfInBounds_toArray, List.set_cons_zero, List.set_cons_succ, i64_w, i32_w]
              rfl
             refine pu_ HT_ 24 (some 48) (bT 25 25) ?_
             refine done_ (done_of HT_.out (by kernel_rfl)) ?_
             try go_wp2
             go_ret
             exact ⟨eqr, hk HB⟩
            ·replace c47 := Bool.eq_false_iff.mpr c47
             subst c47
             rw [if_neg (show ¬ (false = true) by decide)] at H
             have H' := Aside0.mk H
             clear H
             have p195 : 0 ≤ (x19_2 : Int) := of_decide_eq_true (by first | (with_reducible assumption) | assumption)
             have q195 : x19_2 < (l1.length : Int) := of_decide_eq_true (by first | (with_reducible assumption) | assumption)
             obtain ⟨ad195, e195, hx195_0, hx195_1⟩ := at_T59 HR1.out x19_2 p195 q195
             cases e195
             replace hx195_0 := (HB.out.cell (World.block_lt_of_cell? w _ hx195_0)).trans hx195_0
             replace hx195_1 := (HB.out.cell (World.block_lt_of_cell? w _ hx195_1)).trans hx195_1
             replace p195 := eq_true p195
             replace q195 := eq_true q195
             try go_wp2_with (first | ((with_reducible refine gate_dst (N := 6) rfl ?_); (try (refine gate_guard (by rfl) ?_; dsimp only)); refine box_ 6 #[.int .i64 0, .int .i64 0] 59 ?_; intro gb196 hg w55 hbox hb; have BK196 := Aside0.mk (hbox); have GW196 := ge_ HB hg; have GE196 := GW196; replace HB := hh HB hb; clear hb hbox hg; obtain ⟨z56a, z56b, y56a, y56b⟩ := c2_ BK196))
             have n0_ : Aside0 (((w55.setCell ⟨gb196, 0, none⟩ (.int .i64 ((rd_T59 l1 x19_2).f0))).setCell ⟨gb196, 1, none⟩ (.int .i64 ((rd_T59 l1 x19_2).f1))).heap[gb196]? = some (.cells #[.int .i64 ((rd_T59 l1 x19_2).f0), .int .i64 ((rd_T59 l1 x19_2).f1)] 59 (0, 0))) := ⟨by refine pf_ ?_; refine blk_put (cs := #[.int .i64 ((rd_T59 l1 x19_2).f0), .int .i64 0]) ?_ 1 _ rfl; refine pf_ ?_; refine blk_put (cs := #[.int .i64 0, .int .i64 0]) ?_ 0 _ rfl; exact pk BK196⟩
             have n1_ : Aside0 (Below w.heap.size w ((w55.setCell ⟨gb196, 0, none⟩ (.int .i64 ((rd_T59 l1 x19_2).f0))).setCell ⟨gb196, 1, none⟩ (.int .i64 ((rd_T59 l1 x19_2).f1)))) := ⟨by repeat (first | (with_reducible first | exact HB.out | apply below_alloc | apply pw_below_drewN | apply below_drew1 | refine below_set ?_ GE196.out) | exact HB.out)⟩
             (try clear BK196)
             (try clear HB)
             generalize ((w55.setCell ⟨gb196, 0, none⟩ (.int .i64 ((rd_T59 l1 x19_2).f0))).setCell ⟨gb196, 1, none⟩ (.int .i64 ((rd_T59 l1 x19_2).f1))) = w57 at n0_ n1_ ⊢
             have BK196 := n0_
             have HB := n1_
             clear n0_ n1_
             replace BK196 := Aside0.mk (blk_drew BK196.out)
             replace HB := Aside0.mk (below_drew1 HB.out)
             refine start_ (n := 25) (S := fun w' => w'.cell? ⟨gb196, 0, none⟩ = some (.int .i64 ((rd_T59 l1 x19_2).f0)) ∧ w'.cell? ⟨gb196, 1, none⟩ = some (.int .i64 ((rd_T59 l1 x19_2).f1))) (ds := []) (bT 0 25) (by kernel_rfl) rfl rfl ⟨(blk_cell BK196.out 0).trans rfl, (blk_cell BK196.out 1).trans rfl⟩ (fun hHeld => ?_); refine with_tabW impl_IsCut.tab6 impl_IsCut.bits6 (fun HT_ HW_ => ?_)
             generalize w57.drew = w58 at BK196 HB hHeld ⊢
             refine pu_ HT_ 0 (some 24) (bT 1 25) ?_
             refine take_ (i := 1) (N := some 25) (v := ?_) (a' := ?_) (bT 2 25) rfl rfl (take_ofW HT_.out HW_.out (by kernel_rfl)) (fun _ _ _ h => h) (Or.inl ⟨by rfl, ?_⟩) hHeld ?_ ?_
             rotate_left
             ·rintro w' ⟨s0, s1⟩
              go_simp
              with_reducible rfl
             rotate_left
             ·simp only [Act.put, List.setIfInBounds_toArray, List.set_cons_zero, List.set_cons_succ, i64_w, i32_w]
              rfl
             refine one_ (i := 2) (N := some 26) (bT 3 25) rfl rfl (one_of HT_.out (by kernel_rfl)) (by decide) (fun K hK => ?_)
             refine goes_ Try.func74 (by kernel_rfl) rfl #[.int .i64 a0, .agg #[.int .i64 ((rd_T59 l1 x19_2).f0), .int .i64 ((rd_T59 l1 x19_2).f1)]] (by rfl) rfl rfl (by (try simp only [List.map_toArray, List.map_cons, List.map_nil]); first | done | rfl | (simp only [List.length_drop, List.length_take]; rfl)) ?_
             with_reducible refine (impl_isDiagonal.calls a0 ((rd_T59 l1 x19_2).f0) ((rd_T59 l1 x19_2).f1) true _ A10.out).mono ?_
             rintro e w59 ⟨rfl, hb⟩
             refine ⟨_, rfl, ?_⟩
             replace BK196 := bb BK196 hb
             replace HB := hh HB hb
             (try clear hb);(try clear hb2);(try clear hk);(try clear hi)
             have q60 : (x19_2 : Int) ≤ ((l1.length : Int) : Int) := of_decide_eq_true (by first | (with_reducible assumption) | assumption)
             obtain ⟨i060, hi060, _, hsz60, _⟩ := info_parts info59
             have hroom60 : l1.length ≤ c1 := HC1.out
             have hC60 : Kd.C k59 _ (some ad195) l1.length l1 := HR1.out
             have hcut60 := cut_to (P := Try.prog) 27 59 .i64 Try.underlying27 hi060 (some ad195) l1.length c1 x19_2 (of_decide_eq_true (by first | (with_reducible assumption) | assumption)) q60 hroom60
             have hr60 := Kd.C_take (m := (x19_2 : Int).toNat) hC60 (by omega)
             have hy60 : y205.length = (x19_2 : Int).toNat := (by rw [Ny205.out, List.length_take]; omega)
             rw [← Ny205.out] at hr60
             rw [← hy60] at hcut60
             have HR208 := Aside0.mk hr60
             have HC208 := Aside0.mk (show y205.length ≤ c1 from by omega)
             clear hr60 hC60 hroom60 hi060 hsz60
             have KY60 := Aside0.mk hy60
             clear hy60
             replace q60 := eq_true q60
             refine hK.out _ _ ⟨(blk_cell BK196.out 0).trans rfl, (blk_cell BK196.out 1).trans rfl⟩ (fun hHeld => ?_)
             clear hK K
             refine norm_ (a' := ?_) ?_ ?_
             rotate_left
             ·show Act.put _ (some 26) _ = _
              simp only [Act.put, List.setIfInBounds_toArray, List.set_cons_zero, List.set_cons_succ, i64_w, i32_w]
              rfl
             refine pu_ HT_ 3 (some 27) (bT 4 25) ?_
             refine pu_ HT_ 4 (some 28) (bT 5 25) ?_
             refine pu_ HT_ 5 (some 29) (bT 6 25) ?_
             refine pu_ HT_ 6 (some 30) (bT 7 25) ?_
             refine pu_ HT_ 7 (some 31) (bT 8 25) ?_
             refine pure_ (i := 8) (N := some 32) (v := undef) (a' := ?_) (bT 9 25) rfl rfl (any_of HT_.out (by kernel_rfl)) (fun _ _ _ h => h) (Or.inr ⟨by rfl, rfl⟩) ?_ ?_
             rotate_left
             ·simp only [Act.put, List.setIfInBounds_toArray, List.set_cons_zero, List.set_cons_succ, i64_w, i32_w]
              rfl
             refine pure_ (i := 9) (N := some 33) (v := undef) (a' := ?_) (bT 10 25) rfl rfl (any_of HT_.out (by kernel_rfl)) (fun _ _ _ h => h) (Or.inr ⟨by rfl, rfl⟩) ?_ ?_
             rotate_left
             ·simp only [Act.put, List.setIfInBounds_toArray, List.set_cons_zero, List.set_cons_succ, i64_w, i32_w]
              rfl
             refine pure_ (i := 10) (N := some 34) (v := undef) (a' := ?_) (bT 11 25) rfl rfl (any_of HT_.out (by kernel_rfl)) (fun _ _ _ h => h) (Or.inr ⟨by rfl, rfl⟩) ?_ ?_
             rotate_left
             ·simp only [Act.put, List.setIfInBounds_toArray, List.set_cons_zero, List.set_cons_succ, i64_w, i32_w]
              rfl
             refine pure_ (i := 11) (N := some 35) (v := undef) (a' := ?_) (bT 12 25) rfl rfl (any_of HT_.out (by kernel_rfl)) (fun _ _ _ h => h) (Or.inr ⟨by rfl, rfl⟩) ?_ ?_
             rotate_left
             ·simp only [Act.put, List.setIfInBounds_toArray, List.set_cons_zero, List.set_cons_succ, i64_w, i32_w]
              rfl
             refine pure_ (i := 12) (N := some 36) (v := undef) (a' := ?_) (bT 13 25) rfl rfl (any_of HT_.out (by kernel_rfl)) (fun _ _ _ h => h) (Or.inr ⟨by rfl, rfl⟩) ?_ ?_
             rotate_left
             ·simp only [Act.put, List.setIfInBounds_toArray, List.set_cons_zero, List.set_cons_succ, i64_w, i32_w]
              rfl
             refine pure_ (i := 13) (N := some 37) (v := undef) (a' := ?_) (bT 14 25) rfl rfl (any_of HT_.out (by kernel_rfl)) (fun _ _ _ h => h) (Or.inr ⟨by rfl, rfl⟩) ?_ ?_
             rotate_left
             ·simp only [Act.put, List.setIfInBounds_toArray, List.set_cons_zero, List.set_cons_succ, i64_w, i32_w]
              rfl
             refine pure_ (i := 14) (N := some 38) (v := undef) (a' := ?_) (bT 15 25) rfl rfl (any_of HT_.out (by kernel_rfl)) (fun _ _ _ h => h) (Or.inr ⟨by rfl, rfl⟩) ?_ ?_
             rotate_left
             ·simp only [Act.put, List.setIfInBounds_toArray, List.set_cons_zero, List.set_cons_succ, i64_w, i32_w]
              rfl
             refine pure_ (i := 15) (N := some 39) (v := undef) (a' := ?_) (bT 16 25) rfl rfl (any_of HT_.out (by kernel_rfl)) (fun _ _ _ h => h) (Or.inr ⟨by rfl, rfl⟩) ?_ ?_
             rotate_left
             ·simp only [Act.put, List.setIfInBounds_toArray, List.set_cons_zero, List.set_cons_succ, i64_w, i32_w]
              rfl
             refine pu_ HT_ 16 (some 40) (bT 17 25) ?_
             refine pu_ HT_ 17 (some 41) (bT 18 25) ?_
             refine pu_ HT_ 18 (some 42) (bT 19 25) ?_
             refine pu_ HT_ 19 (some 43) (bT 20 25) ?_
             refine pu_ HT_ 20 (some 44) (bT 21 25) ?_
             refine pu_ HT_ 21 (some 45) (bT 22 25) ?_
             refine take_ (i := 22) (N := some 46) (v := ?_) (a' := ?_) (bT 23 25) rfl rfl (take_ofW HT_.out HW_.out (by kernel_rfl)) (fun _ _ _ h => h) (Or.inl ⟨by rfl, ?_⟩) hHeld ?_ ?_
             rotate_left
             ·rintro w' ⟨s0, s1⟩
              go_simp
              with_reducible rfl
             rotate_left
             ·simp only [Act.put, List.setIfInBounds_toArray, List.set_cons_zero, List.set_cons_succ, i64_w, i32_w]
              rfl
             refine one_ (i := 23) (N := some 47) (bT 24 25) rfl rfl (one_of HT_.out (by kernel_rfl)) (by decide) (fun K hK => ?_)
             refine goes_ Try.func76 (by kernel_rfl) rfl #[.slice (some ad195) y205.length c1, .agg #[.int .i64 ((rd_T59 l1 x19_2).f0), .int .i64 ((rd_T59 l1 x19_2).f1)]] (by rfl) rfl rfl (by (try simp only [List.map_toArray, List.map_cons, List.map_nil]); first | done | rfl | (simp only [List.length_drop, List.length_take]; rfl)) ?_
             with_reducible refine (impl_crosses.calls _ _ y205 ((rd_T59 l1 x19_2).f0) ((rd_T59 l1 x19_2).f1) false _ ?side1 ?side2 A46.out).mono ?_
             (case side1 => repeat (first | exact (Kd.C_below HR208.out HB.out) | (with_reducible refine Kd.C_alloc ?_ _) | (with_reducible refine Kd.C_drewN ?_ _) | (with_reducible refine Kd.C_drew ?_)))
             (case side2 => exact HC208.out)
             rintro e w61 ⟨rfl, hb⟩
             refine ⟨_, rfl, ?_⟩
             replace BK196 := bb BK196 hb
             replace HB := hh HB hb
             (try clear hb);(try clear hb2);(try clear hk);(try clear hi)
             refine hK.out _ _ ⟨(blk_cell BK196.out 0).trans rfl, (blk_cell BK196.out 1).trans rfl⟩ (fun hHeld => ?_)
             clear hK K
             refine norm_ (a' := ?_) ?_ ?_
             rotate_left
             ·show Act.put _ (some 47) _ = _
              simp only [Act.put, List.setIfInBounds_toArray, List.set_cons_zero, List.set_cons_succ, i64_w, i32_w]
              rfl
             refine pu_ HT_ 24 (some 48) (bT 25 25) ?_
             refine done_ (done_of HT_.out (by kernel_rfl)) ?_
             try go_wp2
             go_roundg k2
             case measure => have := HJ2.out; have := HK2.out; omega
             case rel => exact ⟨(wrap64 (x19_2 + 1)), (by first | rfl | (simp; done) | (simp [*]; done)), H', ⟨by have := HJ2.out; have := HK2.out; omega⟩, ⟨by repeat (first | (with_reducible first | exact HB.out | apply below_alloc | apply pw_below_drewN | apply below_drew1 | refine below_set ?_ GE196.out) | exact HB.out)⟩⟩
           ·rw [if_neg c45] at H
            exact absurd H (by simp)
         ·replace c11 := Bool.eq_false_iff.mpr c11
          subst c11
          rw [if_neg (show ¬ (false = true) by decide)] at H
          obtain rfl := Option.some.inj H
          simp only [Option.some.injEq, Prod.mk.injEq] at H
          obtain ⟨rfl⟩ := H
          have p195 : 0 ≤ (x19_2 : Int) := of_decide_eq_true (by first | (with_reducible assumption) | assumption)
          have q195 : x19_2 < (l1.length : Int) := of_decide_eq_true (by first | (with_reducible assumption) | assumption)
          obtain ⟨ad195, e195, hx195_0, hx195_1⟩ := at_T59 HR1.out x19_2 p195 q195
          cases e195
          replace hx195_0 := (HB.out.cell (World.block_lt_of_cell? w _ hx195_0)).trans hx195_0
          replace hx195_1 := (HB.out.cell (World.block_lt_of_cell? w _ hx195_1)).trans hx195_1
          replace p195 := eq_true p195
          replace q195 := eq_true q195
          try go_wp2_with (first | ((with_reducible refine gate_dst (N := 6) rfl ?_); (try (refine gate_guard (by rfl) ?_; dsimp only)); refine box_ 6 #[.int .i64 0, .int .i64 0] 59 ?_; intro gb196 hg w62 hbox hb; have BK196 := Aside0.mk (hbox); have GW196 := ge_ HB hg; have GE196 := GW196; replace HB := hh HB hb; clear hb hbox hg; obtain ⟨z63a, z63b, y63a, y63b⟩ := c2_ BK196))
          have n0_ : Aside0 (((w62.setCell ⟨gb196, 0, none⟩ (.int .i64 ((rd_T59 l1 x19_2).f0))).setCell ⟨gb196, 1, none⟩ (.int .i64 ((rd_T59 l1 x19_2).f1))).heap[gb196]? = some (.cells #[.int .i64 ((rd_T59 l1 x19_2).f0), .int .i64 ((rd_T59 l1 x19_2).f1)] 59 (0, 0))) := ⟨by refine pf_ ?_; refine blk_put (cs := #[.int .i64 ((rd_T59 l1 x19_2).f0), .int .i64 0]) ?_ 1 _ rfl; refine pf_ ?_; refine blk_put (cs := #[.int .i64 0, .int .i64 0]) ?_ 0 _ rfl; exact pk BK196⟩
          have n1_ : Aside0 (Below w.heap.size w ((w62.setCell ⟨gb196, 0, none⟩ (.int .i64 ((rd_T59 l1 x19_2).f0))).setCell ⟨gb196, 1, none⟩ (.int .i64 ((rd_T59 l1 x19_2).f1)))) := ⟨by repeat (first | (with_reducible first | exact HB.out | apply below_alloc | apply pw_below_drewN | apply below_drew1 | refine below_set ?_ GE196.out) | exact HB.out)⟩
          (try clear BK196)
          (try clear HB)
          generalize ((w62.setCell ⟨gb196, 0, none⟩ (.int .i64 ((rd_T59 l1 x19_2).f0))).setCell ⟨gb196, 1, none⟩ (.int .i64 ((rd_T59 l1 x19_2).f1))) = w64 at n0_ n1_ ⊢
          have BK196 := n0_
          have HB := n1_
          clear n0_ n1_
          replace BK196 := Aside0.mk (blk_drew BK196.out)
          replace HB := Aside0.mk (below_drew1 HB.out)
          refine start_ (n := 25) (S := fun w' => w'.cell? ⟨gb196, 0, none⟩ = some (.int .i64 ((rd_T59 l1 x19_2).f0)) ∧ w'.cell? ⟨gb196, 1, none⟩ = some (.int .i64 ((rd_T59 l1 x19_2).f1))) (ds := []) (bT 0 25) (by kernel_rfl) rfl rfl ⟨(blk_cell BK196.out 0).trans rfl, (blk_cell BK196.out 1).trans rfl⟩ (fun hHeld => ?_); refine with_tabW impl_IsCut.tab6 impl_IsCut.bits6 (fun HT_ HW_ => ?_)
          generalize w64.drew = w65 at BK196 HB hHeld ⊢
          refine pu_ HT_ 0 (some 24) (bT 1 25) ?_
          refine take_ (i := 1) (N := some 25) (v := ?_) (a' := ?_) (bT 2 25) rfl rfl (take_ofW HT_.out HW_.out (by kernel_rfl)) (fun _ _ _ h => h) (Or.inl ⟨by rfl, ?_⟩) hHeld ?_ ?_
          rotate_left
          ·rintro w' ⟨s0, s1⟩
           go_simp
           with_reducible rfl
          rotate_left
          ·simp only [Act.put, List.setIfInBounds_toArray, List.set_cons_zero, List.set_cons_succ, i64_w, i32_w]
           rfl
          refine one_ (i := 2) (N := some 26) (bT 3 25) rfl rfl (one_of HT_.out (by kernel_rfl)) (by decide) (fun K hK => ?_)
          refine goes_ Try.func74 (by kernel_rfl) rfl #[.int .i64 a0, .agg #[.int .i64 ((rd_T59 l1 x19_2).f0), .int .i64 ((rd_T59 l1 x19_2).f1)]] (by rfl) rfl rfl (by (try simp only [List.map_toArray, List.map_cons, List.map_nil]); first | done | rfl | (simp only [List.length_drop, List.length_take]; rfl)) ?_
          with_reducible refine (impl_isDiagonal.calls a0 ((rd_T59 l1 x19_2).f0) ((rd_T59 l1 x19_2).f1) false _ A10.out).mono ?_
          rintro e w66 ⟨rfl, hb⟩
          refine ⟨_, rfl, ?_⟩
          replace BK196 := bb BK196 hb
          replace HB := hh HB hb
          (try clear hb);(try clear hb2);(try clear hk);(try clear hi)
          refine hK.out _ _ ⟨(blk_cell BK196.out 0).trans rfl, (blk_cell BK196.out 1).trans rfl⟩ (fun hHeld => ?_)
          clear hK K
          refine norm_ (a' := ?_) ?_ ?_
          rotate_left
          ·show Act.put _ (some 26) _ = _
           simp only [Act.put, List.setIfInBounds_toArray, List.set_cons_zero, List.set_cons_succ, i64_w, i32_w]
           rfl
          refine pu_ HT_ 3 (some 27) (bT 4 25) ?_
          refine pu_ HT_ 4 (some 28) (bT 5 25) ?_
          refine pure_ (i := 5) (N := some 29) (v := undef) (a' := ?_) (bT 6 25) rfl rfl (any_of HT_.out (by kernel_rfl)) (fun _ _ _ h => h) (Or.inr ⟨by rfl, rfl⟩) ?_ ?_
          rotate_left
          ·simp only [Act.put, List.setIfInBounds_toArray, List.set_cons_zero, List.set_cons_succ, i64_w, i32_w]
           rfl
          refine pure_ (i := 6) (N := some 30) (v := undef) (a' := ?_) (bT 7 25) rfl rfl (any_of HT_.out (by kernel_rfl)) (fun _ _ _ h => h) (Or.inr ⟨by rfl, rfl⟩) ?_ ?_
          rotate_left
          ·simp only [Act.put, List.setIfInBounds_toArray, List.set_cons_zero, List.set_cons_succ, i64_w, i32_w]
           rfl
          refine pure_ (i := 7) (N := some 31) (v := undef) (a' := ?_) (bT 8 25) rfl rfl (any_of HT_.out (by kernel_rfl)) (fun _ _ _ h => h) (Or.inr ⟨by rfl, rfl⟩) ?_ ?_
          rotate_left
          ·simp only [Act.put, List.setIfInBounds_toArray, List.set_cons_zero, List.set_cons_succ, i64_w, i32_w]
           rfl
          refine pure_ (i := 8) (N := some 32) (v := undef) (a' := ?_) (bT 9 25) rfl rfl (any_of HT_.out (by kernel_rfl)) (fun _ _ _ h => h) (Or.inr ⟨by rfl, rfl⟩) ?_ ?_
          rotate_left
          ·simp only [Act.put, List.setIfInBounds_toArray, List.set_cons_zero, List.set_cons_succ, i64_w, i32_w]
           rfl
          refine pure_ (i := 9) (N := some 33) (v := undef) (a' := ?_) (bT 10 25) rfl rfl (any_of HT_.out (by kernel_rfl)) (fun _ _ _ h => h) (Or.inr ⟨by rfl, rfl⟩) ?_ ?_
          rotate_left
          ·simp only [Act.put, List.setIfInBounds_toArray, List.set_cons_zero, List.set_cons_succ, i64_w, i32_w]
           rfl
          refine pure_ (i := 10) (N := some 34) (v := undef) (a' := ?_) (bT 11 25) rfl rfl (any_of HT_.out (by kernel_rfl)) (fun _ _ _ h => h) (Or.inr ⟨by rfl, rfl⟩) ?_ ?_
          rotate_left
          ·simp only [Act.put, List.setIfInBounds_toArray, List.set_cons_zero, List.set_cons_succ, i64_w, i32_w]
           rfl
          refine pure_ (i := 11) (N := some 35) (v := undef) (a' := ?_) (bT 12 25) rfl rfl (any_of HT_.out (by kernel_rfl)) (fun _ _ _ h => h) (Or.inr ⟨by rfl, rfl⟩) ?_ ?_
          rotate_left
          ·simp only [Act.put, List.setIfInBounds_toArray, List.set_cons_zero, List.set_cons_succ, i64_w, i32_w]
           rfl
          refine pure_ (i := 12) (N := some 36) (v := undef) (a' := ?_) (bT 13 25) rfl rfl (any_of HT_.out (by kernel_rfl)) (fun _ _ _ h => h) (Or.inr ⟨by rfl, rfl⟩) ?_ ?_
          rotate_left
          ·simp only [Act.put, List.setIfInBounds_toArray, List.set_cons_zero, List.set_cons_succ, i64_w, i32_w]
           rfl
          refine pure_ (i := 13) (N := some 37) (v := undef) (a' := ?_) (bT 14 25) rfl rfl (any_of HT_.out (by kernel_rfl)) (fun _ _ _ h => h) (Or.inr ⟨by rfl, rfl⟩) ?_ ?_
          rotate_left
          ·simp only [Act.put, List.setIfInBounds_toArray, List.set_cons_zero, List.set_cons_succ, i64_w, i32_w]
           rfl
          refine pure_ (i := 14) (N := some 38) (v := undef) (a' := ?_) (bT 15 25) rfl rfl (any_of HT_.out (by kernel_rfl)) (fun _ _ _ h => h) (Or.inr ⟨by rfl, rfl⟩) ?_ ?_
          rotate_left
          ·simp only [Act.put, List.setIfInBounds_toArray, List.set_cons_zero, List.set_cons_succ, i64_w, i32_w]
           rfl
          refine pure_ (i := 15) (N := some 39) (v := undef) (a' := ?_) (bT 16 25) rfl rfl (any_of HT_.out (by kernel_rfl)) (fun _ _ _ h => h) (Or.inr ⟨by rfl, rfl⟩) ?_ ?_
          rotate_left
          ·simp only [Act.put, List.setIfInBounds_toArray, List.set_cons_zero, List.set_cons_succ, i64_w, i32_w]
           rfl
          refine pure_ (i := 16) (N := some 40) (v := undef) (a' := ?_) (bT 17 25) rfl rfl (any_of HT_.out (by kernel_rfl)) (fun _ _ _ h => h) (Or.inr ⟨by rfl, rfl⟩) ?_ ?_
          rotate_left
          ·simp only [Act.put, List.setIfInBounds_toArray, List.set_cons_zero, List.set_cons_succ, i64_w, i32_w]
           rfl
          refine pu_ HT_ 17 (some 41) (bT 18 25) ?_
          refine pu_ HT_ 18 (some 42) (bT 19 25) ?_
          refine pure_ (i := 19) (N := some 43) (v := undef) (a' := ?_) (bT 20 25) rfl rfl (any_of HT_.out (by kernel_rfl)) (fun _ _ _ h => h) (Or.inr ⟨by rfl, rfl⟩) ?_ ?_
          rotate_left
          ·simp only [Act.put, List.setIfInBounds_toArray, List.set_cons_zero, List.set_cons_succ, i64_w, i32_w]
           rfl
          refine pure_ (i := 20) (N := some 44) (v := undef) (a' := ?_) (bT 21 25) rfl rfl (any_of HT_.out (by kernel_rfl)) (fun _ _ _ h => h) (Or.inr ⟨by rfl, rfl⟩) ?_ ?_
          rotate_left
          ·simp only [Act.put, List.setIfInBounds_toArray, List.set_cons_zero, List.set_cons_succ, i64_w, i32_w]
           rfl
          refine pure_ (i := 21) (N := some 45) (v := undef) (a' := ?_) (bT 22 25) rfl rfl (any_of HT_.out (by kernel_rfl)) (fun _ _ _ h => h) (Or.inr ⟨by rfl, rfl⟩) ?_ ?_
          rotate_left
          ·simp only [Act.put, List.setIfInBounds_toArray, List.set_cons_zero, List.set_cons_succ, i64_w, i32_w]
           rfl
          refine pure_ (i := 22) (N := some 46) (v := undef) (a' := ?_) (bT 23 25) rfl rfl (any_of HT_.out (by kernel_rfl)) (fun _ _ _ h => h) (Or.inr ⟨by rfl, rfl⟩) ?_ ?_
          rotate_left
          ·simp only [Act.put, List.setIfInBounds_toArray, List.set_cons_zero, List.set_cons_succ, i64_w, i32_w]
           rfl
          refine pure_ (i := 23) (N := some 47) (v := undef) (a' := ?_) (bT 24 25) rfl rfl (any_of HT_.out (by kernel_rfl)) (fun _ _ _ h => h) (Or.inr ⟨by rfl, rfl⟩) ?_ ?_
          rotate_left
          ·simp only [Act.put, List.setIfInBounds_toArray, List.set_cons_zero, List.set_cons_succ, i64_w, i32_w]
           rfl
          refine pu_ HT_ 24 (some 48) (bT 25 25) ?_
          refine done_ (done_of HT_.out (by kernel_rfl)) ?_
          try go_wp2
          go_ret
          exact ⟨eqr, hk HB⟩
        ·rw [if_neg c9] at H
         exact absurd H (by simp)
       ·rw [if_neg c8] at H
        exact absurd H (by simp)
      ·rw [if_neg c7] at H
       have c7b0 : decide (x19_2 < (l1.length : Int)) = false := decide_eq_false c7
       clear c7
       obtain rfl := Option.some.inj H
       simp only [Option.some.injEq, Prod.mk.injEq] at H
       obtain ⟨rfl⟩ := H
       go_wp2
       go_ret
       exact ⟨eqr, hk HB⟩

end Go.Proofs.Ytggocekjhohhcaa.P

-- By a program of this session.
namespace Go.Proofs.Ytggocekjhohhcaa.P
open Go.RowKit Go.Proofs.YtggocekjhohhcaaW.PrintWords Go.Proofs.YtggocekjhohhcaaW.PrintLast Go.Proofs.YtggocekjhohhcaaW.PrintMore
attribute [local go_sem] max2_int min2_int max_two min_two max_three min_three max_four min_four
set_option linter.unusedVariables false
set_option linter.unusedSimpArgs false

/-! ### laws_toDiagonal: function 41 -/
def laws_toDiagonal.f (a0_0 : Int) (a0_1 : Int) : Option (Int × Int) := some (a0_0, a0_1)
set_option maxHeartbeats 8000000 in
set_option maxRecDepth 100000 in
theorem laws_toDiagonal.calls (a0_0 : Int) (a0_1 : Int) (r1 : Int) (r2 : Int) (w : World) (h : laws_toDiagonal.f a0_0 a0_1 = some (r1, r2)) :
  Calls Try.prog 41 #[.agg #[.int .i64 a0_0, .int .i64 a0_1]] w fun e w' => e = .returned (.agg #[.int .i64 r1, .int .i64 r2]) ∧ Below w.heap.size w w' := by
 have hu61 := Try.underlying61
 have hu59 := Try.underlying59
 have HB := Aside0.mk (Below.refl w.heap.size w)
 have H : (some (a0_0, a0_1)) = some (r1, r2) := h
 clear h
 simp only [Option.some.injEq, Prod.mk.injEq] at H
 obtain ⟨rfl, rfl⟩ := H
 go_enter Try.func41, Try.ntmps41
 go_wp2_with (first | ((with_reducible refine gate_dst (N := 1) rfl ?_); refine box_ 1 #[.int .i64 a0_0, .int .i64 a0_1] 61 ?_; intro gb169 hg w2 hbox hb; have BK169 := Aside0.mk (hbox); have GW169 := ge_ HB hg; have GE169 := GW169; replace HB := hh HB hb; clear hb hbox hg) | ((with_reducible refine gate_dst (N := 2) rfl ?_); refine box_ 2 #[.int .i64 0, .int .i64 0] 59 ?_; intro gb170 hg w3 hbox hb; have BK170 := Aside0.mk (hbox); have GW170 := ge_ HB hg; have GE170 := GW170; obtain ⟨NB169_170, NB170_169⟩ := nb BK169 hg; replace BK169 := bb BK169 hb; replace HB := hh HB hb; clear hb hbox hg) | ((with_reducible refine gate_dst (N := 3) rfl ?_); refine box_ 3 #[.int .i64 0, .int .i64 0] 59 ?_; intro gb171 hg w4 hbox hb; have BK171 := Aside0.mk (hbox); have GW171 := ge_ HB hg; have GE171 := GW171; obtain ⟨NB169_171, NB171_169⟩ := nb BK169 hg; obtain ⟨NB170_171, NB171_170⟩ := nb BK170 hg; replace BK169 := bb BK169 hb; replace BK170 := bb BK170 hb; replace HB := hh HB hb; clear hb hbox hg; have hnb5 := NB169_170.out; have hnc5 := NB170_169.out; have hnb6 := NB169_171.out; have hnc6 := NB171_169.out; obtain ⟨z7a, z7b, y7a, y7b⟩ := c2_ BK169; have hnb8 := NB171_170.out; have hnc8 := NB170_171.out; obtain ⟨z9a, z9b, y9a, y9b⟩ := c2_ BK171; obtain ⟨z10a, z10b, y10a, y10b⟩ := c2_ BK170))
 refine bodyPost_ret (results_cell_row rfl _ _ gb170 59 #[.int .i64 a0_0, .int .i64 a0_1] (0, 0) _ rfl (by refine pf_ ?_; refine blk_put (cs := #[.int .i64 a0_0, .int .i64 0]) ?_ 1 _ rfl; refine pf_ ?_; refine blk_put (cs := #[.int .i64 0, .int .i64 0]) ?_ 0 _ rfl; refine ff_ ?_; exact pk BK170) Try.underlying59 rfl (by kernel_rfl)) rfl ?_
 exact ⟨eqr, hk HB⟩

end Go.Proofs.Ytggocekjhohhcaa.P

-- By a program of this session.
namespace Go.Proofs.Ytggocekjhohhcaa.P
open Go.RowKit Go.Proofs.YtggocekjhohhcaaW.PrintWords Go.Proofs.YtggocekjhohhcaaW.PrintLast Go.Proofs.YtggocekjhohhcaaW.PrintMore
attribute [local go_sem] max2_int min2_int max_two min_two max_three min_three max_four min_four
set_option linter.unusedVariables false
set_option linter.unusedSimpArgs false

/-! ### laws_toDiagonalS: function 12 -/
def laws_toDiagonalS.l0 : Nat → List (S61) → List (S59) → Int → Option ((List (S59)))
 | 0, _, _, _ => none
 | k + 1, x0, x3, x4 => if x4 < (x0.length : Int) then (if 0 ≤ x4 then ((laws_toDiagonal.f ((rd_T61 x0 x4).f0) ((rd_T61 x0 x4).f1)).bind fun bt176 => (if x4 < (x3.length : Int) then (laws_toDiagonalS.l0 k x0 (x3.set (x4 : Int).toNat (⟨bt176.1, bt176.2⟩ : S59)) (wrap64 (x4 + 1))) else (none))) else (none)) else (some x3)
def laws_toDiagonalS.f (k : Nat) (l0 : List (S61)) : Option ((List (S59))) := if 0 ≤ (l0.length : Int) then (if ((l0.length : Int) : Int).toNat ≤ 17592186044416 then (laws_toDiagonalS.l0 k l0 (List.replicate ((l0.length : Int) : Int).toNat z59) 0) else (none)) else (none)
theorem laws_toDiagonalS.mono_l : ∀ k, (∀ y0 y1 y2, LeO (laws_toDiagonalS.l0 k y0 y1 y2) (laws_toDiagonalS.l0 (k + 1) y0 y1 y2))
 | 0 => fun _ _ _ r h => by simp [laws_toDiagonalS.l0] at h
 | k + 1 => by
  have ih0 := laws_toDiagonalS.mono_l k
  ·intro y0 y1 y2
   unfold laws_toDiagonalS.l0
   repeat' first
   | (with_reducible exact ih0 _ _ _)
   | (with_reducible exact LeO.refl _)
   | (with_reducible exact LeO.none _)
   | (with_reducible refine LeO.ite ?_ ?_)
   | (with_reducible refine LeO.bind ?_ (fun _ => ?_))
   | apply ih0
   | apply LeO.none
   | refine LeO.ite ?_ ?_
   | refine LeO.bind ?_ (fun _ => ?_)
theorem laws_toDiagonalS.mono : ∀ a0 k, LeO (laws_toDiagonalS.f k a0) (laws_toDiagonalS.f (k + 1) a0) := by
 intro a0 k
 have ih0 := laws_toDiagonalS.mono_l k
 unfold laws_toDiagonalS.f
 repeat' first
   | (with_reducible exact ih0 _ _ _)
   | (with_reducible exact LeO.refl _)
   | (with_reducible exact LeO.none _)
   | (with_reducible refine LeO.ite ?_ ?_)
   | (with_reducible refine LeO.bind ?_ (fun _ => ?_))
   | apply ih0
   | apply LeO.none
   | refine LeO.ite ?_ ?_
   | refine LeO.bind ?_ (fun _ => ?_)
set_option maxHeartbeats 8000000 in
set_option maxRecDepth 100000 in
theorem laws_toDiagonalS.calls (k : Nat) (A0 : Option Addr) (c0 : Nat) (l0 : List (S61)) (r : List (S59)) (w : World) (hr0 : Kd.C k61 w A0 l0.length l0) (hc0 : l0.length ≤ c0) (h : laws_toDiagonalS.f k l0 = some r) :
  Calls Try.prog 12 #[.slice A0 l0.length c0] w fun e w' => ∃ v0_ : Value, e = .returned (v0_) ∧ Kd.R k59 59 w' w.heap.size (fun _ => True) v0_ r ∧ Below w.heap.size w w' := by
 have hu61 := Try.underlying61
 have hu59 := Try.underlying59
 have HR0 := Aside0.mk hr0
 have HC0 := Aside0.mk hc0
 clear hr0 hc0
 have HB := Aside0.mk (Below.refl w.heap.size w)
 have H := h
 clear h
 unfold laws_toDiagonalS.f at H
 by_cases c2 : 0 ≤ (l0.length : Int)
 ·rw [if_pos c2] at H
  have c2b0 := eq_true c2
  have c2b1 : decide (0 ≤ (l0.length : Int)) = true := decide_eq_true c2
  clear c2
  by_cases c3 : ((l0.length : Int) : Int).toNat ≤ 17592186044416
  ·rw [if_pos c3] at H
   have c3b0 := eq_true c3
   have c3b1 : decide (((l0.length : Int) : Int).toNat ≤ 17592186044416) = true := decide_eq_true c3
   clear c3
   obtain ⟨y172, hy172⟩ : ∃ y_ : List (S59), y_ = (List.replicate ((l0.length : Int) : Int).toNat z59) := ⟨_, rfl⟩
   replace H : (laws_toDiagonalS.l0 k l0 y172 0) = some r := by first | (rw [hy172]; with_reducible exact H) | (have H2_ := (Option.bind_some _ _).symm.trans H; rw [hy172]; with_reducible exact H2_) | (have H2_ := (Option.bind_some _ _).symm.trans H; with_reducible exact H2_) | with_reducible exact H | (rw [hy172]; exact H) | exact H
   have Ny172 := Aside0.mk hy172
   clear hy172
   have H' := Aside0.mk H
   clear H
   go_enter Try.func12, Try.ntmps12
   go_wp2_with (first | ((with_reducible refine gate_dst (N := 7) rfl ?_); refine Kd.R_make k59 _ 59 rfl (N := 7) rfl 27 _ _ rfl (l0.length : Int) rfl rfl Try.underlying27 (.agg #[(.int .i64 0), (.int .i64 0)]) 16 info59 rfl (by decide) (by omega) z59 (ok := fun _ => True) (okp := fun _ => True) (k59_mkM _ _ _ z59 ) (fun _ hk => hk) trivial (of_decide_eq_true (by first | (with_reducible assumption) | assumption)) (Nat.le_trans (Nat.mul_le_mul_right _ (of_decide_eq_true (by first | (with_reducible assumption) | assumption) : (l0.length : Int).toNat ≤ 17592186044416)) (by omega)) (Below.refl _ _) (Nat.le_refl _) ?_; intro v173 w4 ho5 hb hg_ hnew_; clear hg_ hnew_; (first | rw [← Ny172.out] at ho5 | (simp only [Int.reduceToNat] at ho5; rw [← Ny172.out] at ho5)); have HO174 := Aside0.mk (Kd.R_lower ho5 (below_size (hk HB))); replace HB := hh HB hb; clear hb ho5))
   go_loopg [4] k (fun kq v4 w' => ∃ (x3_1 : List (S59)) (x4_1 : Int), v4 = .int .i64 x4_1 ∧ Aside0 (laws_toDiagonalS.l0 kq l0 x3_1 x4_1 = some r) ∧ Aside0 (kq ≤ k) ∧ Aside0 (Kd.R k59 59 w' w.heap.size (fun _ => True) v173 x3_1) ∧ Aside0 (Below w.heap.size w w'))
   case atStart => exact ⟨(y172), (0), (by first | rfl | (simp; done) | (simp [*]; done)), H', ⟨Nat.le_refl _⟩, ⟨by (with_reducible repeat (first | apply Kd.R_alloc | apply Kd.R_drewN | apply Kd.R_drew)); exact HO174.out⟩, ⟨by repeat (first | (with_reducible first | exact HB.out | apply below_alloc | apply pw_below_drewN | apply below_drew1) | exact HB.out)⟩⟩
   case round =>
    clear H'
    (try clear c2);(try clear c2b0);(try clear c2b1);(try clear c3);(try clear c3b0);(try clear c3b1)
    obtain ⟨x3_1, x4_1, rfl, HA, HK1, HO_3, HB⟩ := hrel
    cases gk with
    | zero => exact absurd HA.out (by simp [laws_toDiagonalS.l0])
    | succ k1 =>
     have H := HA.out
     clear HA
     simp only [laws_toDiagonalS.l0] at H
     by_cases c6 : x4_1 < (l0.length : Int)
     ·rw [if_pos c6] at H
      have c6b0 : decide (x4_1 < (l0.length : Int)) = true := decide_eq_true c6
      clear c6
      by_cases c7 : 0 ≤ x4_1
      ·rw [if_pos c7] at H
       have c7b0 : decide (0 ≤ x4_1) = true := decide_eq_true c7
       clear c7
       replace H := Option.bind_eq_some_iff.mp H
       obtain ⟨⟨t176, t177⟩, A80, H⟩ := H
       try dsimp only at H
       have A8 := Aside0.mk A80
       clear A80
       by_cases c9 : x4_1 < (x3_1.length : Int)
       ·rw [if_pos c9] at H
        have c9b0 : decide (x4_1 < (x3_1.length : Int)) = true := decide_eq_true c9
        clear c9
        obtain ⟨y178, hy178⟩ : ∃ y_ : List (S59), y_ = (x3_1.set (x4_1 : Int).toNat (⟨t176, t177⟩ : S59)) := ⟨_, rfl⟩
        replace H : (laws_toDiagonalS.l0 k1 l0 y178 (wrap64 (x4_1 + 1))) = some r := by first | (rw [hy178]; with_reducible exact H) | (have H2_ := (Option.bind_some _ _).symm.trans H; rw [hy178]; with_reducible exact H2_) | (have H2_ := (Option.bind_some _ _).symm.trans H; with_reducible exact H2_) | with_reducible exact H | (rw [hy178]; exact H) | exact H
        have Ny178 := Aside0.mk hy178
        clear hy178
        have H' := Aside0.mk H
        clear H
        have p175 : 0 ≤ (x4_1 : Int) := of_decide_eq_true (by first | (with_reducible assumption) | assumption)
        have q175 : x4_1 < (l0.length : Int) := of_decide_eq_true (by first | (with_reducible assumption) | assumption)
        obtain ⟨ad175, e175, hx175_0, hx175_1⟩ := at_T61 HR0.out x4_1 p175 q175
        cases e175
        replace hx175_0 := (HB.out.cell (World.block_lt_of_cell? w _ hx175_0)).trans hx175_0
        replace hx175_1 := (HB.out.cell (World.block_lt_of_cell? w _ hx175_1)).trans hx175_1
        replace p175 := eq_true p175
        replace q175 := eq_true q175
        go_wp2_with (first | ((with_reducible refine gate_callee (f := 41) rfl ?_); refine gof_ (some 20) Try.func41 #[.agg #[.int .i64 ((rd_T61 l0 x4_1).f0), .int .i64 ((rd_T61 l0 x4_1).f1)]] ?_; (with_reducible refine (laws_toDiagonal.calls ((rd_T61 l0 x4_1).f0) ((rd_T61 l0 x4_1).f1) t176 t177 _ A8.out).mono ?_); rintro e w11 ⟨rfl, hb⟩; refine ⟨_, rfl, ?_⟩; replace HO_3 := Aside0.mk (Kd.R_below (by (with_reducible repeat (first | apply Kd.R_alloc | apply Kd.R_drewN | apply Kd.R_drew)); exact HO_3.out) hb); replace HB := hh HB hb; clear hb; have p10 : 0 ≤ (x4_1 : Int) := of_decide_eq_true (by first | (with_reducible assumption) | assumption); have q10 : (x4_1 : Int) < ((x3_1.length : Int) : Int) := of_decide_eq_true (by first | (with_reducible assumption) | assumption); obtain ⟨go10, co10, eo10, gb10, gl10, cl10, HG10⟩ := Kd.R_form HO_3.out (by omega); (first | cases eo10 | (injection eo10 with ea_ en_ ec_; (first | subst ea_ | (injection ea_ with ea_; subst ea_)); subst ec_; clear en_)); have GB10 := Aside0.mk gb10; have GG10 := Aside0.mk HG10; clear gb10 gl10 HG10; obtain ⟨ce10, hcl10, hM10, hcc10, hfr10⟩ := Kd.R_elem HO_3.out z59 (x4_1 : Int) p10 q10; obtain rfl := k59_openM hM10; have hx10_0 : w11.cell? ⟨go10, (x4_1 : Int).toNat * 2, none⟩ = some (.int .i64 ((rd_T59 x3_1 x4_1).f0)) := hcc10 0 _ rfl; have hx10_1 : w11.cell? ⟨go10, (x4_1 : Int).toNat * 2 + 1, none⟩ = some (.int .i64 ((rd_T59 x3_1 x4_1).f1)) := hcc10 1 _ rfl; have hf10_0 : w11.frozen? ⟨go10, (x4_1 : Int).toNat * 2, none⟩ = false := hfr10 0; have hf10_1 : w11.frozen? ⟨go10, (x4_1 : Int).toNat * 2 + 1, none⟩ = false := hfr10 1; clear hcl10 hcc10 hfr10 hM10; replace p10 := eq_true p10; replace q10 := eq_true q10; have HX12 := Aside0.mk (show Kd.R k59 59 w11 w.heap.size (fun _ => True) (.slice (some ⟨go10, 0, none⟩) x3_1.length co10) x3_1 from (by (with_reducible repeat (first | apply Kd.R_alloc | apply Kd.R_drewN | apply Kd.R_drew)); exact HO_3.out)); obtain ⟨ce12, hcl12, hM12, hcc12, hfr12⟩ := Kd.R_elem HX12.out z59 (x4_1 : Int) (of_decide_eq_true (by first | (with_reducible assumption) | assumption)) (by have h_ : (x4_1 : Int) < ((x3_1.length : Int) : Int) := of_decide_eq_true (by first | (with_reducible assumption) | assumption); first | exact h_ | (have e_ := (Kd.R_reads' HO_3.out).1; omega) | simpa using h_); obtain rfl := k59_openM hM12; have HP12 := Kd.R_seg HX12.out (x4_1 : Int) (of_decide_eq_true (by first | (with_reducible assumption) | assumption)) (by have h_ : (x4_1 : Int) < ((x3_1.length : Int) : Int) := of_decide_eq_true (by first | (with_reducible assumption) | assumption); first | exact h_ | (have e_ := (Kd.R_reads' HO_3.out).1; omega) | simpa using h_) (seg := [.int .i64 t176, .int .i64 t177]) (j := 0) hcl12 hcc12 (show 2 ≤ 2 from by decide) (x' := (⟨t176, t177⟩ : S59)) (k59_mkM _ _ _ (⟨t176, t177⟩ : S59) ) (fun _ hk => hk); have hx12_0 := hcc12 0 _ rfl; (try simp only [show (k59).sz = 2 from rfl, Nat.mul_one, Nat.add_zero] at hx12_0); have hf12_0 := hfr12 0; (try simp only [show (k59).sz = 2 from rfl, Nat.mul_one, Nat.add_zero] at hf12_0); have hx12_1 := hcc12 1 _ rfl; (try simp only [show (k59).sz = 2 from rfl, Nat.mul_one, Nat.add_zero] at hx12_1); have hf12_1 := hfr12 1; (try simp only [show (k59).sz = 2 from rfl, Nat.mul_one, Nat.add_zero] at hf12_1); clear hcl12 hcc12 hfr12 hM12) | ((with_reducible refine gate_store (t := 59) (p := 21) rfl ?_); refine store_event (t := 59) (p := 21) (v := ?vo_w13) (w1 := ((w11.setCell ⟨go10, (x4_1 : Int).toNat * 2, none⟩ (.int .i64 t176)).setCell ⟨go10, (x4_1 : Int).toNat * 2 + 1, none⟩ (.int .i64 t177))) ?hg ?ho ?hn ?hr ?_; (case ho => rfl); (case hg => rfl); (case hn => rfl); (case hr => first | (go_simp; done) | (go_simp; rfl)); intro w13 hw; have hg : w11.grownBy w13 (some go10) := (by rw [hw]; exact HP12.2); have hp_ : Kd.R k59 59 w13 w.heap.size (fun _ => True) (.slice (some ⟨go10, 0, none⟩) x3_1.length co10) y178 := (by rw [hw, Ny178.out]; exact HP12.1); clear HP12; replace HO_3 := Aside0.mk (hp_); replace HB := Aside0.mk ((by rw [hw]; exact below_set (below_set (HB.out) GB10.out) GB10.out : Below w.heap.size w w13)); clear hg hw hp_))
        go_roundg k1
        case measure => have := HK1.out; omega
        case rel => exact ⟨(y178), (wrap64 (x4_1 + 1)), (by first | rfl | (simp; done) | (simp [*]; done)), H', ⟨by have := HK1.out; omega⟩, ⟨by (with_reducible repeat (first | apply Kd.R_alloc | apply Kd.R_drewN | apply Kd.R_drew)); exact HO_3.out⟩, ⟨by repeat (first | (with_reducible first | exact HB.out | apply below_alloc | apply pw_below_drewN | apply below_drew1) | exact HB.out)⟩⟩
       ·rw [if_neg c9] at H
        exact absurd H (by simp)
      ·rw [if_neg c7] at H
       exact absurd H (by simp)
     ·rw [if_neg c6] at H
      have c6b0 : decide (x4_1 < (l0.length : Int)) = false := decide_eq_false c6
      clear c6
      obtain rfl := Option.some.inj H
      simp only [Option.some.injEq, Prod.mk.injEq] at H
      obtain ⟨rfl⟩ := H
      go_wp2
      go_ret
      exact ⟨_, eqr, by (with_reducible repeat (first | apply Kd.R_alloc | apply Kd.R_drewN | apply Kd.R_drew)); exact HO_3.out, hk HB⟩
  ·rw [if_neg c3] at H
   exact absurd H (by simp)
 ·rw [if_neg c2] at H
  exact absurd H (by simp)

end Go.Proofs.Ytggocekjhohhcaa.P

