/- Rows of the call's own through stores in their midst; append, copy, clear as steps whose run is known. -/
import Derived.Test.YtaikjobebbighaaRk
import Derived.Lib.SliceRun
import Derived.Laws.IdiomCopy
import Derived.Deep.RegionLaw
namespace Go.Proofs.Ytaikjobebbighaa
set_option linter.unusedVariables false
open Go.RowKit
/-- Cells, some of them laid anew. -/
def layC (cs : Array Value) : Nat → List Value → Array Value
  | _, [] => cs
  | o, v :: r => layC (cs.setIfInBounds o v) (o + 1) r
theorem layC_size : ∀ (vs : List Value) (o : Nat) (cs : Array Value), (layC cs o vs).size = cs.size
  | [], _, _ => rfl
  | v :: r, o, cs => by unfold layC; rw [layC_size r]; simp
theorem layC_get : ∀ (vs : List Value) (o : Nat) (cs : Array Value) (i : Nat), o + vs.length ≤ cs.size → (layC cs o vs)[i]? = if o ≤ i ∧ i < o + vs.length then vs[i - o]? else cs[i]?
  | [], o, cs, i, _ => by
    unfold layC
    rw [if_neg (by simp)]
  | v :: r, o, cs, i, h => by
    unfold layC
    rw [layC_get r (o + 1) _ i (by simp at h ⊢; omega)]
    simp only [List.length_cons] at h
    by_cases h1 : o + 1 ≤ i ∧ i < o + 1 + r.length
    · rw [if_pos h1, if_pos (by simp; omega), show i - o = (i - (o + 1)) + 1 by omega, List.getElem?_cons_succ]
    · rw [if_neg h1]
      by_cases h2 : i = o
      · subst h2
        rw [if_pos (by simp)]
        simp [show i < cs.size by omega]
      · rw [if_neg (by simp; omega), Array.getElem?_setIfInBounds_ne (by omega)]
theorem Row.puts {g : Nat} {t : TypeId} : ∀ (vs : List Value) (o : Nat) {w : World} {cs : Array Value}, Row w g t cs → Row (w.setCells g o vs) g t (layC cs o vs)
  | [], _, _, _, h => h
  | v :: r, o, w, cs, h => Row.puts r (o + 1) (h.put o v)
theorem grown_setCells (g : Nat) : ∀ (vs : List Value) (o : Nat) (w : World), w.grownBy (w.setCells g o vs) (some g)
  | [], _, w => World.grownBy.refl w _
  | v :: r, o, w => by
    have ih := grown_setCells g r (o + 1) (w.setCell ⟨g, o, none⟩ v)
    exact ⟨ih.os, ih.tape, ih.output, by have := ih.size; rw [World.size_setCell] at this; exact this, fun k hk hne => (ih.block k (by simpa using hk) hne).trans (Below.heap_setCell w ⟨g, o, none⟩ v k (fun e => hne (by rw [e])))⟩
section
variable {α : Type} {en : α → List Value} {k : Nat} {e : TypeId} {base : Nat} {w w' : World} {g d : Nat} {ts : List α}
/-- A row of the call's own, taken apart. -/
theorem RkO.open_ (h : RkO en k e base w (some ⟨g, 0, none⟩) d ts) : ∃ cur, Row w g e cur ∧ base ≤ g ∧ ts.length ≤ d ∧ d ≤ maxLen ∧ cur.size = d * k ∧ cur.toList.take (ts.length * k) = rkCs en ts := by
  rcases h.2 with ⟨ev, _⟩ | ⟨g', cap, cur, ev, h1, h2, h3, h4, h5, h6⟩
  · cases ev
  · injection ev with e1 e2 e3
    injection e1 with e1
    injection e1 with e1
    subst e1 e3
    exact ⟨cur, h2, h1, h3, h4, h5, h6⟩
theorem RkO.make (hk : ∀ x, (en x).length = k) {cur : Array Value} (hr : Row w g e cur) (hb : base ≤ g) (h1 : ts.length ≤ d) (h2 : d ≤ maxLen) (h3 : cur.size = d * k) (h4 : ∀ j, j < ts.length * k → cur[j]? = (rkCs en ts)[j]?) : RkO en k e base w (some ⟨g, 0, none⟩) d ts := by
  refine ⟨rkCs_len hk ts, .inr ⟨g, d, cur, rfl, hb, hr, h1, h2, h3, ?_⟩⟩
  have hle : ts.length * k ≤ d * k := Nat.mul_le_mul_right k h1
  apply List.ext_getElem?
  intro j
  rw [List.getElem?_take]
  split
  · rename_i hj
    rw [← h4 j hj]
    simp
  · rename_i hj
    rw [List.getElem?_eq_none (by rw [rkCs_len hk]; omega)]
theorem RkO.at_ (hk : ∀ x, (en x).length = k) {cur : Array Value} (h4 : cur.toList.take (ts.length * k) = rkCs en ts) {j : Nat} (hj : j < ts.length * k) : cur[j]? = (rkCs en ts)[j]? := by
  rw [← h4, List.getElem?_take_of_lt hj]
  simp
end
section
variable {P : Program}
theorem step_append_run {ops : Array Oper} {o : Oper} {a : Act} {w : World} {K : Act → World → Prop} {Q : Exit → Act → World → Prop} {E : Prop}
    (hg : o.guard = none) (d x : Operand) (dT sT : TypeId) (hop : o.op = Op.call { callee := Callee.builtin Builtin.append, args := #[d, x], argTypes := #[dT, sT] })
    (v u : Value) (hd : a.eval d = v) (hx : a.eval x = u) {v' : Value} {w' : World} (hr : (Builtin.append_ #[dT, sT] o.type #[v, u]).run P w = .ok v' w') (hK : K (a.put o.dst v') w') :
    if Region.wanted o (yielded ops a.tmps) = true then Oper.wp P o a w K Q else E := by
  have hw : Region.wanted o (yielded ops a.tmps) = true := by simp [Region.wanted, hg]
  rw [if_pos hw]
  unfold Oper.wp
  simp [execOp, hop, resolve, invoke, builtin, hd, hx, hr, Result.andThen]
  exact hK
theorem step_copy_run {ops : Array Oper} {o : Oper} {a : Act} {w : World} {K : Act → World → Prop} {Q : Exit → Act → World → Prop} {E : Prop}
    (hg : o.guard = none) (d x : Operand) (dT sT : TypeId) (hop : o.op = Op.call { callee := Callee.builtin Builtin.copy, args := #[d, x], argTypes := #[dT, sT] })
    (v u : Value) (hd : a.eval d = v) (hx : a.eval x = u) {v' : Value} {w' : World} (hr : (Builtin.copy_ #[dT, sT] o.type #[v, u]).run P w = .ok v' w') (hK : K (a.put o.dst v') w') :
    if Region.wanted o (yielded ops a.tmps) = true then Oper.wp P o a w K Q else E := by
  have hw : Region.wanted o (yielded ops a.tmps) = true := by simp [Region.wanted, hg]
  rw [if_pos hw]
  unfold Oper.wp
  simp [execOp, hop, resolve, invoke, builtin, hd, hx, hr, Result.andThen]
  exact hK
theorem wpList_copy_run (w : World) {ops : Array Oper} {rest : List Oper} {o : Oper} {a : Act} {Q : Exit → Act → World → Prop} (hgd : o.guard = none) (d s : Operand) (t t' : TypeId)
    (ho : o.op = .call { callee := .builtin .copy, args := #[d, s], argTypes := #[t, t'] }) (v u : Value) (hd : a.eval d = v) (hs : a.eval s = u) {v' : Value} {w' : World}
    (hr : (Builtin.copy_ #[t, t'] o.type #[v, u]).run P w = .ok v' w') (h : wpList P ops Q rest (a.put o.dst v') w') : wpList P ops Q (o :: rest) a w :=
  wpList_plain hgd fun K hK => by
    unfold Oper.wp execOp
    simp only [ho, resolve, invoke, builtin, Sem.run_bind, Sem.run_pure, Result.andThen_ok, List.map_toArray, List.map_cons, List.map_nil, hd, hs, hr]
    exact hK _ _ h
theorem wpList_clear_run (w : World) {ops : Array Oper} {rest : List Oper} {o : Oper} {a : Act} {Q : Exit → Act → World → Prop} (hgd : o.guard = none) (d : Operand) (t : TypeId)
    (ho : o.op = .call { callee := .builtin .clear, args := #[d], argTypes := #[t] }) (v : Value) (hd : a.eval d = v) {v' : Value} {w' : World}
    (hr : (Builtin.clear_ #[t] o.type #[v]).run P w = .ok v' w') (h : wpList P ops Q rest (a.put o.dst v') w') : wpList P ops Q (o :: rest) a w :=
  wpList_plain hgd fun K hK => by
    unfold Oper.wp execOp
    simp only [ho, resolve, invoke, builtin, Sem.run_bind, Sem.run_pure, Result.andThen_ok, List.map_toArray, List.map_cons, List.map_nil, hd, hr]
    exact hK _ _ h
/-- clear of one element of two cells. -/
theorem run_clear2 (w : World) (t e ty : TypeId) (a b : Value) (ht : P.underlying t = some (.slice e)) (hv : ∀ w, (zeroValue e).run P w = .ok (.agg #[a, b]) w) (h1 : a.oneCell' = true) (h2 : b.oneCell' = true) (g o c : Nat)
    (hc0 : (w.cell? ⟨g, o, none⟩).isSome = true) (hc1 : (w.cell? ⟨g, o + 1, none⟩).isSome = true) (hf0 : w.frozen? ⟨g, o, none⟩ = false) (hf1 : w.frozen? ⟨g, o + 1, none⟩ = false) :
    (Builtin.clear_ #[t] ty #[.slice (some ⟨g, o, none⟩) 1 c]).run P w = .ok (.tuple #[]) (w.setCells g o [a, b]) := by
  have hzc : (Builtin.zeroCells (Value.agg #[a, b]).cells 1).toList = [a, b] := by
    simp [Builtin.zeroCells, Value.cells, List.range_succ]
  have hst := run_storeCells_cells (P := P) g o [a, b] 0 w (by intro j hj; match j, hj with | 0, _ => simpa using hc0 | 1, _ => simpa using hc1) (by intro j hj; match j, hj with | 0, _ => simpa using hf0 | 1, _ => simpa using hf1) (by intro v hv'; simp at hv'; rcases hv' with rfl | rfl <;> assumption)
  simp only [Nat.add_zero] at hst
  simp [Builtin.clear_, run_underlying ht, hv, hzc, hst]
end
end Go.Proofs.Ytaikjobebbighaa
