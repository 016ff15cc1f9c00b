/- Plain words for the laws on graphs. -/
import Derived.Test.YtceeopjmdfefjaaGrX
import Derived.Test.YtceeopjmdfefjaaGrQ
import Derived.Deep.AppendLies
namespace Go.Proofs.Ytceeopjmdfefjaa
set_option linter.unusedVariables false
open Go.RowKit
/-- A node's Deps are stored anew. -/
theorem NdC.more {w w' : World} {us : List Value} {ls : List Nd} (h : NdC w us ls) (hb : Below w.heap.size w w') (f : Nat) (hf : f < ls.length) (d : Int) (B : Option Addr) (c : Nat) (hs : Sl w' .u64 B (ls[f].deps ++ [d])) (h0 : B = none → c = 0) (h1 : ls[f].deps.length + 1 ≤ c) (h2 : c ≤ maxLen) :
    NdC w' (us.set (f * 2 + 1) (.slice B (ls[f].deps.length + 1) c)) (oneMore ls f d) := by
  refine ⟨by rw [List.length_set, oneMore_len]; exact h.len, fun j hj => ?_⟩
  rw [oneMore_len] at hj
  have hl := h.len
  have k := (h.over hb).at_ j hj
  have e0 : (us.set (f * 2 + 1) (.slice B (ls[f].deps.length + 1) c))[j * 2]? = us[j * 2]? := by rw [List.getElem?_set_ne (by omega)]
  rw [e0]
  by_cases e : f = j
  · subst e
    have e2 : (oneMore ls f d)[f]'(by rw [oneMore_len]; exact hj) = ⟨ls[f].id, ls[f].deps ++ [d]⟩ := by simp [oneMore]
    rw [e2]
    refine ⟨k.1, B, c, ?_, hs, h0, by simpa using h1, h2⟩
    rw [List.getElem?_set_self (by omega)]
    simp
  · have e2 : (oneMore ls f d)[j]'(by rw [oneMore_len]; exact hj) = ls[j] := by simp [oneMore, e]
    rw [e2, List.getElem?_set_ne (by omega)]
    exact k
/-- What every world behind the boxes has. -/
theorem sa_below {p1 p2 : Addr} {x1 x2 : Value} {W0 v v' : World} (h1 : p1.block < W0.heap.size) (h2 : p2.block < W0.heap.size) (hb : Below v.heap.size v v') (h : v.cell? p1 = some x1 ∧ v.cell? p2 = some x2 ∧ Below W0.heap.size W0 v) :
    v'.cell? p1 = some x1 ∧ v'.cell? p2 = some x2 ∧ Below W0.heap.size W0 v' :=
  ⟨(hb.cell (Nat.lt_of_lt_of_le h1 h.2.2.size)).trans h.1, (hb.cell (Nat.lt_of_lt_of_le h2 h.2.2.size)).trans h.2.1, nextC h.2.2 hb⟩
theorem sa_low {p1 p2 : Addr} {x1 x2 : Value} {W0 v v' : World} (h1 : p1.block < W0.heap.size) (h2 : p2.block < W0.heap.size) (hb : Below W0.heap.size v v') (h : v.cell? p1 = some x1 ∧ v.cell? p2 = some x2 ∧ Below W0.heap.size W0 v) :
    v'.cell? p1 = some x1 ∧ v'.cell? p2 = some x2 ∧ Below W0.heap.size W0 v' :=
  ⟨(hb.cell h1).trans h.1, (hb.cell h2).trans h.2.1, h.2.2.trans hb⟩
theorem sa_alloc {p1 p2 : Addr} {x1 x2 : Value} {W0 v : World} (o : Obj) (h1 : p1.block < W0.heap.size) (h2 : p2.block < W0.heap.size) (h : v.cell? p1 = some x1 ∧ v.cell? p2 = some x2 ∧ Below W0.heap.size W0 v) :
    (v.alloc o).cell? p1 = some x1 ∧ (v.alloc o).cell? p2 = some x2 ∧ Below W0.heap.size W0 (v.alloc o) := sa_below h1 h2 ((Below.refl _ v).alloc (Nat.le_refl _) o) h
theorem sa_b {X Y Z : Prop} (h : X ∧ Y ∧ Z) : Z := h.2.2
theorem OwnU.made0 (w : World) (base : Nat) (hb : base ≤ w.heap.size) : OwnU base (w.alloc (.cells #[] 23)) (some ⟨w.heap.size, 0, none⟩) 0 [] :=
  World.ownsRow_made w #[] 0 hb (Nat.zero_le _) rfl
theorem sl_grown {w w' : World} {r : Option Nat} {g : Nat} {k : IntKind} {xs : List Int} (hg : w.grownBy w' r) (h : Sl w k (some ⟨g, 0, none⟩) xs) (hr : some g ≠ r) : Sl w' k (some ⟨g, 0, none⟩) xs := fun j hj => by
  obtain ⟨ad, e, hb, hc⟩ := h j hj
  injection e with e
  subst e
  exact ⟨_, rfl, Nat.lt_of_lt_of_le hb hg.size, hg.cell hc (by rw [add_block]; exact hr)⟩
theorem made0_next (w : World) (o : Obj) : OwnU w.heap.size ((w.alloc o).alloc (.cells #[] 23)) (some ⟨w.heap.size + 1, 0, none⟩) 0 [] := by
  have := OwnU.made0 (w.alloc o) w.heap.size (by simp)
  simpa using this
theorem sa_drew {p1 p2 : Addr} {x1 x2 : Value} {W0 v : World} (h : v.cell? p1 = some x1 ∧ v.cell? p2 = some x2 ∧ Below W0.heap.size W0 v) : v.drew.cell? p1 = some x1 ∧ v.drew.cell? p2 = some x2 ∧ Below W0.heap.size W0 v.drew :=
  ⟨h.1, h.2.1, below_drewN h.2.2 1⟩
theorem sa_to {p1 p2 : Addr} {x1 x2 : Value} {V W0 v : World} (hV : Below V.heap.size V W0) (h : v.cell? p1 = some x1 ∧ v.cell? p2 = some x2 ∧ Below W0.heap.size W0 v) : v.cell? p1 = some x1 ∧ v.cell? p2 = some x2 ∧ Below V.heap.size V v :=
  ⟨h.1, h.2.1, nextC hV h.2.2⟩
theorem sa_store {p1 p2 : Addr} {x1 x2 : Value} {V v : World} (h1 : p1.block < V.heap.size) (h2 : p2.block < V.heap.size) {q : Addr} (hq : V.heap.size ≤ q.block) (u : Value) (h : v.cell? p1 = some x1 ∧ v.cell? p2 = some x2 ∧ Below V.heap.size V v) :
    (v.setCell q u).cell? p1 = some x1 ∧ (v.setCell q u).cell? p2 = some x2 ∧ Below V.heap.size V (v.setCell q u) := sa_low h1 h2 ((Below.refl _ v).setCell hq u) h
theorem OwnN.at1 {base : Nat} {w0 w : World} {g d : Nat} {ls : List Nd} (h : OwnN base w0 w (some ⟨g, 0, none⟩) d ls) (f : Nat) (hf : f < ls.length) : (∃ v, w.cell? ⟨g, f * 2 + 1, none⟩ = some v) ∧ w.frozen? ⟨g, f * 2 + 1, none⟩ = false := by
  obtain ⟨us, ho, hc⟩ := h
  obtain ⟨-, B, c, h2, -⟩ := hc.at_ f hf
  exact ⟨⟨_, (ho.cellAt (f * 2 + 1) (by omega)).trans h2⟩, ho.frozenAt _⟩
theorem OwnN.more {base b2 : Nat} {w0 w : World} {g d : Nat} {ls : List Nd} (h : OwnN base w0 w (some ⟨g, 0, none⟩) d ls) (hb : Below w0.heap.size w0 w) (hg : w0.heap.size ≤ g) (hg2 : g < b2) (f : Nat) (hf : f < ls.length) (z : Int) (B : Option Addr) (c : Nat)
    (hs : OwnU b2 w B c (ls[f].deps ++ [z])) :
    Below w0.heap.size w0 (w.setCell ⟨g, f * 2 + 1, none⟩ (.slice B (ls[f].deps.length + 1) c)) ∧ NdS (w.setCell ⟨g, f * 2 + 1, none⟩ (.slice B (ls[f].deps.length + 1) c)) (some ⟨g, 0, none⟩) (oneMore ls f z) := by
  have hB : Below w0.heap.size w0 (w.setCell ⟨g, f * 2 + 1, none⟩ (.slice B (ls[f].deps.length + 1) c)) := hb.setCell (p := ⟨g, f * 2 + 1, none⟩) hg _
  refine ⟨hB, ?_⟩
  obtain ⟨us, ho, hc⟩ := h
  have ho2 := (ho.stored (f * 2 + 1) (.slice B (ls[f].deps.length + 1) c)).1
  have hs2 : OwnU b2 (w.setCell ⟨g, f * 2 + 1, none⟩ (.slice B (ls[f].deps.length + 1) c)) B c (ls[f].deps ++ [z]) := ownsRow_setCell_below hs (by exact hg2) _
  have hlm : (ls[f].deps ++ [z]).length = ls[f].deps.length + 1 := by simp
  have hcc : (ls[f].deps ++ [z]).length ≤ c ∧ c ≤ maxLen ∧ (B = none → c = 0) := by
    rcases hs.2 with ⟨e, e0⟩ | ⟨g', cap, cur, e, _, _, h1, h2, _⟩
    · rw [hlm] at e0; omega
    · injection e with e1 e2 e3
      subst e3
      exact ⟨h1, h2, fun e => by rw [e] at e1; cases e1⟩
  exact (hc.more hB f hf z B c hs2.sl hcc.2.2 (by omega) hcc.2.1).nds (w' := w) (own_cells ho2 rfl)
/-- append(row, src...) at a step of a region that draws. -/
theorem stepSU {y : Nat → Option Bool} {o : Oper} {a : Act} {w : World} {K : Act → World → Prop} {Q : Exit → Act → World → Prop} {E : Prop} (hgd : o.guard = none) (D : Nat) (hD : o.dst = some D) (s x : Operand)
    (ho : o.op = .call { callee := .builtin .append, args := #[s, x], argTypes := #[26, 26] }) (base : Nat) (B : Option Addr) (n d : Nat) (xs : List Int) (hn : n = xs.length) (hs : a.eval s = .slice B n d) (hown : OwnU base w B d xs)
    (A : Option Addr) (m c : Nat) (ys : List Int) (hm : m = ys.length) (hx : a.eval x = .slice A m c) (hsl : Sl w .u64 A ys) (hA : A = none → c = 0) (hbase : base ≤ w.heap.size) (hlen : xs.length + ys.length ≤ 1000000000)
    (h : ∀ B' d' w', OwnU base w' B' d' (xs ++ ys) → w.grownBy w' (Value.ownBlock (.slice B n d)) → Below base w w' → K (a.put (some D) (.slice B' (n + m) d')) w') :
    if Region.wanted o y = true then Oper.wp Try.prog o a w K Q else E := by
  have hwt : Region.wanted o y = true := by simp [Region.wanted, hgd]
  rw [if_pos hwt]
  obtain ⟨i0, hi, hz0, hz1, hz2⟩ := info_parts infoU
  subst hn hm
  rw [← hD] at h
  cases A with
  | none =>
    have e : ys = [] := by
      rcases ys with _ | ⟨y, ys⟩
      · rfl
      · obtain ⟨ad, e, _⟩ := hsl 0 (by simp)
        cases e
    subst e
    obtain rfl := hA rfl
    have hrun := run_append_owned_none (P := Try.prog) (w := w) base 26 o.type 23 i0 1 Try.underlying26 hi _ xs.length _ hown
    have hK := h B d w (by simpa using hown) (World.grownBy.refl w _) (Below.refl _ _)
    unfold Oper.wp
    simp at hx hK
    simp [execOp, ho, resolve, invoke, builtin, hs, hx, hrun, Result.andThen]
    exact hK
  | some ad =>
    refine wp_append_own w s x _ ho base 23 i0 (.int .u64 0) 1 8 Try.underlying26 hi hz0 hz1 hz2 rfl (by decide) _ _ _ hs hown ad ys.length c (ys.map (.int .u64)) hx (by simp) (fun j u hu => hsl.cells j u hu)
      (fun u hu => by obtain ⟨z, _, rfl⟩ := List.mem_map.1 hu; rfl) (by unfold maxLen; omega) (by omega) hbase ?_
    intro v' w' hown' hgrow _
    obtain ⟨B', d', rfl, -, -⟩ := own_form hown'
    have hn : (xs ++ ys).length = xs.length + ys.length := by simp
    have ho2 : OwnU base w' B' d' (xs ++ ys) := by unfold OwnU; rw [hn]; simpa using hown'
    exact h B' d' w' ho2 hgrow ((Below.refl base w).grown hgrow hbase (fun g hg => OwnU.base_ hown hg))
end Go.Proofs.Ytceeopjmdfefjaa
