/- append to rows of the call's own, at []uint64. -/
import Derived.Test.YtklmabhjkdkjmaaRows
import Derived.Test.YtklmabhjkdkjmaaSl
import Derived.OwnWalk
import Derived.Laws.OwnMore
import Derived.Laws.AppendOwn
import Derived.Laws.AppendOwnNone
namespace Go.Proofs.Ytklmabhjkdkjmaa
set_option linter.unusedVariables false
open Go.RowKit
theorem infoU : (Try.prog.info? 28).map (fun i => (i.zero, i.size, i.bytes)) = some (some (.int .u64 0), 1, 8) := by kernel_rfl
/-- A row of the call's own, from block base on. -/
def OwnU (base : Nat) (w : World) (B : Option Addr) (d : Nat) (xs : List Int) : Prop := w.ownsRow base 28 1 (.slice B xs.length d) xs.length (xs.map (.int .u64))
theorem OwnU.nil (base : Nat) (w : World) : OwnU base w none 0 [] := World.ownsRow_nil _ _ _ _
theorem OwnU.sl {base : Nat} {w : World} {B : Option Addr} {d : Nat} {xs : List Int} (h : OwnU base w B d xs) : Sl w .u64 B xs := Sl.of_own h
theorem OwnU.base_ {base : Nat} {w : World} {B : Option Addr} {d : Nat} {xs : List Int} (h : OwnU base w B d xs) {n : Nat} {g : Nat} (hg : Value.ownBlock (.slice B n d) = some g) : base ≤ g := by
  rcases h.2 with ⟨e, _⟩ | ⟨g', cap, cur, e, hb, _⟩
  · injection e with e1 e2 e3; subst e1; simp [Value.ownBlock] at hg
  · injection e with e1 e2 e3; subst e1; simp [Value.ownBlock] at hg; omega
theorem OwnU.drew {base : Nat} {w : World} {B : Option Addr} {d : Nat} {xs : List Int} (h : OwnU base w B d xs) : OwnU base w.drew B d xs := h
theorem OwnU.drewN {base : Nat} {w : World} {B : Option Addr} {d : Nat} {xs : List Int} (h : OwnU base w B d xs) (n : Nat) : OwnU base (w.drewN n) B d xs := h
theorem OwnU.alloc {base : Nat} {w : World} {B : Option Addr} {d : Nat} {xs : List Int} (h : OwnU base w B d xs) (o : Obj) : OwnU base (w.alloc o) B d xs := World.ownsRow.alloc h o
theorem OwnU.over {base : Nat} {w w' : World} {B : Option Addr} {d : Nat} {xs : List Int} (h : OwnU base w B d xs) (hb : Below w.heap.size w w') : OwnU base w' B d xs := by
  rcases h.2 with ⟨e, e2⟩ | ⟨g', cap, cur, e, h1, h2, h3⟩
  · exact ⟨h.1, .inl ⟨e, e2⟩⟩
  · exact ⟨h.1, .inr ⟨g', cap, cur, e, h1, (hb.block g' (Array.getElem?_eq_some_iff.1 h2).1).trans h2, h3⟩⟩
theorem OwnU.low {base base' : Nat} {w : World} {B : Option Addr} {d : Nat} {xs : List Int} (h : OwnU base w B d xs) (hb : base' ≤ base) : OwnU base' w B d xs := by
  rcases h.2 with ⟨e, e2⟩ | ⟨g', cap, cur, e, h1, h2, h3⟩
  · exact ⟨h.1, .inl ⟨e, e2⟩⟩
  · exact ⟨h.1, .inr ⟨g', cap, cur, e, by omega, h2, h3⟩⟩
theorem OwnU.nil_cap {base : Nat} {w : World} {B : Option Addr} {d : Nat} {xs : List Int} (h : OwnU base w B d xs) (hB : B = none) : d = 0 := by
  rcases h.2 with ⟨e, _⟩ | ⟨g', cap, cur, e, _⟩
  · injection e with e1 e2 e3
  · injection e with e1 e2 e3; rw [hB] at e1; cases e1
/-- A row that a literal of one element made. -/
theorem OwnU.made1 (w : World) (x : Int) : OwnU w.heap.size (w.alloc (.cells #[.int .u64 x] 28)) (some ⟨w.heap.size, 0, none⟩) 1 [x] :=
  ⟨rfl, .inr ⟨w.heap.size, 1, _, rfl, Nat.le_refl _, heap_alloc_new w _, Nat.le_refl _, by decide, rfl, rfl⟩⟩
/-- append(row, src...): src reads as ys, nil let in. -/
theorem appSU {ops : Array Oper} {rest : List Oper} {o : Oper} {a : Act} {Q : Exit → Act → World → Prop} {w : World} (hgd : o.guard = none) (s x : Operand)
    (ho : o.op = .call { callee := .builtin .append, args := #[s, x], argTypes := #[52, 52] }) (base : Nat) (B : Option Addr) (n d : Nat) (xs : List Int) (hn : n = xs.length) (hs : a.eval s = .slice B n d) (hown : OwnU base w B d xs)
    (A : Option Addr) (c : Nat) (ys : List Int) (hx : a.eval x = .slice A ys.length c) (hsl : Sl w .u64 A ys) (hA : A = none → c = 0) (hbase : base ≤ w.heap.size) (hlen : xs.length + ys.length ≤ 1000000000)
    (h : ∀ B' d' w', OwnU base w' B' d' (xs ++ ys) → w.grownBy w' (Value.ownBlock (.slice B xs.length d)) → Below base w w' → wpList Try.prog ops Q rest (a.put o.dst (.slice B' (n + ys.length) d')) w') :
    wpList Try.prog ops Q (o :: rest) a w := by
  obtain ⟨i0, hi, hz0, hz1, hz2⟩ := info_parts infoU
  subst hn
  cases A with
  | none =>
    have e : ys = [] := by
      rcases ys with _ | ⟨y, ys⟩
      · rfl
      · obtain ⟨ad, e, _⟩ := hsl 0 (by simp)
        cases e
    subst e
    obtain rfl := hA rfl
    refine wpList_append_own_none hgd s x _ ho base 28 i0 1 Try.underlying52 hi _ xs.length _ hs hown (by simpa using hx) ?_
    have := h B d w (by simpa using hown) (World.grownBy.refl w _) (Below.refl _ _)
    simpa using this
  | some ad =>
    refine wpList_append_own w hgd s x _ ho base 28 i0 (.int .u64 0) 1 8 Try.underlying52 hi hz0 hz1 hz2 rfl (by decide) _ _ _ hs hown ad ys.length c (ys.map (.int .u64)) hx (by simp) (fun j u hu => hsl.cells j u hu)
      (fun u hu => by obtain ⟨z, _, rfl⟩ := List.mem_map.1 hu; rfl) (by unfold maxLen; omega) (by omega) hbase ?_
    intro v' w' hown' hgrow _
    obtain ⟨B', d', rfl, -, -⟩ := own_form hown'
    have hn : (xs ++ ys).length = xs.length + ys.length := by simp
    have ho2 : OwnU base w' B' d' (xs ++ ys) := by unfold OwnU; rw [hn]; simpa using hown'
    have := h B' d' w' ho2 hgrow ((Below.refl base w).grown hgrow hbase (fun g hg => OwnU.base_ hown hg))
    exact this
/-- append(row, y). -/
theorem app1U {ops : Array Oper} {rest : List Oper} {o : Oper} {a : Act} {Q : Exit → Act → World → Prop} {w : World} (hgd : o.guard = none) (s x : Operand)
    (ho : o.op = .call { callee := .builtin .append, args := #[s, x], argTypes := #[52, 52] }) (base : Nat) (B : Option Addr) (n d : Nat) (xs : List Int) (y : Int) (hn : n = xs.length) (hs : a.eval s = .slice B n d) (hown : OwnU base w B d xs)
    (hx : a.eval x = .slice (some ⟨w.heap.size, 0, none⟩) 1 1) (hbase : base ≤ w.heap.size) (hlen : xs.length ≤ 1000000)
    (h : ∀ B' d' w', OwnU base w' B' d' (xs ++ [y]) → (w.alloc (.cells #[.int .u64 y] 28)).grownBy w' (Value.ownBlock (.slice B xs.length d)) → Below base w w' → wpList Try.prog ops Q rest (a.put o.dst (.slice B' (n + 1) d')) w') :
    wpList Try.prog ops Q (o :: rest) a (w.alloc (.cells #[.int .u64 y] 28)) := by
  refine appSU hgd s x ho base B n d xs hn hs (hown.alloc _) (some ⟨w.heap.size, 0, none⟩) 1 [y] hx ?_ (fun e => by cases e) (by simp; omega) (by simp; omega) ?_
  · intro j hj
    have e : j = 0 := by simp at hj; omega
    subst e
    exact ⟨_, rfl, by simp, by simp [Addr.add]⟩
  · intro B' d' w' h1 h2 h3
    have := h B' d' w' h1 h2 (((Below.refl base w).alloc hbase _).trans h3)
    exact this

end Go.Proofs.Ytklmabhjkdkjmaa
