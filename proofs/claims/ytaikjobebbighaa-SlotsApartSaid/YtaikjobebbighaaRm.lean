/- append onto a row of the call's own, as a run; where the new row lies. -/
import Derived.Test.YtaikjobebbighaaRl
import Derived.Maps.AppendAt
namespace Go.Proofs.Ytaikjobebbighaa
set_option linter.unusedVariables false
open Go.RowKit
/-- The old row, or one made from block n on (or none). -/
def NearB (n : Nat) (B B' : Option Addr) : Prop := ∀ g, B' = some ⟨g, 0, none⟩ → B = some ⟨g, 0, none⟩ ∨ n ≤ g
theorem NearB.same (n : Nat) (B : Option Addr) : NearB n B B := fun g e => .inl e
theorem NearB.new {n m : Nat} (B : Option Addr) (h : n ≤ m) : NearB n B (some ⟨m, 0, none⟩) := fun g e => by injection e with e; injection e with e; exact .inr (by omega)
theorem NearB.trans {n m : Nat} {A B C : Option Addr} (h : NearB n A B) (h2 : NearB m B C) (hm : n ≤ m) : NearB n A C := fun g e => by
  rcases h2 g e with h1 | h1
  · exact h g h1
  · exact .inr (by omega)
theorem NearB.low {n m : Nat} {B C : Option Addr} (h2 : NearB m B C) (hm : n ≤ m) : NearB n B C := (NearB.same n B).trans h2 hm
section
variable {α : Type} {en : α → List Value} {k : Nat} {e : TypeId} {base : Nat} {w w' : World} {B : Option Addr} {d : Nat} {ts : List α}
theorem run_appK {P : Program} {st ty : TypeId} {z : Value} {bytes : Nat} (ht : P.underlying st = some (.slice e)) (hinfo : (P.info? e).map (fun i => (i.zero, i.size, i.bytes)) = some (some z, k, bytes)) (hz : z.cells.size = k) (hk0 : 0 < k) (hby : bytes ≤ 1000)
    (hk : ∀ x, (en x).length = k) (h1 : ∀ x, ∀ v ∈ en x, v.oneCell' = true) (hown : RkO en k e base w B d ts) (ad : Addr) (c : Nat) (ys : List α) (hsl : RkS en k w (some ad) ys) (hbase : base ≤ w.heap.size) (hlen : ts.length + ys.length ≤ 100000000) :
    ∃ B' d' w', (Builtin.append_ #[st, st] ty #[.slice B ts.length d, .slice (some ad) ys.length c]).run P w = .ok (.slice B' (ts.length + ys.length) d') w' ∧ RkO en k e base w' B' d' (ts ++ ys) ∧ w.grownBy w' (Value.ownBlock (.slice B ts.length d)) ∧ NearB w.heap.size B B' := by
  obtain ⟨i0, hi, hz0, hz1, hz2⟩ := info_parts hinfo
  obtain ⟨v', w', hr, hown', hg, _, hat⟩ := run_append_own_at (P := P) w base st ty e i0 z k bytes ht hi hz0 hz1 hz2 hz hk0 _ _ _ hown ad ys.length c (rkCs en ys) (rkCs_len hk ys) (fun j u hu => hsl.cells hk j u hu)
    (rkCs_one h1 ys) (by unfold maxLen; omega) (by
      have : (ts.length + ys.length) * bytes ≤ 100000000 * 1000 := Nat.mul_le_mul hlen hby
      omega) hbase
  have ho2 : ∀ B' d', v' = .slice B' (ts.length + ys.length) d' → RkO en k e base w' B' d' (ts ++ ys) := fun B' d' ev => by
    subst ev
    unfold RkO
    rw [List.length_append, rkCs_append]
    exact hown'
  obtain ⟨B', d', ev⟩ : ∃ B d, v' = .slice B (ts.length + ys.length) d := by
    rcases hown'.2 with ⟨ev, h0⟩ | ⟨g, cap, cur, rfl, _⟩
    · exact ⟨none, 0, by rw [ev, h0]⟩
    · exact ⟨_, _, rfl⟩
  have ho3 := ho2 B' d' ev
  subst ev
  refine ⟨B', d', w', hr, ho3, hg, ?_⟩
  rcases hown.form with ⟨rfl, -, -⟩ | ⟨g, rfl, -, -, -⟩ <;> rcases ho3.form with ⟨rfl, -, -⟩ | ⟨g', rfl, -, -, -⟩ <;> simp [Value.ownBlock] at hat
  · exact NearB.same _ _
  · exact NearB.new _ (by omega)
  · rcases hat with rfl | rfl
    · exact NearB.same _ _
    · exact NearB.new _ (Nat.le_refl _)
/-- A row beside blocks that change. -/
theorem RkO.kept (h : RkO en k e base w B d ts) {row : Option Nat} (hg : w.grownBy w' row) (hne : ∀ g, B = some ⟨g, 0, none⟩ → some g ≠ row) : RkO en k e base w' B d ts := h.keep fun g eg cs hc => hg.block g (Array.getElem?_eq_some_iff.1 hc).1 (hne g eg)
theorem ownBlock_some (g n d : Nat) : Value.ownBlock (.slice (some ⟨g, 0, none⟩) n d) = some g := rfl
theorem RkO.near {n : Nat} {B' : Option Addr} (h : NearB n B B') {g' : Nat} (hB : B' = some ⟨g', 0, none⟩) : B = some ⟨g', 0, none⟩ ∨ n ≤ g' := h g' hB
/-- A row of the call's own made from a block on is near whatever. -/
theorem RkO.fresh (h : RkO en k e base w B d ts) (A : Option Addr) : NearB base A B := fun g eg => .inr (h.base_ (n := 0) (by rw [eg]; rfl))
end
/-- All blocks but those of F are as they were. -/
structure But (F : Nat → Prop) (w w' : World) : Prop where
  os : w'.os = w.os
  tape : w'.tape = w.tape
  output : w'.output = w.output
  size : w.heap.size ≤ w'.heap.size
  block : ∀ k, k < w.heap.size → ¬ F k → w'.heap[k]? = w.heap[k]?
section
variable {F : Nat → Prop} {a b c : World}
theorem But.refl (F : Nat → Prop) (w : World) : But F w w := ⟨rfl, rfl, rfl, Nat.le_refl _, fun _ _ _ => rfl⟩
theorem But.trans (h : But F a b) (k : But F b c) : But F a c := ⟨k.os.trans h.os, k.tape.trans h.tape, k.output.trans h.output, Nat.le_trans h.size k.size, fun j hj hn => (k.block j (Nat.lt_of_lt_of_le hj h.size) hn).trans (h.block j hj hn)⟩
/-- What touches those of G alone, of which what was there when it began is in F. -/
theorem But.next {G : Nat → Prop} (h : But F a b) (k : But G b c) (hG : ∀ j, G j → F j ∨ a.heap.size ≤ j) : But F a c := ⟨k.os.trans h.os, k.tape.trans h.tape, k.output.trans h.output, Nat.le_trans h.size k.size, fun j hj hn => (k.block j (Nat.lt_of_lt_of_le hj h.size) (fun hg => by rcases hG j hg with h1 | h1; exact hn h1; omega)).trans (h.block j hj hn)⟩
theorem But.mono {G : Nat → Prop} (k : But G a c) (hG : ∀ j, G j → F j ∨ a.heap.size ≤ j) : But F a c := (But.refl F a).next k hG
theorem But.of_below {B : Nat} (h : Below B a b) (hB : a.heap.size ≤ B) : But F a b := ⟨h.os, h.tape, h.output, h.size, fun j hj _ => h.block j (by omega)⟩
theorem But.of_grown {row : Option Nat} (h : a.grownBy b row) (hr : ∀ g, row = some g → F g) : But F a b := ⟨h.os, h.tape, h.output, h.size, fun j hj hn => h.block j hj (fun e => hn (hr j e.symm))⟩
theorem But.drew (h : But F a b) : But F a b.drew := ⟨h.os, h.tape, h.output, h.size, h.block⟩
theorem But.alloc (h : But F a b) (o : Obj) : But F a (b.alloc o) := ⟨h.os, h.tape, h.output, by have := h.size; simp; omega, fun j hj hn => (Below.heap_alloc b o j (Nat.lt_of_lt_of_le hj h.size)).trans (h.block j hj hn)⟩
theorem But.put (h : But F a b) {p : Addr} (hp : F p.block ∨ a.heap.size ≤ p.block) (v : Value) : But F a (b.setCell p v) := ⟨h.os, h.tape, h.output, by rw [World.size_setCell]; exact h.size, fun j hj hn => (Below.heap_setCell b p v j (by rintro rfl; rcases hp with h1 | h1; exact hn h1; omega)).trans (h.block j hj hn)⟩
theorem Row.but {g : Nat} {t : TypeId} {cs : Array Value} (h : Row a g t cs) (k : But F a b) (hn : ¬ F g) : Row b g t cs := (k.block g h.lt hn).trans h
theorem RkO.but {α : Type} {en : α → List Value} {k : Nat} {e : TypeId} {base : Nat} {B : Option Addr} {d : Nat} {ts : List α} (h : RkO en k e base a B d ts) (hb : But F a b) (hn : ∀ g, B = some ⟨g, 0, none⟩ → ¬ F g) : RkO en k e base b B d ts := h.keep fun g eg cs hc => hb.block g (Array.getElem?_eq_some_iff.1 hc).1 (hn g eg)
/-- A row of elements does not lie in a block of another type. -/
theorem RkO.off {α : Type} {en : α → List Value} {k : Nat} {e : TypeId} {base : Nat} {B : Option Addr} {d : Nat} {ts : List α} {g : Nat} {t : TypeId} {cs : Array Value} (h : RkO en k e base a B d ts) (hr : Row a g t cs) (hne : e ≠ t) : B ≠ some ⟨g, 0, none⟩ := fun hB => by
  subst hB
  obtain ⟨cur, h1, -⟩ := h.open_
  exact Row.ne h1 hr hne rfl
end
end Go.Proofs.Ytaikjobebbighaa
