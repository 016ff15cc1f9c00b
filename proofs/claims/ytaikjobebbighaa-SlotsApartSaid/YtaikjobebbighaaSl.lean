/- Words on slices of integers: a slice that reads as a list (nil and empty let in), through draws, new blocks, calls and cuts. -/
import Derived.Test.YtaikjobebbighaaWords
import Derived.Deep.AppendLies
import Derived.OwnWalk
import Derived.Maps.AppendAt
import Derived.Laws.AppendOwn
import Derived.WalkKit
namespace Go.Proofs.Ytaikjobebbighaa
set_option linter.unusedVariables false
open Go.RowKit
theorem add_block (a : Addr) (n : Nat) : (a.add n).block = a.block := by unfold Addr.add; split <;> rfl
theorem add_add (a : Addr) (i j : Nat) : (a.add i).add j = a.add (i + j) := by
  unfold Addr.add
  by_cases hi : i = 0 <;> by_cases hj : j = 0 <;> simp [hi, hj, Nat.add_assoc]
/-- The slice at A, as far as xs goes, holds the integers xs. -/
def Sl (w : World) (k : IntKind) (A : Option Addr) (xs : List Int) : Prop :=
  ∀ (j : Nat) (hj : j < xs.length), ∃ ad, A = some ad ∧ ad.block < w.heap.size ∧ w.cell? (ad.add j) = some (.int k xs[j])
section
variable {w w' : World} {k : IntKind} {A : Option Addr} {xs : List Int}
theorem Sl.nil (w : World) (k : IntKind) (A : Option Addr) : Sl w k A [] := fun j hj => absurd hj (by simp)
theorem Sl.at_ {ad : Addr} (h : Sl w k (some ad) xs) {j : Nat} (hj : j < xs.length) : w.cell? (ad.add j) = some (.int k xs[j]) := by
  obtain ⟨ad', e, _, hc⟩ := h j hj
  injection e with e
  subst e
  exact hc
theorem Sl.keep (h : Sl w k A xs) (hz : w.heap.size ≤ w'.heap.size) (hk : ∀ p : Addr, p.block < w.heap.size → w'.cell? p = w.cell? p) : Sl w' k A xs := fun j hj => by
  obtain ⟨ad, e, hb, hc⟩ := h j hj
  exact ⟨ad, e, Nat.lt_of_lt_of_le hb hz, (hk _ (by rw [add_block]; exact hb)).trans hc⟩
theorem Sl.over (h : Sl w k A xs) (hb : Below w.heap.size w w') : Sl w' k A xs := h.keep hb.size fun _ hp => hb.cell hp
theorem Sl.drew (h : Sl w k A xs) : Sl w.drew k A xs := h
theorem Sl.drewN (h : Sl w k A xs) (n : Nat) : Sl (w.drewN n) k A xs := h
theorem Sl.alloc (h : Sl w k A xs) (o : Obj) : Sl (w.alloc o) k A xs := h.keep (by simp) fun p hp => World.cell?_alloc_lt w o p hp
theorem Sl.cut (h : Sl w k A xs) {n cap : Nat} (hc : xs.length ≤ cap) : Sl w k (if cap = n then A else A.map (·.add n)) (xs.drop n) := fun j hj => by
  rw [List.length_drop] at hj
  obtain ⟨ad, rfl, hb, hcell⟩ := h (n + j) (by omega)
  rw [if_neg (by omega)]
  refine ⟨ad.add n, rfl, by rw [add_block]; exact hb, ?_⟩
  rw [add_add, hcell, List.getElem_drop]
theorem Sl.take (h : Sl w k A xs) (n : Nat) : Sl w k A (xs.take n) := fun j hj => by
  rw [List.length_take] at hj
  obtain ⟨ad, e, hb, hcell⟩ := h j (by omega)
  exact ⟨ad, e, hb, by rw [hcell, List.getElem_take]⟩
theorem Sl.of_own {base : Nat} {e : TypeId} {n c : Nat} (h : w.ownsRow base e 1 (.slice A n c) n (xs.map (Value.int k))) : Sl w k A xs := fun j hj => by
  have hn : n = xs.length := by have := h.1; simp at this; omega
  obtain ⟨g, cap, hv, _, hlt⟩ := h.form (by omega)
  have hA : A = some ⟨g, 0, none⟩ := by injection hv
  subst hA
  refine ⟨_, rfl, hlt, ?_⟩
  exact h.cells (g := g) rfl j _ (by simp [hj])
/-- What a row of the call's own is. -/
theorem own_form {base : Nat} {e : TypeId} {v : Value} {n : Nat} {ys : List Value} (h : w.ownsRow base e 1 v n ys) : ∃ B d, v = .slice B n d ∧ n ≤ d ∧ d ≤ maxLen := by
  rcases h.2 with ⟨rfl, rfl⟩ | ⟨g, cap, cur, rfl, _, _, h1, h2, _⟩
  · exact ⟨none, 0, rfl, Nat.le_refl _, Nat.zero_le _⟩
  · exact ⟨_, _, rfl, h1, h2⟩
theorem Sl.of_own' {base : Nat} {e : TypeId} {B : Option Addr} {d : Nat} (h : w.ownsRow base e 1 (.slice B xs.length d) xs.length (xs.map (Value.int k))) : Sl w k B xs := Sl.of_own h
/-- A slice that holds something has an address. -/
theorem Sl.some_ (h : Sl w k A xs) (hx : xs ≠ []) : ∃ ad, A = some ad := by
  obtain ⟨ad, e, _⟩ := h 0 (List.length_pos_iff.2 hx)
  exact ⟨ad, e⟩
theorem Sl.cells {ad : Addr} (h : Sl w k (some ad) xs) : ∀ j u, (xs.map (Value.int k))[j]? = some u → w.cell? (ad.add j) = some u := fun j u hu => by
  have hj : j < xs.length := by
    have := (List.getElem?_eq_some_iff.1 hu).1
    simpa using this
  rw [h.at_ hj, ← hu]
  simp [List.getElem?_eq_getElem hj]
end
end Go.Proofs.Ytaikjobebbighaa
