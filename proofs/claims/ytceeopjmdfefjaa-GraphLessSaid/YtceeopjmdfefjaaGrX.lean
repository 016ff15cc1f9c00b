/- Rows of nodes of the call's own: made, appended to, stored to. -/
import Derived.Test.YtceeopjmdfefjaaGrW
import Derived.Test.YtceeopjmdfefjaaApp
namespace Go.Proofs.Ytceeopjmdfefjaa
set_option linter.unusedVariables false
open Go.RowKit
theorem infoN : (Try.prog.info? 35).map (fun i => (i.zero, i.size, i.bytes)) = some (some (.agg #[.int .u64 0, .slice none 0 0]), 2, 32) := by kernel_rfl
/-- The cells of nodes; their Deps as they lie in w. -/
structure NdC (w : World) (us : List Value) (ls : List Nd) : Prop where
  len : us.length = ls.length * 2
  at_ : ∀ j (hj : j < ls.length), us[j * 2]? = some (.int .u64 ls[j].id) ∧ ∃ B c, us[j * 2 + 1]? = some (.slice B ls[j].deps.length c) ∧ Sl w .u64 B ls[j].deps ∧ (B = none → c = 0) ∧ ls[j].deps.length ≤ c ∧ c ≤ maxLen
theorem NdC.over {w w' : World} {us : List Value} {ls : List Nd} (h : NdC w us ls) (hb : Below w.heap.size w w') : NdC w' us ls := ⟨h.len, fun j hj => by
  obtain ⟨h1, B, c, h2, h3, h4⟩ := h.at_ j hj
  exact ⟨h1, B, c, h2, h3.over hb, h4⟩⟩
theorem NdC.nil (w : World) : NdC w [] [] := ⟨rfl, fun j hj => absurd hj (by simp)⟩
theorem NdC.append {w : World} {us vs : List Value} {ls ms : List Nd} (h : NdC w us ls) (k : NdC w vs ms) : NdC w (us ++ vs) (ls ++ ms) := by
  refine ⟨by rw [List.length_append, List.length_append, h.len, k.len]; omega, fun j hj => ?_⟩
  rw [List.length_append] at hj
  have hl := h.len
  by_cases hj1 : j < ls.length
  · rw [List.getElem?_append_left (by omega), List.getElem?_append_left (by omega), List.getElem_append_left hj1]
    exact h.at_ j hj1
  · rw [List.getElem?_append_right (by omega), List.getElem?_append_right (by omega), List.getElem_append_right (by omega)]
    have := k.at_ (j - ls.length) (by omega)
    rw [show j * 2 - us.length = (j - ls.length) * 2 by omega, show j * 2 + 1 - us.length = (j - ls.length) * 2 + 1 by omega]
    exact this
/-- A row that lies in cells. -/
theorem NdC.nds {w w' : World} {us : List Value} {ls : List Nd} {ad : Addr} (h : NdC w us ls) (hc : ∀ j, j < us.length → w.cell? (ad.add j) = us[j]?) : NdS w (some ad) ls := fun j hj => by
  obtain ⟨h1, B, c, h2, h3⟩ := h.at_ j hj
  have hl := h.len
  have c0 := (hc (j * 2) (by omega)).trans h1
  have c1 := (hc (j * 2 + 1) (by omega)).trans h2
  have hb := World.block_lt_of_cell? _ _ c0
  rw [add_block] at hb
  exact ⟨ad, B, c, rfl, hb, c0, c1, h3⟩
theorem NdC.row {w : World} {g : Nat} {T : TypeId} {us : List Value} {ls : List Nd} (h : NdC w us ls) (hr : Row w g T us.toArray) : NdS w (some ⟨g, 0, none⟩) ls :=
  h.nds (w' := w) fun j hj => by
    have := hr.cell j
    rw [show (⟨g, 0, none⟩ : Addr).add j = ⟨g, j, none⟩ by unfold Addr.add; split <;> simp_all, this]
    simp
/-- The cells of a row. -/
theorem NdS.cells {w : World} {ad : Addr} {ls : List Nd} (h : NdS w (some ad) ls) : ∃ us, NdC w us ls ∧ (∀ j u, us[j]? = some u → w.cell? (ad.add j) = some u) ∧ ∀ u ∈ us, u.oneCell' = true := by
  have hsome : ∀ j, j < ls.length * 2 → ∃ u, w.cell? (ad.add j) = some u ∧ u.oneCell' = true := fun j hj => by
    obtain ⟨k, hk⟩ : ∃ k, k = j / 2 := ⟨_, rfl⟩
    obtain ⟨ad', B, c, e, hb, h1, h2, h3⟩ := h k (by omega)
    injection e with e
    subst e
    rcases (by omega : j = k * 2 ∨ j = k * 2 + 1) with e | e
    · exact ⟨_, by rw [e]; exact h1, rfl⟩
    · exact ⟨_, by rw [e]; exact h2, rfl⟩
  have hlen : ((List.range (ls.length * 2)).map fun j => (w.cell? (ad.add j)).getD default).length = ls.length * 2 := by simp
  have hget : ∀ j, j < ls.length * 2 → ((List.range (ls.length * 2)).map fun j => (w.cell? (ad.add j)).getD default)[j]? = w.cell? (ad.add j) := fun j hj => by
    obtain ⟨u, hu, _⟩ := hsome j hj
    simp [List.getElem?_map, List.getElem?_range hj, hu]
  refine ⟨(List.range (ls.length * 2)).map fun j => (w.cell? (ad.add j)).getD default, ⟨hlen, fun j hj => ?_⟩, fun j u hu => ?_, fun u hu => ?_⟩
  · obtain ⟨ad', B, c, e, hb, h1, h2, h3⟩ := h j hj
    injection e with e
    subst e
    rw [hget _ (by omega), hget _ (by omega)]
    exact ⟨h1, B, c, h2, h3⟩
  · have hj : j < ls.length * 2 := by
      have := (List.getElem?_eq_some_iff.1 hu).1
      rwa [hlen] at this
    rw [hget j hj] at hu
    exact hu
  · obtain ⟨j, hj, rfl⟩ := List.mem_map.1 hu
    obtain ⟨u, hu, h1⟩ := hsome j (by simpa using hj)
    rw [hu]
    exact h1
/-- A row of nodes of the call's own, from block base on; the nodes' Deps lie in w0. -/
def OwnN (base : Nat) (w0 w : World) (B : Option Addr) (d : Nat) (ls : List Nd) : Prop := ∃ us, w.ownsRow base 35 2 (.slice B ls.length d) ls.length us ∧ NdC w0 us ls
theorem OwnN.le {base : Nat} {w0 w : World} {B : Option Addr} {d : Nat} {ls : List Nd} (h : OwnN base w0 w B d ls) : ls.length ≤ d := by
  obtain ⟨us, h, _⟩ := h
  rcases h.2 with ⟨e, e2⟩ | ⟨g', cap, cur, e, h1, h2, h3, _⟩
  · omega
  · injection e with e1 e2 e3; omega
theorem own_cells {base : Nat} {w : World} {B : Option Addr} {d : Nat} {e : TypeId} {n size : Nat} {us : List Value} {ad : Addr} (h : w.ownsRow base e size (.slice B n d) n us) (hB : B = some ad) (j : Nat) (hj : j < us.length) : w.cell? (ad.add j) = us[j]? := by
  subst hB
  have h1 := h.1
  rcases h.2 with ⟨e, _⟩ | ⟨g', cap, cur, e, _⟩
  · injection e with e1; cases e1
  · injection e with e1 e2 e3
    injection e1 with e1
    subst e1
    rw [show (⟨g', 0, none⟩ : Addr).add j = ⟨g', j, none⟩ by unfold Addr.add; split <;> simp_all]
    exact h.cellAt j (by omega)
theorem OwnN.nds {base : Nat} {w0 w : World} {B : Option Addr} {d : Nat} {ls : List Nd} (h : OwnN base w0 w B d ls) (hb : Below w0.heap.size w0 w) : NdS w B ls := by
  obtain ⟨us, h, hc⟩ := h
  cases B with
  | none =>
    have h1 := h.1
    rcases h.2 with ⟨e, e2⟩ | ⟨g', cap, cur, e, _⟩
    · obtain rfl := List.length_eq_zero_iff.1 e2
      exact NdS.nil _ _
    · injection e with e1; cases e1
  | some ad => exact (hc.over hb).nds (w' := w) (own_cells h rfl)
theorem OwnN.over {base : Nat} {w0 w w' : World} {B : Option Addr} {d : Nat} {ls : List Nd} (h : OwnN base w0 w B d ls) (hb : Below w.heap.size w w') : OwnN base w0 w' B d ls := by
  obtain ⟨us, h, hc⟩ := h
  refine ⟨us, ⟨h.1, ?_⟩, hc⟩
  rcases h.2 with ⟨e, e2⟩ | ⟨g', cap, cur, e, h1, h2, h3⟩
  · exact .inl ⟨e, e2⟩
  · exact .inr ⟨g', cap, cur, e, h1, (hb.block g' (Array.getElem?_eq_some_iff.1 h2).1).trans h2, h3⟩
theorem OwnN.base_ {base : Nat} {w0 w : World} {B : Option Addr} {d : Nat} {ls : List Nd} (h : OwnN base w0 w B d ls) {n : Nat} {g : Nat} (hg : Value.ownBlock (.slice B n d) = some g) : base ≤ g := by
  obtain ⟨us, h, hc⟩ := h
  rcases h.2 with ⟨e, _⟩ | ⟨g', cap, cur, e, hb, _⟩
  · injection e with e1 e2 e3; subst e1; simp [Value.ownBlock] at hg
  · injection e with e1 e2 e3; subst e1; simp [Value.ownBlock] at hg; omega
/-- The empty literal. -/
theorem OwnN.made0 (w0 w : World) (base : Nat) (hb : base ≤ w.heap.size) : OwnN base w0 (w.alloc (.cells #[] 35)) (some ⟨w.heap.size, 0, none⟩) 0 [] :=
  ⟨[], World.ownsRow_made w #[] 0 hb (Nat.zero_le _) rfl, NdC.nil _⟩
theorem own_formN {w : World} {base : Nat} {e : TypeId} {size : Nat} {v : Value} {n : Nat} {ys : List Value} (h : w.ownsRow base e size v n ys) : ∃ B d, v = .slice B n d ∧ n ≤ d ∧ d ≤ maxLen := by
  rcases h.2 with ⟨rfl, rfl⟩ | ⟨g, cap, cur, rfl, _, _, h1, h2, _⟩
  · exact ⟨none, 0, rfl, Nat.le_refl _, Nat.zero_le _⟩
  · exact ⟨_, _, rfl, h1, h2⟩
/-- append(row, src...). -/
theorem appSN {ops : Array Oper} {rest : List Oper} {o : Oper} {a : Act} {Q : Exit → Act → World → Prop} {w0 w : World} (hgd : o.guard = none) (s x : Operand)
    (ho : o.op = .call { callee := .builtin .append, args := #[s, x], argTypes := #[22, 22] }) (base : Nat) (B : Option Addr) (n d : Nat) (xs : List Nd) (hn : n = xs.length) (hs : a.eval s = .slice B n d) (hown : OwnN base w0 w B d xs)
    (ad : Addr) (c : Nat) (ys : List Nd) (m : Nat) (hm : m = ys.length) (hx : a.eval x = .slice (some ad) m c) (us : List Value) (hus : NdC w0 us ys) (hcell : ∀ j u, us[j]? = some u → w.cell? (ad.add j) = some u) (hone : ∀ u ∈ us, u.oneCell' = true) (hbase : base ≤ w.heap.size) (hlen : xs.length + ys.length ≤ 1000000)
    (h : ∀ B' d' w', OwnN base w0 w' B' d' (xs ++ ys) → w.grownBy w' (Value.ownBlock (.slice B xs.length d)) → Below base w w' → wpList Try.prog ops Q rest (a.put o.dst (.slice B' (n + m) d')) w') :
    wpList Try.prog ops Q (o :: rest) a w := by
  obtain ⟨i0, hi, hz0, hz1, hz2⟩ := info_parts infoN
  subst hn hm
  obtain ⟨vs, hown, hvs⟩ := hown
  refine wpList_append_own w hgd s x _ ho base 35 i0 (.agg #[.int .u64 0, .slice none 0 0]) 2 32 Try.underlying22 hi hz0 hz1 hz2 rfl (by decide) _ _ _ hs hown ad ys.length c us hx hus.len hcell hone (by unfold maxLen; omega) (by omega) hbase ?_
  intro v' w' hown' hgrow _
  obtain ⟨B', d', rfl, -, -⟩ := own_formN hown'
  have hn : (xs ++ ys).length = xs.length + ys.length := by simp
  have ho2 : OwnN base w0 w' B' d' (xs ++ ys) := ⟨vs ++ us, by rw [hn]; exact hown', hvs.append hus⟩
  exact h B' d' w' ho2 hgrow ((Below.refl base w).grown hgrow hbase (fun g hg => OwnN.base_ (ls := xs) ⟨vs, hown, hvs⟩ hg))
end Go.Proofs.Ytceeopjmdfefjaa
