/- Rows of nodes of the call's own, more: made, filled from behind, cut, appended to at a step of a region that draws. -/
import Derived.Test.YtceeopjmdfefjaaGrZ
namespace Go.Proofs.Ytceeopjmdfefjaa
set_option linter.unusedVariables false
open Go.RowKit
theorem NdS.cut {w : World} {ad : Addr} {ls : List Nd} (h : NdS w (some ad) ls) {n c : Nat} (hc : ls.length ≤ c) : ∃ ad', (if c = n then some ad else (some ad : Option Addr).map (·.add (n * 2))) = some ad' ∧ NdS w (some ad') (ls.drop n) := by
  by_cases e : c = n
  · refine ⟨ad, by rw [if_pos e], ?_⟩
    rw [List.drop_of_length_le (by omega)]
    exact NdS.nil _ _
  · refine ⟨ad.add (n * 2), by rw [if_neg e]; rfl, fun j hj => ?_⟩
    rw [List.length_drop] at hj
    obtain ⟨ad1, B, c1, e1, hb, h1, h2, h3⟩ := h (n + j) (by omega)
    injection e1 with e1
    subst e1
    refine ⟨_, B, c1, rfl, by rw [add_block]; exact hb, ?_, ?_, ?_⟩
    · rw [add_add, show n * 2 + j * 2 = (n + j) * 2 by omega, List.getElem_drop]
      exact h1
    · rw [add_add, show n * 2 + (j * 2 + 1) = (n + j) * 2 + 1 by omega, List.getElem_drop]
      exact h2
    · rw [List.getElem_drop]
      exact h3
/-- append(row, src...) at a step of a region that draws. -/
theorem stepSN {y : Nat → Option Bool} {o : Oper} {a : Act} {w0 w : World} {K : Act → World → Prop} {Q : Exit → Act → World → Prop} {E : Prop} (hgd : o.guard = none) (D : Nat) (hD : o.dst = some D) (s x : Operand)
    (ho : o.op = .call { callee := .builtin .append, args := #[s, x], argTypes := #[22, 22] }) (base : Nat) (B : Option Addr) (n d : Nat) (xs : List Nd) (hn : n = xs.length) (hs : a.eval s = .slice B n d) (hown : OwnN base w0 w B d xs)
    (ad : Addr) (c : Nat) (ys : List Nd) (m : Nat) (hm : m = ys.length) (hx : a.eval x = .slice (some ad) m c) (hsl : NdS w (some ad) ys) (hsw : NdS w0 (some ad) ys) (hbw : Below w0.heap.size w0 w) (hbase : base ≤ w.heap.size) (hlen : xs.length + ys.length ≤ 1000000) (N : Nat) (hN : N = n + m)
    (h : ∀ B' d' w', OwnN base w0 w' B' d' (xs ++ ys) → Below base w w' → K (a.put (some D) (.slice B' N d')) w') :
    if Region.wanted o y = true then Oper.wp Try.prog o a w K Q else E := by
  have hwt : Region.wanted o y = true := by simp [Region.wanted, hgd]
  rw [if_pos hwt]
  obtain ⟨i0, hi, hz0, hz1, hz2⟩ := info_parts infoN
  subst hn hm hN
  rw [← hD] at h
  obtain ⟨vs, hown, hvs⟩ := hown
  obtain ⟨us, hus, hcell, hone⟩ := hsw.cells
  refine wp_append_own w s x _ ho base 35 i0 (.agg #[.int .u64 0, .slice none 0 0]) 2 32 Try.underlying22 hi hz0 hz1 hz2 rfl (by decide) _ _ _ hs hown ad ys.length c us hx hus.len
    (fun j u hu => (hbw.cell (World.block_lt_of_cell? _ _ (hcell j u hu))).trans (hcell j u hu)) hone (by unfold maxLen; omega) (by omega) hbase ?_
  intro v' w' hown' hgrow _
  obtain ⟨B', d', rfl, -, -⟩ := own_formN hown'
  have hn : (xs ++ ys).length = xs.length + ys.length := by simp
  have ho2 : OwnN base w0 w' B' d' (xs ++ ys) := ⟨vs ++ us, by rw [hn]; exact hown', hvs.append hus⟩
  exact h B' d' w' ho2 ((Below.refl base w).grown hgrow hbase (fun g hg => OwnN.base_ (ls := xs) ⟨vs, hown, hvs⟩ hg))
theorem OwnN.drew {base : Nat} {w0 w : World} {B : Option Addr} {d : Nat} {ls : List Nd} (h : OwnN base w0 w B d ls) : OwnN base w0 w.drew B d ls := h
theorem NdS.drew {w : World} {B : Option Addr} {ls : List Nd} (h : NdS w B ls) : NdS w.drew B ls := h
/-- A row that is filled from behind: k nodes are there. -/
structure Back (V : World) (us : List Value) (ls : List Nd) (k : Nat) : Prop where
  len : us.length = ls.length * 2
  at_ : ∀ j (hj : j < ls.length), j < k → us[(ls.length - 1 - j) * 2]? = some (.int .u64 ls[j].id) ∧ ∃ B c, us[(ls.length - 1 - j) * 2 + 1]? = some (.slice B ls[j].deps.length c) ∧ Sl V .u64 B ls[j].deps ∧ (B = none → c = 0) ∧ ls[j].deps.length ≤ c ∧ c ≤ maxLen
theorem Back.start {V : World} {us : List Value} {ls : List Nd} (h : us.length = ls.length * 2) : Back V us ls 0 := ⟨h, fun j hj h0 => absurd h0 (by omega)⟩
theorem Back.step {V : World} {us : List Value} {ls : List Nd} {k : Nat} (h : Back V us ls k) (hk : k < ls.length) {B : Option Addr} {c : Nat} (hs : Sl V .u64 B ls[k].deps) (h0 : B = none → c = 0) (h1 : ls[k].deps.length ≤ c) (h2 : c ≤ maxLen) :
    Back V ((us.set ((ls.length - 1 - k) * 2) (.int .u64 ls[k].id)).set ((ls.length - 1 - k) * 2 + 1) (.slice B ls[k].deps.length c)) ls (k + 1) := by
  have hl := h.len
  refine ⟨by rw [List.length_set, List.length_set]; exact hl, fun j hj hjk => ?_⟩
  by_cases e : j = k
  · subst e
    refine ⟨?_, B, c, ?_, hs, h0, h1, h2⟩
    · rw [List.getElem?_set_ne (by omega), List.getElem?_set_self (by omega)]
    · rw [List.getElem?_set_self (by rw [List.length_set]; omega)]
  · have := h.at_ j hj (by omega)
    rw [List.getElem?_set_ne (by omega), List.getElem?_set_ne (by omega), List.getElem?_set_ne (by omega), List.getElem?_set_ne (by omega)]
    exact this
theorem Back.done {V : World} {us : List Value} {ls : List Nd} (h : Back V us ls ls.length) : NdC V us ls.reverse := by
  refine ⟨by rw [List.length_reverse]; exact h.len, fun j hj => ?_⟩
  rw [List.length_reverse] at hj
  have := h.at_ (ls.length - 1 - j) (by omega) (by omega)
  rw [show ls.length - 1 - (ls.length - 1 - j) = j by omega] at this
  rw [List.getElem_reverse]
  exact this
/-- The numbers but one, of the first k. -/
def wantK (o : List Int) (s : Int) (k : Nat) : List Int := (o.take k).filter (fun x => decide (x ≠ s))
theorem wantK_yes {o : List Int} {s : Int} {k : Nat} (hk : k < o.length) (h : o[k] ≠ s) : wantK o s (k + 1) = wantK o s k ++ [o[k]] := by
  unfold wantK
  rw [List.take_succ_eq_append_getElem hk, List.filter_append, List.filter_cons_of_pos (by simpa using h)]
  rfl
theorem wantK_no {o : List Int} {s : Int} {k : Nat} (hk : k < o.length) (h : o[k] = s) : wantK o s (k + 1) = wantK o s k := by
  unfold wantK
  rw [List.take_succ_eq_append_getElem hk, List.filter_append, List.filter_cons_of_neg (by simpa using h)]
  simp
theorem wantK_len (o : List Int) (s : Int) (k : Nat) : (wantK o s k).length ≤ o.length := by
  unfold wantK
  have := List.length_filter_le (fun x : Int => decide (x ≠ s)) (o.take k)
  rw [List.length_take] at this
  omega
end Go.Proofs.Ytceeopjmdfefjaa
