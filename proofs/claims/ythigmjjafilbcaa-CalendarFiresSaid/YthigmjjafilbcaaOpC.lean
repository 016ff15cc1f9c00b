/- Opening an argument that is a calendar: a byte and two slices of integers. -/
import Derived.Test.YthigmjjafilbcaaOpenS
import Derived.Test.YthigmjjafilbcaaCaO
namespace Go.Proofs.Ythigmjjafilbcaa
set_option linter.unusedVariables false
set_option maxRecDepth 100000
open Go.RowKit Go.WideShapes Go.ChangeShapes
section
variable {H : Type} {enc : TypeId × Value → H} {P : Program} {w : World} {base : Nat}
/-- A field that is a slice of integers. -/
theorem row_of {fs : Array Field} {t e : TypeId} {fuel : Nat} {cs : List Value} {x : DataW H × List MemPlace} {k : IntKind} (ht : P.underlying t = some (.struct fs)) (h : DataW.trod enc P w base (fun _ => true) true fuel t cs = some x) (i : Nat) (f : Field) (hf : fs[i]? = some f)
    (hk : P.underlying f.type = some (.slice e)) (he : P.underlying e = some (.int k)) (hc : P.cellsOf e = 1) :
    ∃ (A : Option Addr) (c : Nat) (l : List Int), (cs.drop f.offset).take (P.cellsOf f.type) = [.slice A l.length c] ∧ Sl w k A l ∧ l.length ≤ c ∧ c ≤ maxLen ∧ (∀ x ∈ l, (Lit.int k x).wf = true) := by
  obtain ⟨n, y, hy⟩ := field_of ht h i f hf
  rcases open_ints hk he hc hy with ⟨hcs, hx⟩ | ⟨a, len', cap', zs, hcs, _, hl, hm, hz, hx, hcell, hwz⟩
  · exact ⟨none, 0, [], hcs, Sl.nil _ _ _, Nat.le_refl _, Nat.zero_le _, fun x hx => by simp at hx⟩
  · simp only [if_true] at hz
    have hlen : (zs.take len').length = len' := by rw [List.length_take]; omega
    refine ⟨some a, cap', zs.take len', by rw [hlen]; exact hcs, fun j hj => ?_, by omega, hm, fun x hx => hwz x (List.mem_of_mem_take hx)⟩
    rw [hlen] at hj
    have hcj := hcell j (by omega)
    have hb := World.block_lt_of_cell? _ _ hcj
    rw [add_block] at hb
    refine ⟨a, rfl, hb, ?_⟩
    rw [hcj, List.getElem_take]
    simp [List.getElem?_eq_getElem (show j < zs.length by omega)]
end
theorem array3 {cs : Array Value} (h : cs.size = 3) : ∃ a b c, cs = #[a, b, c] := by
  obtain ⟨l⟩ := cs
  match l, h with
  | [a, b, c], _ => exact ⟨a, b, c, rfl⟩
theorem cellsCal : Try.prog.cellsOf 24 = 3 := by kernel_rfl
theorem cellsU8 : Try.prog.cellsOf 5 = 1 := by kernel_rfl
theorem cellsInts : Try.prog.cellsOf 22 = 1 := by kernel_rfl
theorem open_cal {H : Type} {enc : TypeId × Value → H} {W : World} {base : Nat} {v : Value} {d : DataW H} {p : List MemPlace}
    (hval : Value.okWide Try.prog W .any base 24 v) (h : DataW.Trod enc Try.prog W 0 (fun _ => true) true 24 v d p) :
    ∃ (k : Nat) (A : Option Addr) (cA : Nat) (off : List Int) (B : Option Addr) (cB : Nat) (on : List Int), v = .agg #[.int .u8 k, .slice A off.length cA, .slice B on.length cB] ∧ k < 256 ∧ Sl W .i64 A off ∧ Sl W .i64 B on ∧ (∀ x ∈ off, (Lit.int .i64 x).wf = true) ∧ (∀ x ∈ on, (Lit.int .i64 x).wf = true) := by
  obtain ⟨cs, rfl, hs⟩ := okWide_struct Try.underlying24 hval
  obtain ⟨c0, c1, c2, rfl⟩ := array3 (hs.trans cellsCal)
  obtain ⟨fuel, hf⟩ := h
  obtain ⟨x0, e0, w0⟩ := int_of Try.underlying24 hf 0 _ rfl Try.underlying5
  obtain ⟨A, ca, off, e1, s1, l1, m1, w1⟩ := row_of Try.underlying24 hf 1 _ rfl Try.underlying22 Try.underlying3 (by kernel_rfl)
  obtain ⟨B, cb, on, e2, s2, l2, m2, w2⟩ := row_of Try.underlying24 hf 2 _ rfl Try.underlying22 Try.underlying3 (by kernel_rfl)
  simp [Value.cells, cellsU8, cellsInts] at e0 e1 e2
  subst e0 e1 e2
  have hb := wf_u8 w0
  obtain ⟨k, rfl⟩ : ∃ k : Nat, x0 = k := ⟨x0.toNat, by omega⟩
  exact ⟨k, A, ca, off, B, cb, on, rfl, by omega, s1, s2, w1, w2⟩
end Go.Proofs.Ythigmjjafilbcaa
