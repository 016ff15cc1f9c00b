/- A row of nodes that is given, opened. -/
import Derived.Test.YtceeopjmdfefjaaGrW
import Derived.Test.YtceeopjmdfefjaaOpenS
import Derived.Deep.SlicePairs
namespace Go.Proofs.Ytceeopjmdfefjaa
set_option linter.unusedVariables false
open Go.RowKit Go.WideShapes Go.ChangeShapes
section
variable {H : Type} {enc : TypeId × Value → H} {P : Program} {W : World}
theorem open_row_at64 {t e : TypeId} {fuel : Nat} {cs : List Value} {x : DataW H × List MemPlace} (ht : P.underlying t = some (.slice e)) (he : P.underlying e = some (.int .u64)) (hc : P.cellsOf e = 1)
    (hf : DataW.trod enc P W 0 (fun _ => true) true fuel t cs = some x) : ∃ (A : Option Addr) (c : Nat) (l : List Int), cs = [.slice A l.length c] ∧ (Sl W .u64 A l ∧ (A = none → c = 0) ∧ l.length ≤ c ∧ c ≤ maxLen) ∧ ∀ x ∈ l, (Lit.int .u64 x).wf = true := by
  rcases open_ints ht he hc hf with ⟨hcs, hx⟩ | ⟨a, len, cap, zs, hcs, _, hl, hm, hz, hx, hcell, hwz⟩
  · exact ⟨none, 0, [], hcs, ⟨Sl.nil _ _ _, fun _ => rfl, Nat.le_refl _, Nat.zero_le _⟩, fun x hx => by simp at hx⟩
  · simp only [if_true] at hz
    have hlen : (zs.take len).length = len := by rw [List.length_take]; omega
    refine ⟨some a, cap, zs.take len, by rw [hlen]; exact hcs, ⟨fun j hj => ?_, (fun e => by cases e), by omega, hm⟩, fun x hx => hwz x (List.mem_of_mem_take hx)⟩
    rw [hlen] at hj
    have hcj := hcell j (by omega)
    have hb := World.block_lt_of_cell? _ _ hcj
    rw [add_block] at hb
    refine ⟨a, rfl, hb, ?_⟩
    rw [hcj, List.getElem_take]
    simp [List.getElem?_eq_getElem (show j < zs.length by omega)]
theorem open_nodes {base : Nat} {t e u : TypeId} {f0 f1 : Field} {v : Value} {d : DataW H} {p : List MemPlace} (ht : P.underlying t = some (.slice e)) (he : P.underlying e = some (.struct #[f0, f1])) (ce : P.cellsOf e = 2) (o0 : f0.offset = 0) (o1 : f1.offset = 1)
    (c0 : P.cellsOf f0.type = 1) (c1 : P.cellsOf f1.type = 1) (h0 : P.underlying f0.type = some (.int .u64)) (h1 : P.underlying f1.type = some (.slice u)) (hu : P.underlying u = some (.int .u64)) (hcu : P.cellsOf u = 1)
    (hval : Value.okWide P W .any base t v) (h : DataW.Trod enc P W 0 (fun _ => true) true t v d p) :
    ∃ (A : Option Addr) (c : Nat) (ls : List Nd), v = .slice A ls.length c ∧ NdS W A ls ∧ ls.length ≤ c ∧ c ≤ maxLen ∧ ∀ n ∈ ls, (Lit.int .u64 n.id).wf = true ∧ ∀ x ∈ n.deps, (Lit.int .u64 x).wf = true := by
  obtain ⟨a1, len, cap, rfl⟩ := okWide_slice ht hval
  obtain ⟨fuel, hf⟩ := h
  rcases Go.Deep.open_slice_pairs ht he ce o0 o1 c0 c1 hf with ⟨hcs, hx⟩ | ⟨a, len', cap', m, n, V0, V1, D0, D1, P0, P1, hcs, _, hl, hm, hmm, hx, hV⟩
  · simp [Value.cells] at hcs
    obtain ⟨rfl, rfl, rfl⟩ := hcs
    exact ⟨none, 0, [], rfl, NdS.nil _ _, Nat.le_refl _, Nat.zero_le _, by simp⟩
  · simp [Value.cells] at hcs
    obtain ⟨rfl, rfl, rfl⟩ := hcs
    simp only [if_true] at hmm
    have each : ∀ i, ∃ nd : Nd, i < len → V0 i = .int .u64 nd.id ∧ (Lit.int .u64 nd.id).wf = true ∧ ∃ B c, V1 i = .slice B nd.deps.length c ∧ (Sl W .u64 B nd.deps ∧ (B = none → c = 0) ∧ nd.deps.length ≤ c ∧ c ≤ maxLen) ∧ ∀ x ∈ nd.deps, (Lit.int .u64 x).wf = true := fun i => by
      by_cases hi : i < len
      · obtain ⟨k0, k1, k2, k3⟩ := hV i (by omega)
        obtain ⟨z, hz, _, hw⟩ := DataW.trod_int h0 k2
        obtain ⟨A, c, l, e1, e2, e3⟩ := open_row_at64 h1 hu hcu k3
        injection e1 with e1
        simp only [List.cons.injEq, and_true] at hz
        exact ⟨⟨z, l⟩, fun _ => ⟨hz, hw, A, c, e1, e2, e3⟩⟩
      · exact ⟨⟨0, []⟩, fun h => absurd h hi⟩
    obtain ⟨f, hfs⟩ := Classical.axiomOfChoice each
    refine ⟨some a, cap, (List.range len).map f, by simp, fun j hj => ?_, by simp; omega, hm, fun nd hn => ?_⟩
    · have hj' : j < len := by simpa using hj
      obtain ⟨e0, _, B, c, e1, ⟨e2, e3, e4, e5⟩, _⟩ := hfs j hj'
      obtain ⟨k0, k1, _, _⟩ := hV j (by omega)
      have hb := World.block_lt_of_cell? _ _ k0
      rw [add_block] at hb
      refine ⟨a, B, c, rfl, hb, ?_, ?_, ?_, e3, ?_, e5⟩
      · rw [k0, e0]; simp
      · rw [k1, e1]; simp
      · simpa using e2
      · simpa using e4
    · obtain ⟨i, hi, rfl⟩ := List.mem_map.1 hn
      obtain ⟨e0, hw, B, c, e1, _, e6⟩ := hfs i (by simpa using hi)
      exact ⟨hw, e6⟩
end
end Go.Proofs.Ytceeopjmdfefjaa
