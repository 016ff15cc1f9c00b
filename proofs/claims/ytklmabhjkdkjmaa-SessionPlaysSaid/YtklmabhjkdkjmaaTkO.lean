/- A given row of what was told, opened. -/
import Derived.Test.YtklmabhjkdkjmaaSeT
import Derived.Test.YtklmabhjkdkjmaaOpenS
import Derived.Deep.Slices
namespace Go.Proofs.Ytklmabhjkdkjmaa
set_option linter.unusedVariables false
open Go.RowKit Go.WideShapes Go.ChangeShapes
section
variable {H : Type} {enc : TypeId × Value → H} {P : Program} {W : World}
theorem take_one {cs : List Value} {i : Nat} {v : Value} (h : (cs.drop i).take 1 = [v]) : cs[i]? = some v := by
  have := congrArg (fun l => l[0]?) h
  simpa [List.getElem?_take, List.getElem?_drop] using this
theorem open_talks {base : Nat} {t e : TypeId} {f0 f1 f2 k0 k1 : Field} {v : Value} {d : DataW H} {p : List MemPlace} (ht : P.underlying t = some (.slice e)) (he : P.underlying e = some (.struct #[f0, f1, f2])) (ce : P.cellsOf e = 4) (o0 : f0.offset = 0) (o1 : f1.offset = 1) (o2 : f2.offset = 2)
    (c0 : P.cellsOf f0.type = 1) (c1 : P.cellsOf f1.type = 1) (c2 : P.cellsOf f2.type = 2) (h0 : P.underlying f0.type = some (.int .u64)) (h1 : P.underlying f1.type = some (.int .u64)) (h2 : P.underlying f2.type = some (.struct #[k0, k1]))
    (q0 : k0.offset = 0) (q1 : k1.offset = 1) (z0 : P.cellsOf k0.type = 1) (z1 : P.cellsOf k1.type = 1) (u0 : P.underlying k0.type = some (.int .i64)) (u1 : P.underlying k1.type = some (.int .u64))
    (hval : Value.okWide P W .any base t v) (h : DataW.Trod enc P W 0 (fun _ => true) true t v d p) :
    ∃ (A : Option Addr) (c : Nat) (ls : List Tk), v = .slice A ls.length c ∧ TkS W A ls ∧ ls.length ≤ c ∧ c ≤ maxLen ∧ ∀ n ∈ ls, (Lit.int .u64 n.cl).wf = true ∧ (Lit.int .u64 n.sq).wf = true ∧ (Lit.int .i64 n.e).wf = true ∧ (Lit.int .u64 n.n).wf = true := by
  obtain ⟨a1, len, cap, rfl⟩ := okWide_slice ht hval
  obtain ⟨fuel, hf⟩ := h
  rcases Go.Deep.open_slice ht hf with ⟨hcs, hx⟩ | ⟨a, len', cap', m, n, D, Pl, hcs, hb, hl, hm, hmm, hx, hV⟩
  · simp [Value.cells] at hcs
    obtain ⟨rfl, rfl, rfl⟩ := hcs
    exact ⟨none, 0, [], rfl, TkS.nil _ _, Nat.le_refl _, Nat.zero_le _, by simp⟩
  · simp [Value.cells] at hcs
    obtain ⟨rfl, rfl, rfl⟩ := hcs
    simp only [if_true] at hmm
    have each : ∀ i, ∃ t : Tk, i < len → W.cell? (a.add (i * 4)) = some (.int .u64 t.cl) ∧ W.cell? (a.add (i * 4 + 1)) = some (.int .u64 t.sq) ∧ W.cell? (a.add (i * 4 + 2)) = some (.int .i64 t.e) ∧ W.cell? (a.add (i * 4 + 3)) = some (.int .u64 t.n) ∧
        (Lit.int .u64 t.cl).wf = true ∧ (Lit.int .u64 t.sq).wf = true ∧ (Lit.int .i64 t.e).wf = true ∧ (Lit.int .u64 t.n).wf = true := fun i => by
      by_cases hi : i < len
      · obtain ⟨cs', k1', k2⟩ := hV i (by omega)
        rw [ce] at k1'
        obtain ⟨_, hlen, hcell⟩ := World.cells?_some k1'
        obtain ⟨x0, e0, w0⟩ := int_of he k2 0 f0 rfl h0
        obtain ⟨x1, e1, w1⟩ := int_of he k2 1 f1 rfl h1
        obtain ⟨n2, y2, hy2⟩ := field_of he k2 2 f2 rfl
        obtain ⟨x2, e2, w2⟩ := int_of h2 hy2 0 k0 rfl u0
        obtain ⟨x3, e3, w3⟩ := int_of h2 hy2 1 k1 rfl u1
        rw [o0, c0] at e0
        rw [o1, c1] at e1
        rw [o2, c2, q0, z0] at e2
        rw [o2, c2, q1, z1] at e3
        have g0 := take_one e0
        have g1 := take_one e1
        have g2 := take_one e2
        have g3 := take_one e3
        simp [List.getElem?_take, List.getElem?_drop] at g2 g3
        have m0 := hcell 0 (by omega)
        have m1 := hcell 1 (by omega)
        have m2 := hcell 2 (by omega)
        have m3 := hcell 3 (by omega)
        rw [add_add] at m0 m1 m2 m3
        exact ⟨⟨x0, x1, x2, x3⟩, fun _ => ⟨m0.trans g0, m1.trans g1, m2.trans g2, m3.trans g3, w0, w1, w2, w3⟩⟩
      · exact ⟨⟨0, 0, 0, 0⟩, fun h => absurd h hi⟩
    obtain ⟨f, hfs⟩ := Classical.axiomOfChoice each
    refine ⟨some a, cap, (List.range len).map f, by simp, fun j hj => ?_, by simp; omega, hm, fun nd hn => ?_⟩
    · have hj' : j < len := by simpa using hj
      obtain ⟨e0, e1, e2, e3, _⟩ := hfs j hj'
      have hb := World.block_lt_of_cell? _ _ e0
      rw [add_block] at hb
      refine ⟨a, rfl, hb, ?_, ?_, ?_, ?_⟩
      · simpa using e0
      · simpa using e1
      · simpa using e2
      · simpa using e3
    · obtain ⟨i, hi, rfl⟩ := List.mem_map.1 hn
      obtain ⟨_, _, _, _, e6⟩ := hfs i (by simpa using hi)
      exact e6
end
end Go.Proofs.Ytklmabhjkdkjmaa
