/- Opening an argument that is an expression: five fields, of bits and a star each. -/
import Derived.Test.YthigmjjafilbcaaOpenS
import Derived.Test.YthigmjjafilbcaaCaG
namespace Go.Proofs.Ythigmjjafilbcaa
set_option linter.unusedVariables false
set_option maxRecDepth 100000
open Go.RowKit Go.WideShapes Go.ChangeShapes
theorem okWide_array {P : Program} {w : World} {r : Reach} {base : Nat} {t e : TypeId} {n : Nat} {v : Value} (ht : P.underlying t = some (.array n e)) (h : Value.okWide P w r base t v) : ∃ cs, v = .agg cs ∧ cs.size = P.cellsOf t := by
  simp only [Value.okWide, ht] at h
  obtain ⟨cs, h1, h2, _⟩ := h
  exact ⟨cs, h1, h2⟩
theorem array10 {cs : Array Value} (h : cs.size = 10) : ∃ a b c d e f g i j k, cs = #[a, b, c, d, e, f, g, i, j, k] := by
  obtain ⟨l⟩ := cs
  match l, h with
  | [a, b, c, d, e, f, g, i, j, k], _ => exact ⟨a, b, c, d, e, f, g, i, j, k, rfl⟩
theorem cellsX : Try.prog.cellsOf 40 = 10 := by kernel_rfl
theorem cellsFd : Try.prog.cellsOf 38 = 2 := by kernel_rfl
theorem cellsU64 : Try.prog.cellsOf 36 = 1 := by kernel_rfl
theorem cellsBo : Try.prog.cellsOf 4 = 1 := by kernel_rfl
theorem open_fld {H : Type} {enc : TypeId × Value → H} {W : World} {m : Nat} {a b : Value} {y : DataW H × List MemPlace}
    (h : DataW.trod enc Try.prog W 0 (fun _ => true) true m 38 [a, b] = some y) : ∃ (n : Nat) (s : Bool), a = .int .u64 n ∧ b = .bool s ∧ n < 18446744073709551616 := by
  obtain ⟨x0, e0, w0⟩ := int_of Try.underlying38 h 0 _ rfl Try.underlying36
  obtain ⟨n1, y1, hy1⟩ := field_of Try.underlying38 h 1 _ rfl
  obtain ⟨s, e1, _⟩ := DataW.trod_bool Try.underlying4 hy1
  simp [cellsU64, cellsBo] at e0 e1
  subst e0 e1
  have hb := wf_u64 w0
  obtain ⟨k, rfl⟩ : ∃ k : Nat, x0 = k := ⟨x0.toNat, by omega⟩
  exact ⟨k, s, rfl, rfl, by omega⟩
theorem open_expr {H : Type} {enc : TypeId × Value → H} {W : World} {base : Nat} {v : Value} {d : DataW H} {p : List MemPlace}
    (hval : Value.okWide Try.prog W .any base 40 v) (h : DataW.Trod enc Try.prog W 0 (fun _ => true) true 40 v d p) : ∃ x : Xp, v = xpV x ∧ x.Ok := by
  obtain ⟨cs, rfl, hs⟩ := okWide_array Try.underlying40 hval
  obtain ⟨c0, c1, c2, c3, c4, c5, c6, c7, c8, c9, rfl⟩ := array10 (hs.trans cellsX)
  obtain ⟨fuel, hf⟩ := h
  obtain ⟨xs, m, _, _, hl, hlen, hall⟩ := DataW.trod_array Try.underlying40 hf
  have g : ∀ i, i < 5 → ∃ y, xs[i]? = some y := fun i hi => ⟨_, List.getElem?_eq_getElem (show i < xs.length by omega)⟩
  obtain ⟨y0, q0⟩ := g 0 (by omega)
  obtain ⟨y1, q1⟩ := g 1 (by omega)
  obtain ⟨y2, q2⟩ := g 2 (by omega)
  obtain ⟨y3, q3⟩ := g 3 (by omega)
  obtain ⟨y4, q4⟩ := g 4 (by omega)
  have h0 := (hall 0 (by omega)).trans q0
  have h1 := (hall 1 (by omega)).trans q1
  have h2 := (hall 2 (by omega)).trans q2
  have h3 := (hall 3 (by omega)).trans q3
  have h4 := (hall 4 (by omega)).trans q4
  rw [cellsFd] at h0 h1 h2 h3 h4
  obtain ⟨b0, s0, rfl, rfl, l0⟩ := open_fld h0
  obtain ⟨b1, s1, rfl, rfl, l1⟩ := open_fld h1
  obtain ⟨b2, s2, rfl, rfl, l2⟩ := open_fld h2
  obtain ⟨b3, s3, rfl, rfl, l3⟩ := open_fld h3
  obtain ⟨b4, s4, rfl, rfl, l4⟩ := open_fld h4
  exact ⟨⟨b0, b1, b2, b3, b4, s0, s1, s2, s3, s4⟩, rfl, ⟨l0, l1, l2, l3, l4⟩⟩
end Go.Proofs.Ythigmjjafilbcaa
