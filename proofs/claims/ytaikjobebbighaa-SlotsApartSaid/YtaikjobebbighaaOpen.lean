/- Opening struct arguments field by field: plain lemmas on readings. -/
import Derived.Test.YtaikjobebbighaaRows
import Derived.WalkKit
import Derived.ProofKit
import Derived.OpenShut
import Derived.Carry
import Derived.Lib.SmallJoins
namespace Go.Proofs.Ytaikjobebbighaa
set_option linter.unusedVariables false
open Go.RowKit Go.WideShapes Go.ChangeShapes
section
variable {H : Type} {enc : TypeId × Value → H} {P : Program} {w : World} {base : Nat} {spare : Nat → Bool} {held : Bool}
/-- A field of a struct that can be read can be read. -/
theorem field_of {fs : Array Field} {t : TypeId} {fuel : Nat} {cs : List Value} {x : DataW H × List MemPlace} (ht : P.underlying t = some (.struct fs)) (h : DataW.trod enc P w base spare held fuel t cs = some x) (i : Nat) (f : Field) (hf : fs[i]? = some f) :
    ∃ n y, DataW.trod enc P w base spare held n f.type ((cs.drop f.offset).take (P.cellsOf f.type)) = some y := by
  obtain ⟨xs, n, _, rfl, hl, hlen, hall⟩ := DataW.trod_struct ht h
  have := hall i f hf
  have hi : i < xs.length := by
    rw [hlen]
    by_cases hlt : i < fs.size
    · exact hlt
    · rw [Array.getElem?_eq_none (by omega)] at hf; cases hf
  rw [List.getElem?_eq_getElem hi] at this
  exact ⟨n, _, this⟩
/-- .. and a field of an integer kind holds an integer of the kind. -/
theorem int_of {fs : Array Field} {t : TypeId} {fuel : Nat} {cs : List Value} {x : DataW H × List MemPlace} {k : IntKind} (ht : P.underlying t = some (.struct fs)) (h : DataW.trod enc P w base spare held fuel t cs = some x) (i : Nat) (f : Field) (hf : fs[i]? = some f)
    (hk : P.underlying f.type = some (.int k)) : ∃ n, (cs.drop f.offset).take (P.cellsOf f.type) = [.int k n] ∧ (Lit.int k n).wf = true := by
  obtain ⟨n, y, hy⟩ := field_of ht h i f hf
  obtain ⟨m, e1, _, e3⟩ := DataW.trod_int hk hy
  exact ⟨m, e1, e3⟩
theorem array7 {cs : Array Value} (h : cs.size = 7) : ∃ a b c d e f g, cs = #[a, b, c, d, e, f, g] := by
  obtain ⟨l⟩ := cs
  match l, h with
  | [a, b, c, d, e, f, g], _ => exact ⟨a, b, c, d, e, f, g, rfl⟩
end
end Go.Proofs.Ytaikjobebbighaa
