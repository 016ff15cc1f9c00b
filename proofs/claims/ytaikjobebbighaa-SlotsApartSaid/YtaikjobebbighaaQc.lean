/- A region that draws its order, walked once, in a class of worlds: reads, guards, and calls that may make memory of their own. -/
import Derived.BigQuiet
import Derived.Lib.Hide
namespace Go.Proofs.Ytaikjobebbighaa
set_option linter.unusedVariables false
/-- The worlds that hold S, by letters. -/
theorem class_of (S : World → Prop) (w : World) (h : S w) : ∃ (T : Type) (f : T → World), Nonempty T ∧ (∀ n, S (f n)) ∧ ∀ v, S v → ∃ n, v = f n :=
  ⟨{v // S v}, Subtype.val, ⟨⟨w, h⟩⟩, fun n => n.2, fun v h => ⟨⟨v, h⟩, rfl⟩⟩
theorem wp_region_class {P : Program} {id : Nat} {Q : Exit → Act → World → Prop} {a : Act} {w : World} {l : List Oper} {T : Type} (f : T → World) (hm : P.follows .mixedOrders = true) (hB : Region.lexB .any l.toArray = true) (h0 : ∃ n, w.drew = f n)
    (h : wpQuiet P l.toArray (fun w' => ∃ n, w' = f n) (fun a' => ∀ w', (∃ n, w' = f n) → Q .normal a' w') l a) : (Code.region id l.toArray true).wp P Q a w :=
  wp_region_quiet (C := fun w' => ∃ n, w' = f n) hm hB h0 (by simpa using h)
end Go.Proofs.Ytaikjobebbighaa
