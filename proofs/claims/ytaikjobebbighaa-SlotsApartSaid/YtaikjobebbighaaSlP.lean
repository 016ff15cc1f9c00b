/- Slots: the place of a token, as one number. No program. -/
import Derived.Test.YtaikjobebbighaaSlN
namespace Go.Proofs.Ytaikjobebbighaa
set_option linter.unusedVariables false
theorem placeI_uniq {l : List Pl} {t q q' : Int} (h : placeI l t q) (h' : placeI l t q') : q = q' := by
  rcases h with ⟨rfl, h⟩ | ⟨k, hk, rfl, e, h⟩ <;> rcases h' with ⟨rfl, h'⟩ | ⟨k', hk', rfl, e', h'⟩
  · rfl
  · exact absurd e' (h k' hk')
  · exact absurd e (h' k hk)
  · by_cases h1 : k < k'
    · exact absurd e (h' k hk h1)
    · by_cases h2 : k' < k
      · exact absurd e' (h k' hk' h2)
      · have : k = k' := by omega
        rw [this]
def placeN : List Pl → Int → Nat → Int
  | [], _, _ => -1
  | x :: l, t, n => if x.1 = t then (n : Int) else placeN l t (n + 1)
def placeV (l : List Pl) (t : Int) : Int := placeN l t 0
theorem placeN_is (t : Int) : ∀ (l : List Pl) (n : Nat), (placeN l t n = -1 ∧ ∀ j (h : j < l.length), (l[j]).1 ≠ t) ∨ ∃ (k : Nat) (h : k < l.length), placeN l t n = ((n + k : Nat) : Int) ∧ (l[k]).1 = t ∧ ∀ j (h : j < l.length), j < k → (l[j]).1 ≠ t
  | [], n => .inl ⟨rfl, fun j h => absurd h (by simp)⟩
  | x :: l, n => by
    unfold placeN
    by_cases hx : x.1 = t
    · rw [if_pos hx]
      exact .inr ⟨0, by simp, rfl, hx, fun j h h2 => absurd h2 (by omega)⟩
    · rw [if_neg hx]
      rcases placeN_is t l (n + 1) with ⟨e, h⟩ | ⟨k, hk, e, h1, h2⟩
      · refine .inl ⟨e, fun j hj => ?_⟩
        rcases j with _ | j
        · exact hx
        · exact h j (by simpa using hj)
      · refine .inr ⟨k + 1, by simp; omega, by rw [e]; congr 1; omega, h1, fun j hj h3 => ?_⟩
        rcases j with _ | j
        · exact hx
        · exact h2 j (by simpa using hj) (by omega)
theorem placeV_is (l : List Pl) (t : Int) : placeI l t (placeV l t) := by
  rcases placeN_is t l 0 with ⟨e, h⟩ | ⟨k, hk, e, h1, h2⟩
  · exact .inl ⟨e, h⟩
  · exact .inr ⟨k, hk, by unfold placeV; rw [e]; simp, h1, h2⟩
theorem placeI_val {l : List Pl} {t q : Int} (h : placeI l t q) : q = placeV l t := placeI_uniq h (placeV_is l t)
theorem placeV_neg {l : List Pl} {t : Int} : placeV l t < 0 ↔ ∀ x ∈ l, x.1 ≠ t := by
  constructor
  · intro h x hx e
    obtain ⟨j, hj, rfl⟩ := List.getElem_of_mem hx
    rcases placeV_is l t with ⟨_, h1⟩ | ⟨k, hk, e1, _, _⟩
    · exact h1 j hj e
    · omega
  · intro h
    rcases placeV_is l t with ⟨e, h1⟩ | ⟨k, hk, e1, e2, _⟩
    · omega
    · exact absurd e2 (h _ (List.getElem_mem hk))
end Go.Proofs.Ytaikjobebbighaa
