/- Calendars, plainly: which may be, which days work. No program in sight. -/
import Derived.Test.YthigmjjafilbcaaDoorCaM
import Derived.Test.YthigmjjafilbcaaDoorCivC
namespace Go.Proofs.YthigmjjafilbcaaDoor
set_option linter.unusedVariables false
/-- Does each of a list stand behind the one ahead of it, and may be? -/
def okL (l : List Int) : Bool := (List.range l.length).all fun i => inB (l.getD i 0) && (i == 0 || decide (l.getD (i - 1) 0 < l.getD i 0))
def listB (l : List Int) : Bool := okL l && decide (l.length ≤ 100)
def mayC (k : Nat) (off on : List Int) : Bool := decide (k < 127) && (listB off && (listB on && !(off.any fun n => decide (n ∈ on))))
def worksC (k : Nat) (off on : List Int) (n : Int) : Bool := decide (n ∈ on) || (!decide (n ∈ off) && !k.testBit ((n + 4) % 7).toNat)
theorem okL_iff {l : List Int} : okL l = true ↔ ∀ i, i < l.length → inB (l.getD i 0) = true ∧ (i = 0 ∨ l.getD (i - 1) 0 < l.getD i 0) := by
  unfold okL
  simp only [List.all_eq_true, List.mem_range, Bool.and_eq_true, Bool.or_eq_true, beq_iff_eq, decide_eq_true_eq]
theorem okL_lt {l : List Int} (h : okL l = true) {i j : Nat} (hij : i < j) (hj : j < l.length) : l.getD i 0 < l.getD j 0 := by
  induction j with
  | zero => omega
  | succ j ih =>
    have := (okL_iff.1 h (j + 1) hj).2
    rcases this with h0 | h1
    · omega
    · rw [Nat.add_sub_cancel] at h1
      by_cases e : i = j
      · subst e; exact h1
      · exact Int.lt_trans (ih (by omega) (by omega)) h1
theorem okL_pw {l : List Int} (h : okL l = true) : l.Pairwise (· < ·) := by
  rw [List.pairwise_iff_getElem]
  intro i j hi hj hij
  have := okL_lt h hij hj
  simpa [hi, hj] using this
theorem okL_le {l : List Int} (h : okL l = true) : l.Pairwise (· ≤ ·) := (okL_pw h).imp Int.le_of_lt
theorem okL_in {l : List Int} (h : okL l = true) {x : Int} (hx : x ∈ l) : inB x = true := by
  obtain ⟨j, hj, rfl⟩ := List.mem_iff_getElem.1 hx
  have := (okL_iff.1 h j hj).1
  simpa [hj] using this
theorem mayC_parts {k : Nat} {off on : List Int} (h : mayC k off on = true) : k < 127 ∧ okL off = true ∧ off.length ≤ 100 ∧ okL on = true ∧ on.length ≤ 100 ∧ ∀ n ∈ off, ¬ n ∈ on := by
  unfold mayC listB at h
  simp only [Bool.and_eq_true, decide_eq_true_eq, Bool.not_eq_true', List.any_eq_false, decide_eq_true_eq] at h
  exact ⟨h.1, h.2.1.1, h.2.1.2, h.2.2.1.1, h.2.2.1.2, h.2.2.2⟩
end Go.Proofs.YthigmjjafilbcaaDoor
