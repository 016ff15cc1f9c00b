/- How far a majority has come: the row put in order, and the best of those whom more than half reach, are one. -/
import Derived.Test.YtdbodnpfeiplgaaPeM
import Derived.Test.YtdbodnpfeiplgaaPeL
namespace Go.Proofs.Ytdbodnpfeiplgaa
set_option linter.unusedVariables false
theorem geC_perm {a b : List Int} (h : a.Perm b) (x : Int) : geC a x = geC b x := h.countP_eq _
theorem geC_ge_iff {s : List Int} (hs : s.Pairwise (· ≤ ·)) {m : Nat} (hm : 1 ≤ m) (hn : m ≤ s.length) (x : Int) : m ≤ geC s x ↔ x ≤ s.getD (s.length - m) 0 := by
  have hk : s.length - m < s.length := by omega
  have hmon : ∀ i j (hi : i < s.length) (hj : j < s.length), i ≤ j → s[i] ≤ s[j] := by
    intro i j hi hj hij
    rcases Nat.lt_or_eq_of_le hij with h | h
    · exact List.pairwise_iff_getElem.1 hs i j hi hj h
    · subst h; exact Int.le_refl _
  rw [List.getD_eq_getElem?_getD, List.getElem?_eq_getElem hk, Option.getD_some]
  have hsplit : geC s x = geC (s.take (s.length - m)) x + geC (s.drop (s.length - m)) x := by
    unfold geC; rw [← List.countP_append, List.take_append_drop]
  constructor
  · intro h
    apply Classical.byContradiction
    intro hlt
    have h0 : geC (s.take (s.length - m + 1)) x = 0 := by
      unfold geC
      rw [List.countP_eq_zero]
      intro y hy
      obtain ⟨i, hi, rfl⟩ := List.mem_iff_getElem.1 hy
      rw [List.length_take] at hi
      rw [List.getElem_take]
      have := hmon i (s.length - m) (by omega) hk (by omega)
      simp; omega
    have h1 : geC s x = geC (s.take (s.length - m + 1)) x + geC (s.drop (s.length - m + 1)) x := by
      unfold geC; rw [← List.countP_append, List.take_append_drop]
    have h2 := geC_le (s.drop (s.length - m + 1)) x
    rw [List.length_drop] at h2
    omega
  · intro h
    have h1 : geC (s.drop (s.length - m)) x = (s.drop (s.length - m)).length := by
      unfold geC
      rw [List.countP_eq_length]
      intro y hy
      obtain ⟨i, hi, rfl⟩ := List.mem_iff_getElem.1 hy
      rw [List.length_drop] at hi
      rw [List.getElem_drop]
      have := hmon (s.length - m) (s.length - m + i) hk (by omega) (by omega)
      simp; omega
    rw [List.length_drop] at h1
    omega
/-- What the best is. -/
theorem best_is (al : List Int) (T : Int) (hT0 : 0 ≤ T) (hq : ∀ x ∈ al, al.length < 2 * geC al x ↔ x ≤ T) : ∀ (l : List Int) (b : Int), (∀ x ∈ l, x ∈ al) → b ≤ T → l.foldl (bestStep al) b ≤ T ∧ b ≤ l.foldl (bestStep al) b ∧ (∀ x ∈ l, x ≤ T → x ≤ l.foldl (bestStep al) b)
  | [], b, _, hb => ⟨hb, Int.le_refl _, fun x hx => absurd hx (by simp)⟩
  | x :: l, b, hl, hb => by
    have hx := hq x (hl x (by simp))
    have e : bestStep al b x = if x ≤ T ∧ b < x then x else b := by
      unfold bestStep
      by_cases h : x ≤ T
      · simp [h, hx.2 h]
      · simp [h, mt hx.1 h]
    rw [List.foldl_cons, e]
    have hb' : (if x ≤ T ∧ b < x then x else b) ≤ T := by split <;> omega
    have hbb : b ≤ (if x ≤ T ∧ b < x then x else b) := by split <;> omega
    have hxx : x ≤ T → x ≤ (if x ≤ T ∧ b < x then x else b) := by intro h; split <;> omega
    obtain ⟨h1, h2, h3⟩ := best_is al T hT0 hq l _ (fun y hy => hl y (by simp [hy])) hb'
    refine ⟨h1, by omega, fun y hy hyT => ?_⟩
    rcases List.mem_cons.1 hy with rfl | hy
    · have := hxx hyT; omega
    · exact h3 y hy hyT
theorem best_srt (a : List Int) (h0 : 1 ≤ a.length) (hp : ∀ x ∈ a, 0 ≤ x) : bestF a = (srt a).getD (a.length - (a.length / 2 + 1)) 0 := by
  have hk : a.length - (a.length / 2 + 1) < (srt a).length := by rw [srt_len]; omega
  have hT : (srt a).getD (a.length - (a.length / 2 + 1)) 0 ∈ a := by
    rw [List.getD_eq_getElem?_getD, List.getElem?_eq_getElem hk, Option.getD_some]
    exact (srt_perm a).mem_iff.1 (List.getElem_mem _)
  have hq : ∀ x ∈ a, a.length < 2 * geC a x ↔ x ≤ (srt a).getD (a.length - (a.length / 2 + 1)) 0 := by
    intro x hx
    have h := geC_ge_iff (srt_sorted a) (m := a.length / 2 + 1) (by omega) (by rw [srt_len]; omega) x
    rw [srt_len, geC_perm (srt_perm a)] at h
    rw [← h]
    omega
  obtain ⟨h1, h2, h3⟩ := best_is a _ (hp _ hT) hq a 0 (fun x hx => hx) (hp _ hT)
  exact Int.le_antisymm h1 (h3 _ hT (Int.le_refl _))
end Go.Proofs.Ytdbodnpfeiplgaa
