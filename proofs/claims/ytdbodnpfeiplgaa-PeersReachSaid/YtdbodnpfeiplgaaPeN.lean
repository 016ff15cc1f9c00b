/- The plain law of the reference's Add: the number is put in its place. -/
import Derived.Test.YtdbodnpfeiplgaaPeM
namespace Go.Proofs.Ytdbodnpfeiplgaa
set_option linter.unusedVariables false
/-- One step of the reference's Add. -/
def insStep (id : Int) (s : List Int × Bool) (x : Int) : List Int × Bool := if s.2 = false ∧ id < x then (s.1 ++ [id] ++ [x], true) else (s.1 ++ [x], s.2)
def insS (id : Int) (l : List Int) : List Int × Bool := l.foldl (insStep id) ([], false)
def insF (id : Int) (l : List Int) : List Int := if (insS id l).2 = true then (insS id l).1 else (insS id l).1 ++ [id]
theorem insS_snoc (id : Int) (l : List Int) (x : Int) : insS id (l ++ [x]) = insStep id (insS id l) x := by unfold insS; rw [List.foldl_append]; rfl
theorem insS_len (id : Int) (l : List Int) : ∀ k, k ≤ l.length → (insS id (l.take k)).1.length ≤ k + 1 ∧ ((insS id (l.take k)).2 = false → (insS id (l.take k)).1.length = k) := by
  intro k
  induction k with
  | zero => intro _; simp [insS]
  | succ k ih =>
    intro hk
    obtain ⟨h1, h2⟩ := ih (by omega)
    rw [List.take_succ_eq_append_getElem (by omega), insS_snoc]
    unfold insStep
    split
    · rename_i h
      have := h2 h.1
      simp
      omega
    · refine ⟨by simp; omega, fun h => by simp at h ⊢; exact h2 h⟩
theorem before_after {l : List Int} (h : l.Pairwise (· < ·)) {k j : Nat} (hkj : k ≤ j) (hj : j < l.length) {a : Int} (ha : a ∈ l.take k) : a < l[j] := by
  rw [← List.take_append_drop k l, List.pairwise_append] at h
  refine h.2.2 a ha _ ?_
  have : l[j] = (l.drop k)[j - k]'(by simp; omega) := by
    rw [List.getElem_drop]; congr 1; omega
  rw [this]
  exact List.getElem_mem _
theorem insS_take (id : Int) (l : List Int) (h : l.Pairwise (· < ·)) (hn : id ∉ l) : ∀ k, k ≤ l.length →
    ((insS id (l.take k)).2 = true ∧ (insS id (l.take k)).1.Perm (l.take k ++ [id]) ∧ (insS id (l.take k)).1.Pairwise (· ≤ ·) ∧ (∀ x ∈ (insS id (l.take k)).1, ∀ j (hj : j < l.length), k ≤ j → x ≤ l[j])) ∨
      ((insS id (l.take k)).2 = false ∧ (insS id (l.take k)).1 = l.take k ∧ ∀ x ∈ l.take k, x < id) := by
  intro k
  induction k with
  | zero => intro _; exact .inr ⟨rfl, by simp [insS], by simp⟩
  | succ k ih =>
    intro hk
    have hlt : k < l.length := by omega
    have hs : insS id (l.take (k + 1)) = insStep id (insS id (l.take k)) l[k] := by rw [List.take_succ_eq_append_getElem hlt, insS_snoc]
    rw [hs, List.take_succ_eq_append_getElem hlt]
    have hx : ∀ j (hj : j < l.length), k + 1 ≤ j → l[k] < l[j] := fun j hj hkj => before_after h hkj hj (by rw [List.take_succ_eq_append_getElem hlt]; exact List.mem_append_right _ (List.mem_singleton.2 rfl))
    have hb : ∀ a ∈ l.take k, a < l[k] := fun a ha => before_after h (Nat.le_refl k) hlt ha
    rcases ih (by omega) with ⟨h1, h2, h3, h4⟩ | ⟨h1, h2, h3⟩
    · have e : insStep id (insS id (l.take k)) l[k] = ((insS id (l.take k)).1 ++ [l[k]], true) := by unfold insStep; rw [if_neg (by rw [h1]; simp), h1]
      rw [e]
      refine .inl ⟨rfl, ?_, ?_, ?_⟩
      · refine (h2.append_right [l[k]]).trans ?_
        rw [List.append_assoc, List.append_assoc]
        exact (List.perm_append_comm (l₁ := [id]) (l₂ := [l[k]])).append_left _
      · rw [List.pairwise_append]
        refine ⟨h3, by simp, fun a ha b hb' => ?_⟩
        rw [List.mem_singleton] at hb'
        subst hb'
        exact h4 a ha k hlt (Nat.le_refl k)
      · intro x hx' j hj hkj
        rcases List.mem_append.1 hx' with hx' | hx'
        · exact h4 x hx' j hj (by omega)
        · rw [List.mem_singleton] at hx'
          subst hx'
          exact Int.le_of_lt (hx j hj hkj)
    · by_cases hid : id < l[k]
      · have e : insStep id (insS id (l.take k)) l[k] = (l.take k ++ [id] ++ [l[k]], true) := by unfold insStep; rw [if_pos ⟨h1, hid⟩, h2]
        rw [e]
        refine .inl ⟨rfl, ?_, ?_, ?_⟩
        · rw [List.append_assoc, List.append_assoc]
          exact (List.perm_append_comm (l₁ := [id]) (l₂ := [l[k]])).append_left _
        · rw [List.append_assoc, List.pairwise_append]
          refine ⟨?_, by simp; omega, fun a ha b hb' => ?_⟩
          · have := h
            rw [← List.take_append_drop k l, List.pairwise_append] at this
            exact this.1.imp fun h => Int.le_of_lt h
          · simp at hb'
            rcases hb' with rfl | rfl
            · exact Int.le_of_lt (h3 a ha)
            · exact Int.le_of_lt (hb a ha)
        · intro x hx' j hj hkj
          have hkj' := hx j hj hkj
          rcases List.mem_append.1 hx' with hx' | hx'
          · rcases List.mem_append.1 hx' with hx' | hx'
            · have := hb x hx'; omega
            · rw [List.mem_singleton] at hx'; omega
          · rw [List.mem_singleton] at hx'; omega
      · have e : insStep id (insS id (l.take k)) l[k] = (l.take k ++ [l[k]], false) := by unfold insStep; rw [if_neg (by rintro ⟨_, h⟩; exact hid h), h2, h1]
        rw [e]
        refine .inr ⟨rfl, rfl, fun x hx' => ?_⟩
        rcases List.mem_append.1 hx' with hx' | hx'
        · exact h3 x hx'
        · rw [List.mem_singleton] at hx'
          have : l[k] ≠ id := fun e => hn (e ▸ List.getElem_mem hlt)
          omega
theorem sorted_perm_eq {a b : List Int} (hp : a.Perm b) (ha : a.Pairwise (· ≤ ·)) (hb : b.Pairwise (· ≤ ·)) : a = b :=
  List.Perm.eq_of_pairwise (fun a b h1 h2 h3 h4 => Int.le_antisymm h3 h4) ha hb hp
theorem insF_srt (id : Int) (l : List Int) (h : l.Pairwise (· < ·)) (hn : id ∉ l) : insF id l = srt (l ++ [id]) := by
  have := insS_take id l h hn l.length (Nat.le_refl _)
  rw [List.take_length] at this
  refine sorted_perm_eq ?_ ?_ (srt_sorted _)
  · refine List.Perm.trans ?_ (srt_perm _).symm
    unfold insF
    rcases this with ⟨h1, h2, _⟩ | ⟨h1, h2, _⟩
    · rw [if_pos h1]; exact h2
    · rw [if_neg (by rw [h1]; simp), h2]
  · unfold insF
    rcases this with ⟨h1, _, h3, _⟩ | ⟨h1, h2, h3⟩
    · rw [if_pos h1]; exact h3
    · rw [if_neg (by rw [h1]; simp), h2, List.pairwise_append]
      refine ⟨h.imp fun h => Int.le_of_lt h, by simp, fun a ha b hb => ?_⟩
      rw [List.mem_singleton] at hb
      subst hb
      exact Int.le_of_lt (h3 a ha)

/-! ### Remove -/
def remE (l : List Int) (id : Int) : Int := if mayP l = true ∧ id ≠ 0 then (if hasL l id = true then (if l.length = 1 then 2 else 0) else 5) else 2
def wo (l : List Int) (id : Int) : List Int := l.filter fun x => decide (x ≠ id)
def remL (l : List Int) (id : Int) : List Int := if remE l id = 0 then wo l id else []
theorem wo_none {l : List Int} {id : Int} (h : id ∉ l) : wo l id = l := by
  unfold wo
  rw [List.filter_eq_self]
  intro x hx
  exact decide_eq_true fun e => h (e ▸ hx)
theorem wo_cut {l : List Int} {id : Int} (h : l.Nodup) (hm : id ∈ l) : l.take (idxN l id) ++ l.drop (idxN l id + 1) = wo l id := by
  induction l with
  | nil => cases hm
  | cons x xs ih =>
    rw [List.nodup_cons] at h
    by_cases e : x = id
    · subst e
      have := wo_none h.1
      unfold wo at this ⊢
      have e2 : idxN (x :: xs) x = 0 := by simp [idxN]
      rw [e2, List.filter_cons, if_neg (by simp), this]
      rfl
    · have hm' : id ∈ xs := by
        rcases List.mem_cons.1 hm with h' | h'
        · exact absurd h'.symm e
        · exact h'
      have := ih h.2 hm'
      unfold wo at this ⊢
      have e2 : idxN (x :: xs) id = idxN xs id + 1 := by simp [idxN, e]
      rw [e2, List.filter_cons, if_pos (by simpa using e), ← this]
      rfl
theorem idxN_lt {l : List Int} {id : Int} (hm : id ∈ l) : idxN l id < l.length := by
  induction l with
  | nil => cases hm
  | cons x xs ih =>
    by_cases e : x = id
    · simp [idxN, e]
    · have hm' : id ∈ xs := by
        rcases List.mem_cons.1 hm with h' | h'
        · exact absurd h'.symm e
        · exact h'
      have := ih hm'
      simp [idxN, e]; omega
theorem wo_len (l : List Int) (id : Int) : (wo l id).length ≤ l.length := List.length_filter_le _ _
theorem wo_snoc (l : List Int) (x id : Int) : wo (l ++ [x]) id = if x = id then wo l id else wo l id ++ [x] := by
  unfold wo
  rw [List.filter_append]
  split <;> simp_all
theorem wo_one {l : List Int} {id : Int} (h : l.Nodup) (hm : id ∈ l) : (wo l id).length + 1 = l.length := by
  rw [← wo_cut h hm, List.length_append, List.length_take, List.length_drop]
  have := idxN_lt hm
  omega
end Go.Proofs.Ytdbodnpfeiplgaa
