/- The plain law of peers (layer 22): rows that may be, majorities, marks, changes. No program in sight. -/
namespace Go.Proofs.Ytdbodnpfeiplgaa
set_option linter.unusedVariables false
/-- Rising, from above a number on. -/
def rise : Int → List Int → Bool
  | _, [] => true
  | a, x :: xs => decide (a < x) && rise x xs
def prev (a : Int) (l : List Int) (k : Nat) : Int := if k = 0 then a else l.getD (k - 1) 0
theorem rise_iff (l : List Int) : ∀ a, rise a l = true ↔ ∀ k, k < l.length → prev a l k < l.getD k 0 := by
  induction l with
  | nil => intro a; simp [rise]
  | cons x xs ih =>
    intro a
    simp only [rise, Bool.and_eq_true, decide_eq_true_eq, ih]
    constructor
    · rintro ⟨h1, h2⟩ k hk
      cases k with
      | zero => simpa [prev] using h1
      | succ k =>
        have := h2 k (by simpa using hk)
        cases k with
        | zero => simpa [prev] using this
        | succ k => simpa [prev] using this
    · intro h
      refine ⟨by simpa [prev] using h 0 (by simp), fun k hk => ?_⟩
      have := h (k + 1) (by simpa using hk)
      cases k with
      | zero => simpa [prev] using this
      | succ k => simpa [prev] using this
/-- Which peers may be. -/
def mayP (l : List Int) : Bool := rise 0 l && (decide (1 ≤ l.length) && decide (l.length ≤ 7))
theorem mayP_iff {l : List Int} : mayP l = true ↔ rise 0 l = true ∧ 1 ≤ l.length ∧ l.length ≤ 7 := by
  unfold mayP; simp only [Bool.and_eq_true, decide_eq_true_eq]
/-- Is a number in a row? -/
def hasL (l : List Int) (n : Int) : Bool := l.contains n
theorem hasL_iff {l : List Int} {n : Int} : hasL l n = true ↔ n ∈ l := by unfold hasL; exact List.contains_iff_mem
theorem hasL_false {l : List Int} {n : Int} : hasL l n = false ↔ n ∉ l := by rw [Bool.eq_false_iff, Ne, hasL_iff]
theorem mem_getD {l : List Int} {k : Nat} (hk : k < l.length) : l.getD k 0 ∈ l := by
  rw [List.getD_eq_getElem?_getD, List.getElem?_eq_getElem hk]; exact List.getElem_mem hk
theorem getD_of_mem {l : List Int} {n : Int} (h : n ∈ l) : ∃ j, j < l.length ∧ l.getD j 0 = n := by
  obtain ⟨j, hj, e⟩ := List.getElem_of_mem h
  exact ⟨j, hj, by rw [List.getD_eq_getElem?_getD, List.getElem?_eq_getElem hj]; exact e⟩
theorem has_at {l : List Int} {k : Nat} {n : Int} (hk : k < l.length) (h : l.getD k 0 = n) : hasL l n = true := hasL_iff.2 (h ▸ mem_getD hk)
theorem has_none {l : List Int} {n : Int} (h : ∀ j, j < l.length → l.getD j 0 ≠ n) : hasL l n = false := hasL_false.2 fun hm => by
  obtain ⟨j, hj, e⟩ := getD_of_mem hm
  exact h j hj e
/-- A number's first place. -/
def idxN : List Int → Int → Nat
  | [], _ => 0
  | x :: xs, n => if x = n then 0 else idxN xs n + 1
/-- .. or -1: there is none. -/
def idxL (l : List Int) (n : Int) : Int := if hasL l n = true then (idxN l n : Int) else -1
theorem idx_none {l : List Int} {n : Int} (h : ∀ j, j < l.length → l.getD j 0 ≠ n) : idxL l n = -1 := by
  unfold idxL; rw [has_none h, if_neg (by simp)]
theorem idxN_at {l : List Int} {n : Int} : ∀ {k : Nat}, k < l.length → l.getD k 0 = n → (∀ j, j < k → l.getD j 0 ≠ n) → idxN l n = k := by
  induction l with
  | nil => intro k hk; simp at hk
  | cons x xs ih =>
    intro k hk h hb
    cases k with
    | zero => simp at h; simp [idxN, h]
    | succ k =>
      have h0 := hb 0 (by omega)
      simp at h0
      rw [idxN, if_neg h0, ih (by simpa using hk) (by simpa using h) (fun j hj => by simpa using hb (j + 1) (by omega))]
theorem idx_at {l : List Int} {k : Nat} {n : Int} (hk : k < l.length) (h : l.getD k 0 = n) (hb : ∀ j, j < k → l.getD j 0 ≠ n) : idxL l n = k := by
  unfold idxL
  rw [has_at hk h, if_pos rfl, idxN_at hk h hb]
theorem idxN_le (l : List Int) (n : Int) : idxN l n ≤ l.length := by
  induction l with
  | nil => simp [idxN]
  | cons x xs ih => simp only [idxN]; split <;> simp <;> omega
/-- How many of l are among some. -/
def cnt (l yes : List Int) : Nat := (l.filter fun x => hasL yes x).length
theorem cnt_le (l yes : List Int) : cnt l yes ≤ l.length := List.length_filter_le _ _
theorem cnt_snoc (l : List Int) (x : Int) (yes : List Int) : cnt (l ++ [x]) yes = cnt l yes + if hasL yes x = true then 1 else 0 := by
  unfold cnt
  rw [List.filter_append, List.length_append]
  congr 1
  cases h : hasL yes x <;> simp only [List.filter_cons, List.filter_nil, h] <;> rfl
def winsP (l yes : List Int) : Bool := mayP l && decide (l.length / 2 + 1 ≤ cnt l yes)

/-- A row, sorted. -/
def srt (l : List Int) : List Int := l.mergeSort fun a b => decide (a ≤ b)
theorem srt_perm (l : List Int) : (srt l).Perm l := List.mergeSort_perm _ _
theorem srt_len (l : List Int) : (srt l).length = l.length := (srt_perm l).length_eq
theorem srt_sorted (l : List Int) : (srt l).Pairwise (· ≤ ·) := by
  have := List.pairwise_mergeSort (le := fun a b : Int => decide (a ≤ b)) (fun a b c h1 h2 => by simp at *; omega) (fun a b => by simp; omega) l
  exact this.imp fun h => by simpa using h

/-! ### rows that rise -/
theorem rise_lt {a : Int} {l : List Int} (h : rise a l = true) {x : Int} (hx : x ∈ l) : a < x := by
  induction l generalizing a with
  | nil => cases hx
  | cons y ys ih =>
    simp only [rise, Bool.and_eq_true, decide_eq_true_eq] at h
    rcases List.mem_cons.1 hx with rfl | hx
    · exact h.1
    · exact Int.lt_trans h.1 (ih h.2 hx)
theorem rise_pairwise {a : Int} {l : List Int} (h : rise a l = true) : l.Pairwise (· < ·) := by
  induction l generalizing a with
  | nil => exact .nil
  | cons y ys ih =>
    simp only [rise, Bool.and_eq_true, decide_eq_true_eq] at h
    exact .cons (fun x hx => rise_lt h.2 hx) (ih h.2)
theorem rise_of_pairwise {a : Int} {l : List Int} (h : l.Pairwise (· < ·)) (ha : ∀ x ∈ l, a < x) : rise a l = true := by
  induction l generalizing a with
  | nil => rfl
  | cons y ys ih =>
    cases h with
    | cons h1 h2 =>
      simp only [rise, Bool.and_eq_true, decide_eq_true_eq]
      exact ⟨ha y (by simp), ih h2 h1⟩
theorem rise_nodup {a : Int} {l : List Int} (h : rise a l = true) : l.Nodup := (rise_pairwise h).imp fun h => Int.ne_of_lt h
end Go.Proofs.Ytdbodnpfeiplgaa
