/- The plain law of DiskTorn: what a file that was only appended to is, and what a crash leaves of it. -/
import Derived.Test.YtbdhdnkpdpcgnaaDkM
namespace Go.Proofs.Ytbdhdnkpdpcgnaa
set_option linter.unusedVariables false
theorem stNames_sort2 (p : Fil → Bool) (st : Files) (h : (st.map (·.1)).Pairwise (fun x y => decide (x ≤ y) = true)) : stNames p st = (st.map (·.1)).filter fun k => p (stGet st k) := by
  unfold stNames
  rw [List.mergeSort_of_pairwise h]
/-! ### one file -/
theorem get_one (k : Key) (f : Fil) : stGet [(k, f)] k = f := by rw [stGet_cons]; simp
theorem put_one (k : Key) (f g : Fil) : stPut [(k, f)] k g = [(k, g)] := by simp [stPut, stDel, stIns]
theorem put_nil (k : Key) (g : Fil) : stPut [] k g = [(k, g)] := by simp [stPut, stDel, stIns]
theorem settle_one (k : Key) (f : Fil) (now : List Int) : settleS [(k, f)] k now true = [(k, ⟨now, now, true, true, []⟩)] := by unfold settleS; rw [if_pos rfl, put_one]
/-! ### the rows that were appended -/
def cat (rows : List (List Int)) : List Int := rows.flatten
theorem cat_snoc (rows : List (List Int)) (r : List Int) : cat (rows ++ [r]) = cat rows ++ r := by simp [cat]
theorem cat_succ (rows : List (List Int)) {k : Nat} (hk : k < rows.length) : cat (rows.take (k + 1)) = cat (rows.take k) ++ rows.getD k [] := by
  rw [List.take_succ_eq_append_getElem hk, cat_snoc, List.getD_eq_getElem?_getD, List.getElem?_eq_getElem hk]
  rfl
/-- How many rows are synced behind k. -/
def synN (k : Nat) (s : Int) : Nat := if s < 0 then 0 else min k (s.toNat + 1)
theorem synN_le (k : Nat) (s : Int) : synN k s ≤ k := by unfold synN; split <;> omega
def chgR (rows : List (List Int)) (j : Nat) : Chg := ⟨decide (j = 0), false, rows.getD j []⟩
def looseL (rows : List (List Int)) (k m : Nat) : List Chg := ((List.range k).drop m).map (chgR rows)
def logF (rows : List (List Int)) (k : Nat) (s : Int) : Fil :=
  ⟨cat (rows.take (synN k s)), cat (rows.take k), decide (0 < synN k s), decide (0 < k), looseL rows k (synN k s)⟩
def lgk : Key := [108, 111, 103]
def stL (rows : List (List Int)) (k : Nat) (s : Int) : Files := if k = 0 then [] else [(lgk, logF rows k s)]
theorem looseL_succ (rows : List (List Int)) {k m : Nat} (h : m ≤ k) : looseL rows (k + 1) m = looseL rows k m ++ [chgR rows k] := by
  unfold looseL
  rw [List.range_succ, List.drop_append_of_le_length (by rw [List.length_range]; exact h), List.map_append]
  rfl
theorem looseL_all (rows : List (List Int)) (k : Nat) : looseL rows k k = [] := by
  unfold looseL
  rw [List.drop_of_length_le (by simp)]
  rfl
theorem getL (rows : List (List Int)) (k : Nat) (s : Int) : stGet (stL rows k s) lgk = if k = 0 then noFil else logF rows k s := by
  unfold stL
  split
  · rfl
  · exact get_one _ _
/-- What one more row makes of the file. -/
theorem put_row (rows : List (List Int)) {k : Nat} (s : Int) (hk : k < rows.length) :
    ∃ f, stPut (stL rows k s) lgk (putF (stGet (stL rows k s) lgk) ⟨!(stGet (stL rows k s) lgk).isNow, false, rows.getD k []⟩) = [(lgk, f)] ∧ f.now = cat (rows.take (k + 1)) ∧ f.isNow = true ∧
      ((s < (k : Int)) → f = logF rows (k + 1) s) := by
  rw [getL]
  unfold stL
  by_cases h0 : k = 0
  · subst h0
    rw [if_pos rfl, if_pos rfl, put_nil]
    refine ⟨_, rfl, ?_, rfl, fun hs => ?_⟩
    · rw [cat_succ rows hk]
      simp [cat, putF, noFil]
    · have h1 : synN (0 + 1) s = 0 := by unfold synN; rw [if_pos (by omega)]
      unfold logF
      rw [h1, cat_succ rows hk]
      simp [cat, putF, noFil, looseL, chgR, List.range_succ]
  · rw [if_neg h0, if_neg h0, put_one]
    refine ⟨_, rfl, ?_, ?_, fun hs => ?_⟩
    · rw [cat_succ rows hk]
      simp [putF, logF, show 0 < k by omega]
    · simp [putF, logF, show 0 < k by omega]
    · have h1 : synN (k + 1) s = synN k s := by unfold synN; split <;> omega
      unfold logF
      rw [h1, cat_succ rows hk, looseL_succ rows (synN_le k s)]
      simp [putF, chgR, show 0 < k by omega, h0]
theorem step_row (rows : List (List Int)) {k : Nat} (s : Int) (hk : k < rows.length) (st1 : Files)
    (h1 : st1 = stPut (stL rows k s) lgk (putF (stGet (stL rows k s) lgk) ⟨!(stGet (stL rows k s) lgk).isNow, false, rows.getD k []⟩)) :
    (s < (k : Int) → st1 = stL rows (k + 1) s) ∧ ((k : Int) ≤ s → settleS st1 lgk (stGet st1 lgk).now (stGet st1 lgk).isNow = stL rows (k + 1) s) ∧ stHas st1 lgk = true := by
  obtain ⟨f, e, e1, e2, e3⟩ := put_row rows s hk
  rw [e] at h1
  subst h1
  have hL : stL rows (k + 1) s = [(lgk, logF rows (k + 1) s)] := by unfold stL; rw [if_neg (by omega)]
  refine ⟨fun hs => by rw [hL, e3 hs], fun hs => ?_, by simp [stHas]⟩
  rw [get_one, e1, e2, settle_one, hL]
  have h1 : synN (k + 1) s = k + 1 := by unfold synN; rw [if_neg (by omega)]; omega
  unfold logF
  rw [h1, looseL_all]
  simp
/-! ### what a crash leaves -/
/-- Parts behind one another, none whole: as many bytes as stay. -/
theorem crash_parts : ∀ (cs : List Chg) (m : Nat) (now : List Int), (∀ c ∈ cs, c.whole = false) → (cs.foldl crashC (m, now, true)).2 = (now ++ (cat (cs.map (·.b))).take m, true)
  | [], m, now, _ => by simp [cat]
  | c :: cs, m, now, h => by
    have hc := h c (by simp)
    rw [List.foldl_cons]
    by_cases h0 : m = 0
    · subst h0
      have e : crashC (0, now, true) c = (0, now, true) := by unfold crashC; simp
      rw [e, crash_parts cs 0 now fun d hd => h d (by simp [hd])]
      simp
    · have e : crashC (m, now, true) c = (m - min m c.b.length, now ++ c.b.take (min m c.b.length), true) := by unfold crashC; simp [h0, hc]
      rw [e, crash_parts cs (m - min m c.b.length) (now ++ c.b.take (min m c.b.length)) fun d hd => h d (by simp [hd])]
      simp only [cat, List.map_cons, List.flatten_cons, List.append_assoc]
      congr 2
      rw [List.take_append]
      congr 1
      · by_cases hl : m ≤ c.b.length
        · rw [Nat.min_eq_left hl]
        · rw [Nat.min_eq_right (by omega), List.take_of_length_le (Nat.le_refl _), List.take_of_length_le (by omega)]
      · congr 1
        omega
end Go.Proofs.Ytbdhdnkpdpcgnaa
