/- The plain law of DiskTorn, third part: what a crash leaves of the log. -/
import Derived.Test.YtbdhdnkpdpcgnaaDkU
namespace Go.Proofs.Ytbdhdnkpdpcgnaa
set_option linter.unusedVariables false
theorem crashA (first whole now : List Int) (t : Nat) : crashF ⟨first, now, true, true, [⟨true, false, whole⟩]⟩ t = if t = 0 then (first, true) else (whole, true) := by
  unfold crashF
  simp only [List.foldl_cons, List.foldl_nil]
  unfold crashC
  by_cases h : t = 0
  · simp [h]
  · simp [h]
theorem crashG (whole now : List Int) (t : Nat) (is : Bool) : crashF ⟨whole, now, true, is, [⟨true, true, []⟩]⟩ t = if t = 0 then (whole, true) else ([], false) := by
  unfold crashF
  simp only [List.foldl_cons, List.foldl_nil]
  unfold crashC
  by_cases h : t = 0
  · simp [h]
  · simp [h]
theorem crash_zero : ∀ (cs : List Chg) (now : List Int) (is : Bool), cs.foldl crashC (0, now, is) = (0, now, is)
  | [], _, _ => rfl
  | c :: cs, now, is => by
    have e : crashC (0, now, is) c = (0, now, is) := by unfold crashC; simp
    rw [List.foldl_cons, e, crash_zero cs now is]
theorem rows_range (rows : List (List Int)) : (List.range rows.length).map (fun j => rows.getD j []) = rows := by
  apply List.ext_getElem
  · simp
  · intro i h1 h2
    simp [List.getElem?_eq_getElem h2]
theorem looseL_b (rows : List (List Int)) (m : Nat) : (looseL rows rows.length m).map (·.b) = rows.drop m := by
  unfold looseL
  rw [List.map_map]
  have e : ((fun c : Chg => c.b) ∘ chgR rows) = fun j => rows.getD j [] := by funext j; rfl
  rw [e, List.map_drop]
  rw [rows_range]
theorem cat_split (rows : List (List Int)) (m : Nat) : cat rows = cat (rows.take m) ++ cat (rows.drop m) := by
  unfold cat
  rw [← List.flatten_append, List.take_append_drop]
theorem looseL_whole (rows : List (List Int)) (k m : Nat) (hm : 0 < m) : ∀ c ∈ looseL rows k m, c.whole = false := by
  intro c hc
  unfold looseL at hc
  obtain ⟨j, hj, rfl⟩ := List.mem_map.1 hc
  obtain ⟨i, hi, rfl⟩ := List.mem_iff_getElem.1 hj
  rw [List.getElem_drop, List.getElem_range]
  simp [chgR]
  omega
theorem take_pre (u v : List Int) (t : Nat) : (u ++ v).take (u.length + min t v.length) = u ++ v.take t := by
  rw [List.take_append, List.take_of_length_le (by omega)]
  congr 1
  rw [show u.length + min t v.length - u.length = min t v.length by omega]
  by_cases hl : t ≤ v.length
  · rw [Nat.min_eq_left hl]
  · rw [Nat.min_eq_right (by omega), List.take_of_length_le (Nat.le_refl _)]
    exact (List.take_of_length_le (by omega)).symm
theorem crash_log (rows : List (List Int)) (s : Int) (t : Nat) (hn : 0 < rows.length) :
    (crashF (logF rows rows.length s) t).1 = (cat rows).take (crashF (logF rows rows.length s) t).1.length ∧ ((crashF (logF rows rows.length s) t).2 = false → (crashF (logF rows rows.length s) t).1 = []) ∧
      (0 ≤ s → (crashF (logF rows rows.length s) t).2 = true ∧ (crashF (logF rows rows.length s) t).1.length = (cat (rows.take (synN rows.length s))).length + min t ((cat rows).length - (cat (rows.take (synN rows.length s))).length)) := by
  by_cases hs : 0 ≤ s
  · have hm : 0 < synN rows.length s := by unfold synN; rw [if_neg (by omega)]; omega
    have e : crashF (logF rows rows.length s) t = (cat (rows.take (synN rows.length s)) ++ (cat (rows.drop (synN rows.length s))).take t, true) := by
      unfold crashF logF
      simp only [hm, decide_true]
      rw [crash_parts _ _ _ (looseL_whole rows _ _ hm), looseL_b]
    rw [e]
    have hc := cat_split rows (synN rows.length s)
    refine ⟨?_, (fun h => by cases h), fun _ => ⟨rfl, ?_⟩⟩
    · generalize cat (rows.take (synN rows.length s)) = u at *
      generalize cat (rows.drop (synN rows.length s)) = v at *
      rw [hc]
      simp only
      rw [List.length_append, List.length_take]
      exact (take_pre u v t).symm
    · simp only
      rw [List.length_append, List.length_take]
      have : (cat rows).length = (cat (rows.take (synN rows.length s))).length + (cat (rows.drop (synN rows.length s))).length := by rw [← List.length_append, ← hc]
      omega
  · have hm : synN rows.length s = 0 := by unfold synN; rw [if_pos (by omega)]
    refine ⟨?_, ?_, fun h => absurd h hs⟩
    all_goals
      rcases rows with _ | ⟨r, rows⟩
      · simp at hn
      have hl : looseL (r :: rows) (r :: rows).length 0 = chgR (r :: rows) 0 :: looseL (r :: rows) (r :: rows).length 1 := by
        unfold looseL
        simp [List.range_succ_eq_map]
      have hf : logF (r :: rows) (r :: rows).length s = ⟨[], cat (r :: rows), false, true, chgR (r :: rows) 0 :: looseL (r :: rows) (r :: rows).length 1⟩ := by
        unfold logF
        rw [hm, hl]
        simp [cat]
      rw [hf]
      unfold crashF
      simp only [List.foldl_cons]
      by_cases ht : t = 0
      · subst ht
        have e : crashC (0, [], false) (chgR (r :: rows) 0) = (0, [], false) := by unfold crashC; simp
        rw [e, crash_zero]
        simp
      · have e : crashC (t, [], false) (chgR (r :: rows) 0) = (t - 1, r, true) := by unfold crashC; simp [ht, chgR]
        rw [e, crash_parts _ _ _ (looseL_whole _ _ _ (by omega)), looseL_b]
        have hc : cat (r :: rows) = r ++ cat rows := by simp [cat]
        first
          | (simp; done)
          | (simp only [List.drop_succ_cons, List.drop_zero]
             rw [hc, List.length_append, List.length_take]
             exact (take_pre r (cat rows) (t - 1)).symm)
end Go.Proofs.Ytbdhdnkpdpcgnaa
