/- The plain law of DiskTorn, last part: the files before the crash, and what is left of them. -/
import Derived.Test.YtbdhdnkpdpcgnaaDkV
namespace Go.Proofs.Ytbdhdnkpdpcgnaa
set_option linter.unusedVariables false
def fst5 : List Int := [102, 105, 114, 115, 116]
/-- The files with a, and with gone, before what lay. -/
def fA1 : Fil := ⟨[], fst5, false, true, [⟨true, false, fst5⟩]⟩
def fA2 : Fil := ⟨fst5, fst5, true, true, []⟩
def fA3 (whole : List Int) : Fil := ⟨fst5, whole, true, true, [⟨true, false, whole⟩]⟩
def fG1 (whole : List Int) : Fil := ⟨[], whole, false, true, [⟨true, false, whole⟩]⟩
def fG2 (whole : List Int) : Fil := ⟨whole, whole, true, true, []⟩
def fG3 (whole : List Int) : Fil := ⟨whole, [], true, false, [⟨true, true, []⟩]⟩
theorem stL_cases (rows : List (List Int)) (k : Nat) (s : Int) : stL rows k s = [] ∨ stL rows k s = [(lgk, logF rows k s)] := by
  unfold stL; split
  · exact .inl rfl
  · exact .inr rfl
section
variable (rows : List (List Int)) (k : Nat) (s : Int) (whole : List Int)
theorem sq1 : stPut (stL rows k s) ka (putF (stGet (stL rows k s) ka) ⟨true, false, fst5⟩) = (ka, fA1) :: stL rows k s := by
  rcases stL_cases rows k s with e | e <;> rw [e] <;> simp [stPut, stDel, stIns, stGet, putF, noFil, fA1, ka, lgk, bytesBefore]
theorem sq2 : settleS ((ka, fA1) :: stL rows k s) ka (stGet ((ka, fA1) :: stL rows k s) ka).now (stGet ((ka, fA1) :: stL rows k s) ka).isNow = (ka, fA2) :: stL rows k s := by
  rcases stL_cases rows k s with e | e <;> rw [e] <;> simp [settleS, stPut, stDel, stIns, stGet, fA1, fA2, ka, lgk, bytesBefore]
theorem sq3 : stPut ((ka, fA2) :: stL rows k s) ka (putF (stGet ((ka, fA2) :: stL rows k s) ka) ⟨true, false, whole⟩) = (ka, fA3 whole) :: stL rows k s := by
  rcases stL_cases rows k s with e | e <;> rw [e] <;> simp [stPut, stDel, stIns, stGet, putF, fA2, fA3, ka, lgk, bytesBefore]
theorem sq4 : stPut ((ka, fA3 whole) :: stL rows k s) kg (putF (stGet ((ka, fA3 whole) :: stL rows k s) kg) ⟨true, false, whole⟩) = (ka, fA3 whole) :: (kg, fG1 whole) :: stL rows k s := by
  rcases stL_cases rows k s with e | e <;> rw [e] <;> simp [stPut, stDel, stIns, stGet, putF, noFil, fG1, ka, kg, lgk, bytesBefore]
theorem sq5 : settleS ((ka, fA3 whole) :: (kg, fG1 whole) :: stL rows k s) kg (stGet ((ka, fA3 whole) :: (kg, fG1 whole) :: stL rows k s) kg).now (stGet ((ka, fA3 whole) :: (kg, fG1 whole) :: stL rows k s) kg).isNow = (ka, fA3 whole) :: (kg, fG2 whole) :: stL rows k s := by
  rcases stL_cases rows k s with e | e <;> rw [e] <;> simp [settleS, stPut, stDel, stIns, stGet, fG1, fG2, ka, kg, lgk, bytesBefore]
theorem sq6 : stPut ((ka, fA3 whole) :: (kg, fG2 whole) :: stL rows k s) kg (putF (stGet ((ka, fA3 whole) :: (kg, fG2 whole) :: stL rows k s) kg) ⟨true, true, []⟩) = (ka, fA3 whole) :: (kg, fG3 whole) :: stL rows k s := by
  rcases stL_cases rows k s with e | e <;> rw [e] <;> simp [stPut, stDel, stIns, stGet, putF, fG2, fG3, ka, kg, lgk, bytesBefore]
theorem sqN3 : (stNames nowF ((ka, fA2) :: stL rows k s)).length ≤ 3 := by
  unfold stNames
  refine Nat.le_trans (List.length_filter_le _ _) ?_
  rw [List.length_mergeSort]
  rcases stL_cases rows k s with e | e <;> rw [e] <;> simp
end
/-- How the crash leaves them. -/
structure Torn (rows : List (List Int)) (s : Int) (whole : List Int) (stay other : Int) (lo : Nat) (ra rg rl : List Int × Bool) : Prop where
  ra_ : ra = (fst5, true) ∧ other ≤ 0 ∨ ra = (whole, true) ∧ 0 < other
  rg_ : rg = (whole, true) ∨ rg = ([], false)
  pre : rl.1 = (cat rows).take rl.1.length
  no : rl.2 = false → rl.1 = []
  sure : 0 < rows.length → 0 ≤ s → rl.2 = true ∧ (cat (rows.take (synN rows.length s))).length ≤ rl.1.length
  lo2 : 2 ≤ lo
  lo3 : lo ≤ 3
  len : lo = 3 → 0 ≤ s → 0 < rows.length → (rl.1.length : Int) = (cat (rows.take (synN rows.length s))).length + min (max 0 stay) (((cat rows).length : Int) - (cat (rows.take (synN rows.length s))).length)
theorem bud0 (a b c : Int) : bud [a, b, c] 0 = (max 0 a).toNat := by simp [bud]
theorem bud2 (a b c : Int) : bud [a, b, c] 2 = (max 0 c).toNat := by simp [bud]
theorem cat_take_le (rows : List (List Int)) (m : Nat) : (cat (rows.take m)).length ≤ (cat rows).length := by
  have := congrArg List.length (cat_split rows m)
  rw [List.length_append] at this
  omega
theorem torn (rows : List (List Int)) (s : Int) (whole : List Int) (stay other q : Int) : ∃ ra rg rl,
    crashS [other, q, stay] ((ka, fA3 whole) :: (kg, fG3 whole) :: stL rows rows.length s) = fin3 ra rg rl ∧
    Torn rows s whole stay other (stNames looseF ((ka, fA3 whole) :: (kg, fG3 whole) :: stL rows rows.length s)).length ra rg rl := by
  have hA : looseF (fA3 whole) = true := rfl
  have hG : looseF (fG3 whole) = true := rfl
  have ea : ∀ t, crashF (fA3 whole) t = if t = 0 then (fst5, true) else (whole, true) := fun t => crashA fst5 whole whole t
  have eg : ∀ t, crashF (fG3 whole) t = if t = 0 then (whole, true) else ([], false) := fun t => crashG whole [] t false
  have hra : crashF (fA3 whole) (bud [other, q, stay] 0) = (fst5, true) ∧ other ≤ 0 ∨ crashF (fA3 whole) (bud [other, q, stay] 0) = (whole, true) ∧ 0 < other := by
    rw [ea, bud0]
    by_cases h : (max 0 other).toNat = 0
    · rw [if_pos h]; exact .inl ⟨rfl, by omega⟩
    · rw [if_neg h]; exact .inr ⟨rfl, by omega⟩
  have hrg : crashF (fG3 whole) (bud [other, q, stay] 1) = (whole, true) ∨ crashF (fG3 whole) (bud [other, q, stay] 1) = ([], false) := by
    rw [eg]
    split
    · exact .inl rfl
    · exact .inr rfl
  by_cases h0 : rows.length = 0
  · have e : stL rows rows.length s = [] := by unfold stL; rw [if_pos h0]
    rw [e, names2 _ _ hA hG, crash2 _ _ _ hA hG]
    refine ⟨_, _, ([], false), by simp [fin3, ent], hra, hrg, by simp, fun _ => rfl, fun h => absurd h0 (by omega), by simp, by simp, by simp⟩
  · have e : stL rows rows.length s = [(lgk, logF rows rows.length s)] := by unfold stL; rw [if_neg h0]
    rw [e, names3 _ _ _ hA hG, crash3 _ _ _ _ hA hG]
    by_cases hL : looseF (logF rows rows.length s) = true
    · rw [if_pos hL, if_pos hL]
      obtain ⟨h1, h2, h3⟩ := crash_log rows s (bud [other, q, stay] 2) (by omega)
      refine ⟨_, _, _, rfl, hra, hrg, h1, h2, fun _ hs => ⟨(h3 hs).1, ?_⟩, by simp, by simp, fun _ hs _ => ?_⟩
      · rw [(h3 hs).2]; exact Nat.le_add_right _ _
      · rw [(h3 hs).2, bud2]
        have := cat_take_le rows (synN rows.length s)
        omega
    · rw [if_neg hL, if_neg hL]
      have hz : looseL rows rows.length (synN rows.length s) = [] := by
        have h2 : ¬ 0 < (looseL rows rows.length (synN rows.length s)).length := fun h => hL (decide_eq_true h)
        exact List.length_eq_zero_iff.1 (by omega)
      have hsy : synN rows.length s = rows.length := by
        have h1 := congrArg List.length hz
        unfold looseL at h1
        rw [List.length_map, List.length_drop, List.length_range, List.length_nil] at h1
        have := synN_le rows.length s
        omega
      have hlog : logF rows rows.length s = ⟨cat rows, cat rows, true, true, []⟩ := by
        unfold logF
        rw [hz, hsy]
        simp [show 0 < rows.length by omega]
      refine ⟨_, _, (cat rows, true), by rw [hlog]; simp [fin3, ent], hra, hrg, by simp, (fun h => by cases h), fun _ _ => ⟨rfl, cat_take_le _ _⟩, by simp, by simp, (fun h => by simp at h)⟩
end Go.Proofs.Ytbdhdnkpdpcgnaa
