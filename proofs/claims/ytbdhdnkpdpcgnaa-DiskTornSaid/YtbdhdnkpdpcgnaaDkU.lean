/- The plain law of DiskTorn, second part: a crash of the three files. -/
import Derived.Test.YtbdhdnkpdpcgnaaDkT
namespace Go.Proofs.Ytbdhdnkpdpcgnaa
set_option linter.unusedVariables false
def ka : Key := [97]
def kg : Key := [103, 111, 110, 101]
/-- What is left under a name. -/
def ent (k : Key) (r : List Int × Bool) : Files := if r.2 = true then [(k, ⟨r.1, r.1, true, true, []⟩)] else []
theorem names2 (FA FG : Fil) (hA : looseF FA = true) (hG : looseF FG = true) : stNames looseF [(ka, FA), (kg, FG)] = [ka, kg] := by
  rw [stNames_sort2 _ _ (by simp [ka, kg]; decide)]
  simp [stGet, ka, kg, hA, hG]
theorem names3 (FA FG FL : Fil) (hA : looseF FA = true) (hG : looseF FG = true) : stNames looseF [(ka, FA), (kg, FG), (lgk, FL)] = if looseF FL = true then [ka, kg, lgk] else [ka, kg] := by
  rw [stNames_sort2 _ _ (by simp [ka, kg, lgk]; decide)]
  by_cases hL : looseF FL = true
  · simp [stGet, ka, kg, lgk, hA, hG, hL]
  · simp [stGet, ka, kg, lgk, hA, hG, hL]
theorem crash2 (stay : List Int) (FA FG : Fil) (hA : looseF FA = true) (hG : looseF FG = true) :
    crashS stay [(ka, FA), (kg, FG)] = ent ka (crashF FA (bud stay 0)) ++ ent kg (crashF FG (bud stay 1)) := by
  unfold crashS
  rw [names2 FA FG hA hG]
  obtain ⟨ra, hra⟩ : ∃ ra, crashF FA (bud stay 0) = ra := ⟨_, rfl⟩
  obtain ⟨rg, hrg⟩ : ∃ rg, crashF FG (bud stay 1) = rg := ⟨_, rfl⟩
  rw [hra, hrg]
  obtain ⟨a, ia⟩ := ra
  obtain ⟨c, ic⟩ := rg
  cases ia <;> cases ic <;> simp [crashSt, stGet, ka, kg, settleS, stPut, stDel, stIns, bytesBefore, hra, hrg, ent]
theorem crash3 (stay : List Int) (FA FG FL : Fil) (hA : looseF FA = true) (hG : looseF FG = true) :
    crashS stay [(ka, FA), (kg, FG), (lgk, FL)] = ent ka (crashF FA (bud stay 0)) ++ ent kg (crashF FG (bud stay 1)) ++ if looseF FL = true then ent lgk (crashF FL (bud stay 2)) else [(lgk, FL)] := by
  unfold crashS
  rw [names3 FA FG FL hA hG]
  obtain ⟨ra, hra⟩ : ∃ ra, crashF FA (bud stay 0) = ra := ⟨_, rfl⟩
  obtain ⟨rg, hrg⟩ : ∃ rg, crashF FG (bud stay 1) = rg := ⟨_, rfl⟩
  obtain ⟨rl, hrl⟩ : ∃ rl, crashF FL (bud stay 2) = rl := ⟨_, rfl⟩
  rw [hra, hrg, hrl]
  obtain ⟨a, ia⟩ := ra
  obtain ⟨c, ic⟩ := rg
  obtain ⟨l, il⟩ := rl
  by_cases hL : looseF FL = true
  · cases ia <;> cases ic <;> cases il <;> simp [crashSt, stGet, ka, kg, lgk, settleS, stPut, stDel, stIns, bytesBefore, hra, hrg, hrl, ent, hL]
  · cases ia <;> cases ic <;> simp [crashSt, stGet, ka, kg, lgk, settleS, stPut, stDel, stIns, bytesBefore, hra, hrg, ent, hL]
/-- Nothing is loose: nothing turns. -/
theorem crash_still (stay : List Int) (st : Files) (h : stNames looseF st = []) : crashS stay st = st := by
  unfold crashS; rw [h]; rfl
/-! ### what is read -/
theorem ent_get (k : Key) (r : List Int × Bool) (h : r.2 = false → r.1 = []) : (stGet (ent k r) k).now = r.1 ∧ (stGet (ent k r) k).isNow = r.2 ∧ (stGet (ent k r) k).sure = r.1 ∧ (stGet (ent k r) k).isSure = r.2 := by
  obtain ⟨b, is⟩ := r
  cases is
  · have := h rfl
    simp only at this
    subst this
    simp [ent, stGet, noFil]
  · simp [ent, stGet]
/-- The files behind a crash: a's, gone's, the log's. -/
def fin3 (ra rg rl : List Int × Bool) : Files := ent ka ra ++ ent kg rg ++ ent lgk rl
theorem fin3_get (ra rg rl : List Int × Bool) : stGet (fin3 ra rg rl) ka = stGet (ent ka ra) ka ∧ stGet (fin3 ra rg rl) kg = stGet (ent kg rg) kg ∧ stGet (fin3 ra rg rl) lgk = stGet (ent lgk rl) lgk := by
  obtain ⟨a, ia⟩ := ra
  obtain ⟨c, ic⟩ := rg
  obtain ⟨l, il⟩ := rl
  cases ia <;> cases ic <;> cases il <;> simp [fin3, ent, stGet, ka, kg, lgk]
theorem fin3_none (ra rg rl : List Int × Bool) : stNames looseF (fin3 ra rg rl) = [] := by
  obtain ⟨a, ia⟩ := ra
  obtain ⟨c, ic⟩ := rg
  obtain ⟨l, il⟩ := rl
  cases ia <;> cases ic <;> cases il <;> (rw [stNames_sort2 _ _ (by simp [fin3, ent, ka, kg, lgk] <;> decide)]; simp [fin3, ent, stGet, ka, kg, lgk, looseF])
end Go.Proofs.Ytbdhdnkpdpcgnaa
