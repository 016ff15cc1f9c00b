/- The plain arithmetic of moments and clocks: no program in sight. -/
import Derived.Test.YthigmjjafilbcaaDoorCivM
namespace Go.Proofs.YthigmjjafilbcaaDoor
set_option linter.unusedVariables false
def rngB (h mi s : Int) : Bool := decide (0 ≤ h) && decide (h ≤ 23) && decide (0 ≤ mi) && decide (mi ≤ 59) && decide (0 ≤ s) && decide (s ≤ 59)
theorem rngB_iff {h mi s : Int} : rngB h mi s = true ↔ 0 ≤ h ∧ h ≤ 23 ∧ 0 ≤ mi ∧ mi ≤ 59 ∧ 0 ≤ s ∧ s ≤ 59 := by
  unfold rngB; simp only [Bool.and_eq_true, decide_eq_true_eq, and_assoc]
/-- Which clocks may be. -/
def clkB (y m d h mi s wd : Int) : Bool := mayB y m d && (rngB h mi s && (wd == (numI y m d + 4) % 7))
/-- A clock's moment. -/
def momI (y m d h mi s : Int) : Int := numI y m d * 86400 + h * 3600 + mi * 60 + s
theorem mom_range {y m d h mi s : Int} (hm : mayB y m d = true) (hr : rngB h mi s = true) : 0 ≤ momI y m d h mi s ∧ momI y m d h mi s < 13569465600 := by
  have := num_range hm
  have := rngB_iff.1 hr
  unfold momI; omega
theorem mom_parts {y m d h mi s : Int} (hm : mayB y m d = true) (hr : rngB h mi s = true) :
    momI y m d h mi s / 86400 = numI y m d ∧ momI y m d h mi s % 86400 / 3600 = h ∧ momI y m d h mi s % 86400 % 3600 / 60 = mi ∧ momI y m d h mi s % 86400 % 60 = s := by
  obtain ⟨a1, a2, a3, a4, a5, a6⟩ := rngB_iff.1 hr
  have := num_range hm
  unfold momI
  generalize numI y m d = n at *
  refine ⟨by omega, by omega, by omega, by omega⟩
theorem of_num_date {y m d : Int} (hm : mayB y m d = true) : ofY (numI y m d) = y ∧ ofM (numI y m d) = m ∧ ofD (numI y m d) = d :=
  have h := num_range hm
  ofs_eq h.1 h.2 hm rfl
/-- The moment of the clock of a moment is that moment. -/
theorem mom_split {t : Int} (h0 : 0 ≤ t) (h1 : t < 13569465600) :
    momI (ofY (t / 86400)) (ofM (t / 86400)) (ofD (t / 86400)) (t % 86400 / 3600) (t % 86400 % 3600 / 60) (t % 86400 % 60) = t ∧
      mayB (ofY (t / 86400)) (ofM (t / 86400)) (ofD (t / 86400)) = true ∧ rngB (t % 86400 / 3600) (t % 86400 % 3600 / 60) (t % 86400 % 60) = true ∧
      numI (ofY (t / 86400)) (ofM (t / 86400)) (ofD (t / 86400)) = t / 86400 := by
  obtain ⟨hm, hd⟩ := of_num (t / 86400) (by omega) (by omega)
  rw [daysA_num hm] at hd
  refine ⟨?_, hm, rngB_iff.2 ⟨by omega, by omega, by omega, by omega, by omega, by omega⟩, hd⟩
  unfold momI
  rw [hd]
  omega
end Go.Proofs.YthigmjjafilbcaaDoor
