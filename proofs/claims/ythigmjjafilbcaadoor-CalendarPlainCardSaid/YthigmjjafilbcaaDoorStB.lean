/- What Join answers (for a seat without stamp.Join itself). -/
import Derived.Test.YthigmjjafilbcaaDoorStA
namespace Go.Proofs.YthigmjjafilbcaaDoor
set_option linter.unusedVariables false
open Go.RowKit
/-- What Join answers. -/
def joinV (y m d h mi s wd : Int) : Int := if clkB y m d h mi s wd = true then momI y m d h mi s else 0
def joinE (y m d h mi s wd : Int) : Int := if clkB y m d h mi s wd = true then 0 else 2
theorem clkB_parts {y m d h mi s wd : Int} (hc : clkB y m d h mi s wd = true) : mayB y m d = true ∧ rngB h mi s = true ∧ wd = (numI y m d + 4) % 7 := by
  unfold clkB at hc
  simp only [Bool.and_eq_true, beq_iff_eq] at hc
  exact hc
end Go.Proofs.YthigmjjafilbcaaDoor
