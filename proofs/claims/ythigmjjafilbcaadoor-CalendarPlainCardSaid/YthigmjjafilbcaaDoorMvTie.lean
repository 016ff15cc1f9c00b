/- What the listed variable gives the walks: the library's table of de Bruijn's numbers. -/
import Derived.Test.YthigmjjafilbcaaDoorMc
import Derived.Test.YthigmjjafilbcaaDoorCards
import Derived.Test.YthigmjjafilbcaaDoorTie
import Derived.Test.YthigmjjafilbcaaDoorMb
import Derived.LaidMore
import Derived.Stop.Joined
import Derived.Stop.LaidErr
namespace Go.Proofs.YthigmjjafilbcaaDoor
set_option linter.unusedVariables false
set_option maxRecDepth 100000
open Go.ChangeShapes Go.WideShapes Go.ChangeAt Go.RowKit
theorem laidOut : laidOutB Tryd.prog = true := by kernel_rfl
theorem own : ownKnob Tryd.prog.godebug = none := by kernel_rfl
theorem laid_is : (Rows.laid_math_bits_deBruijn64tab : DataW Unit) = Lib.tabData .u8 (Lib.deBruijn64tab.map Int.ofNat) := by kernel_rfl
theorem tabZ_of_laid {W : World} (h : laidMetH Tryd.prog Rows.calendarMovesRow.laid W) : TabZ W := by
  rw [MakeChecks.laidMetH_plain _ _ _ (by kernel_rfl)] at h
  have h1 : laidMet Tryd.prog [("math/bits.deBruijn64tab", Lib.tabData .u8 (Lib.deBruijn64tab.map Int.ofNat))] W := by
    rw [← laid_is]
    exact h
  exact Lib.tabIs_of_head (n := 64) (t := 104) (e := 5) (g := 0) gTabZ (by kernel_rfl) Tryd.underlying104 Tryd.underlying5 (by kernel_rfl) (by kernel_rfl) h1
end Go.Proofs.YthigmjjafilbcaaDoor
