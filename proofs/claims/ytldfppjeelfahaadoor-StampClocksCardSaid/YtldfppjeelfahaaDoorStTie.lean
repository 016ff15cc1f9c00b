/- What the listed variables give the walks: the library's table of powers of ten. -/
import Derived.Test.YtldfppjeelfahaaDoorStK
import Derived.Test.YtldfppjeelfahaaDoorCards
import Derived.Test.YtldfppjeelfahaaDoorTie
import Derived.Test.YtldfppjeelfahaaDoorPost
import Derived.LaidMore
import Derived.Stop.Joined
import Derived.Stop.LaidErr
namespace Go.Proofs.YtldfppjeelfahaaDoor
set_option linter.unusedVariables false
open Go.ChangeShapes Go.WideShapes Go.ChangeAt Go.RowKit
theorem laidOut : laidOutB Tryd.prog = true := by kernel_rfl
theorem own : ownKnob Tryd.prog.godebug = none := by kernel_rfl
theorem tab_of_laid {W : World} (h : laidMetH Tryd.prog Rows.stampMomentsRow.laid W) : Tab W := by
  rw [MakeChecks.laidMetH_plain _ _ _ (by kernel_rfl)] at h
  have h1 := h.tail.tail
  exact Lib.tabIs_of_head (n := 20) (t := 60) (e := 53) (g := 0) (by kernel_rfl) (by kernel_rfl) Tryd.underlying60 Tryd.underlying53 (by kernel_rfl) (by kernel_rfl) h1
end Go.Proofs.YtldfppjeelfahaaDoor
