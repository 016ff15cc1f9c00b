/- The law's of and heavy. -/
import Derived.Test.YthigmjjafilbcaaCaX
import Derived.Test.YthigmjjafilbcaaRgN
namespace Go.Proofs.Ythigmjjafilbcaa
set_option linter.unusedVariables false
set_option maxRecDepth 100000
open Go.RowKit
theorem ofC_any (v : Value) (k : Nat) (off on : List Int) (w : World) (h : CalAt w v k off on) :
    Calls Try.prog 11 #[v] w fun e w' => e = .returned v ∧ Below w.heap.size w w' := by
  obtain ⟨A, cA, B, cB, rfl, ha, hb⟩ := h.ex
  clear h ha hb
  obtain ⟨WB, hWB⟩ : ∃ WB, (w.alloc (.cells #[.int .u8 k, .slice A off.length cA, .slice B on.length cB] 24)).alloc (.cells #[.int .u8 0, .slice none 0 0, .slice none 0 0] 31) = WB := ⟨_, rfl⟩
  have T2 := two rfl hWB
  have K := Lib.hid T2.1
  have K2 := Lib.hid T2.2.1
  have Q0 := Lib.hid T2.2.2.1
  have HW := Lib.hid hWB
  clear hWB T2
  go_enter Try.func11, Try.ntmps11
  go_upto_region 1 with fail
  rw [HW.out]
  have kd0 := fun o => K.out.cell o
  have kd1 := fun o => K2.out.cell o
  have fd1 := fun o => K2.out.free o
  go_wp2_with fail
  refine bodyPost_ret (results_row1 Try.results11 _ _ (w.heap.size + 1) 31 #[.int .u8 k, .slice A off.length cA, .slice B on.length cB] (0, 0) _ rfl ?_ Try.underlying31 rfl (by kernel_rfl)) rfl ⟨rfl, ?_⟩
  · exact (((K2.out.put 0 _).put 1 _).put 2 _).eq rfl
  · exact ((Q0.out.setCell (by simp) _).setCell (by simp) _).setCell (by simp) _
theorem heavy_any (v : Value) (k : Nat) (off on : List Int) (w : World) (h : CalAt w v k off on) :
    Calls Try.prog 7 #[v] w fun e w' => e = .returned (.bool (decide (30 < (off.length : Int)) || decide (30 < (on.length : Int)))) ∧ Below w.heap.size w w' := by
  obtain ⟨A, cA, B, cB, rfl, ha, hb⟩ := h.ex
  clear h ha hb
  obtain ⟨WB, hWB⟩ : ∃ WB, w.alloc (.cells #[.int .u8 k, .slice A off.length cA, .slice B on.length cB] 24) = WB := ⟨_, rfl⟩
  have K := Lib.hid (show Row WB w.heap.size _ _ by rw [← hWB]; exact Row.new _ _ _)
  have Q0 := Lib.hid (show Below w.heap.size w WB by rw [← hWB]; exact nextB (Below.refl _ _))
  have HW := Lib.hid hWB
  clear hWB
  go_enter Try.func7, Try.ntmps7
  go_upto_region 1 with fail
  rw [HW.out]
  have kd0 := fun o => K.out.cell o
  go_wp2_with fail
  all_goals
    go_ret
    exact ⟨rfl, Q0.out⟩
end Go.Proofs.Ythigmjjafilbcaa
