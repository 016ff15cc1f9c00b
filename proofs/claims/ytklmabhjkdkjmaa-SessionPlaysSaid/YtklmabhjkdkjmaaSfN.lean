/- slices.SortFunc at []uint64, of nothing. -/
import Derived.Test.YtklmabhjkdkjmaaApp
import Derived.Test.YtklmabhjkdkjmaaShelf
import Derived.Test.YtklmabhjkdkjmaaSortL
import Derived.Lib.Hide
namespace Go.Proofs.Ytklmabhjkdkjmaa
set_option linter.unusedVariables false
open Go.RowKit
theorem ins_nil (v : Value) (w : World) : Calls Try.prog 31 #[.slice none 0 0, .int .i64 0, .int .i64 0, v] w fun e w' => e = .returned (.tuple #[]) ∧ w' = w := by
  go_enter Try.func31, Try.ntmps31
  go_wp2_with fail
  go_loop [8] (fun i => i = .int .i64 1) (fun _ => 0)
  case atStart => rfl
  case round =>
    subst hrel
    go_wp2_with fail
    go_end0
    exact ⟨rfl, rfl⟩
theorem pdq_nil (x : Int) (v : Value) (w : World) : Calls Try.prog 29 #[.slice none 0 0, .int .i64 0, .int .i64 0, .int .i64 x, v] w fun e w' => e = .returned (.tuple #[]) ∧ w' = w := by
  have C1 := Lib.hid (ins_nil v w)
  go_enter Try.func29, Try.ntmps29
  go_wp2_with fail
  go_loop [1, 2] (fun a b => a = .int .i64 0 ∧ b = .int .i64 0) (fun _ _ => 0)
  case atStart => exact ⟨rfl, rfl⟩
  case round =>
    obtain ⟨rfl, rfl⟩ := hrel
    go_wp2_with fail
    refine C1.out.mono ?_
    rintro e w2 ⟨rfl, rfl⟩
    go_wp2_with fail
    (try simp only [Exit.inBlock, Exit.then]); refine bodyPost_ret (results_none rfl _ _ _) rfl ?_
    exact ⟨rfl, rfl⟩
theorem sortFunc_nil (v : Value) (w : World) : Calls Try.prog 26 #[.slice none 0 0, v] w fun e w' => e = .returned (.tuple #[]) ∧ w' = w := by
  have C1 := Lib.hid (fun x => pdq_nil x v w)
  have C2 := Lib.hid (Try.bits_Len 0 w (by omega) (by omega))
  go_enter Try.func26, Try.ntmps26
  go_wp2_with fail
  refine C2.out.mono ?_
  rintro e w2 ⟨rfl, rfl⟩
  go_wp2_with fail
  refine (C1.out _).mono ?_
  rintro e w3 ⟨rfl, rfl⟩
  go_wp2_with fail
  go_end0
  exact ⟨rfl, rfl⟩
end Go.Proofs.Ytklmabhjkdkjmaa
