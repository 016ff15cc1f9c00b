/- The reference's answers at rows that are too long. -/
import Derived.Test.YtceeopjmdfefjaaGrH
namespace Go.Proofs.Ytceeopjmdfefjaa
set_option linter.unusedVariables false
open Go.RowKit Go.Sort
section
set_option maxHeartbeats 1000000
set_option maxRecDepth 100000
theorem refMay_long (A : Option Addr) (c : Nat) (l : List Nd) (w : World) (hl : 64 < l.length) :
    Calls Try.prog 11 #[.slice A l.length c] w fun e w' => e = .returned (.int .i64 3) ∧ w' = w := by
  have d1 : (64 : Int) < (l.length : Int) := by omega
  clear hl
  go_enter Try.func11, Try.ntmps11
  go_wp2_with fail
  go_ret
  exact ⟨rfl, rfl⟩
theorem refReach_long (A : Option Addr) (c : Nat) (l : List Nd) (fr tg : Int) (w : World) (hl : 64 < l.length) :
    Calls Try.prog 16 #[.slice A l.length c, .int .u64 fr, .int .u64 tg] w fun e w' => e = .returned (.bool (rchB l fr tg)) ∧ Below w.heap.size w w' := by
  have hr : rchB l fr tg = false := by
    classical
    unfold rchB
    exact decide_eq_false fun h => by omega
  rw [hr]
  have d1 : (64 : Int) < (l.length : Int) := by omega
  clear hl hr
  go_enter Try.func16, Try.ntmps16
  go_wp2_with fail
  go_ret
  exact ⟨rfl, Below.refl _ _⟩
theorem refUsers_long (A : Option Addr) (c n : Nat) (id : Int) (w : World) (hl : 64 < n) :
    Calls Try.prog 14 #[.slice A n c, .int .u64 id] w fun e w' => e = .returned (.slice none 0 0) ∧ w' = w := by
  have d1 : (64 : Int) < (n : Int) := by omega
  clear hl
  go_enter Try.func14, Try.ntmps14
  go_wp2_with fail
  go_ret
  exact ⟨rfl, rfl⟩
theorem refOrder_long (A : Option Addr) (c : Nat) (l : List Nd) (w : World) (hl : 64 < l.length) :
    Calls Try.prog 9 #[.slice A l.length c] w fun e w' => e = .returned (.tuple #[.slice none 0 0, .int .i64 3]) ∧ w' = w := by
  have C0 := Lib.hid (refMay_long A c l w hl)
  clear hl
  go_enter Try.func9, Try.ntmps9
  go_wp2_with fail
  refine C0.out.mono ?_
  rintro e w1 ⟨rfl, rfl⟩
  go_wp2_with fail
  go_ret2
  exact ⟨rfl, rfl⟩
theorem may_long (A : Option Addr) (c : Nat) (l : List Nd) (w : World) (hl : 64 < l.length) :
    Calls Try.prog 10 #[.slice A l.length c] w fun e w' => e = .returned (.int .i64 3) ∧ w' = w := by
  have d1 : (64 : Int) < (l.length : Int) := by omega
  clear hl
  go_enter Try.func10, Try.ntmps10
  go_wp2_with fail
  go_ret
  exact ⟨rfl, rfl⟩
end
end Go.Proofs.Ytceeopjmdfefjaa
