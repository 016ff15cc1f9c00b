/- Contracts of package civil (layer 4) and of its reference: leap years, lengths of months. -/
import Derived.Test.YthigmjjafilbcaaDoorRows
import Derived.Test.YthigmjjafilbcaaDoorCivM
import Derived.WalkKit
import Derived.WalkSpells
import Derived.WalkLawsBesides
import Derived.BigQuiet
import Derived.Deep.QuietTactic
import Derived.Deep.RegionHeld3
import Derived.Outline
import Derived.Lib.Hide
namespace Go.Proofs.YthigmjjafilbcaaDoor
set_option linter.unusedVariables false
open Go.RowKit
theorem ret_int {k : IntKind} {a b : Int} (h : a = b) : Ending.returned (.int k a) = .returned (.int k b) := by rw [h]
theorem leap1 (n y : Int) (b : Addr) (w : World) (hc : w.cell? b = some (.int .i64 y)) (hn : n ≠ 0) :
    Calls Tryd.prog 86 #[.int .i64 n, .pointer (some b)] w fun e w' => e = .returned (.bool (y.tmod n == 0)) ∧ w = w' := by
  go_enter Tryd.func86, Tryd.ntmps86
  go_wp2
  go_ret
  exact ⟨rfl, rfl⟩

theorem ret_bool {a b : Bool} (h : a = b) : Ending.returned (.bool a) = .returned (.bool b) := by rw [h]

theorem leap_any (y : Int) (w : World) :
    Calls Tryd.prog 75 #[.int .i64 y] w fun e w' => e = .returned (.bool (leapB y)) ∧ Below w.heap.size w w' := by
  unfold leapB
  go_enter Tryd.func75, Tryd.ntmps75
  go_wp2_with (go_at_call 86; refine (leap1 _ y _ _ (by simp [go_sem]) (by decide)).mono ?_; rintro e w' ⟨rfl, rfl⟩)
  all_goals
    go_ret
    exact ⟨ret_bool (by simp [*]), (Below.refl _ _).alloc (Nat.le_refl _) _⟩

theorem long_out (y m : Int) (w : World) (h : m < 1 ∨ 12 < m) :
    Calls Tryd.prog 57 #[.int .i64 y, .int .i64 m] w fun e w' => e = .returned (.int .i64 0) ∧ Below w.heap.size w w' := by
  rcases h with h | h
  all_goals
    go_enter Tryd.func57, Tryd.ntmps57
    go_wp2_with fail
    go_ret
    exact ⟨rfl, (Below.refl _ _).alloc (Nat.le_refl _) _⟩

theorem long_feb (y : Int) (w : World) :
    Calls Tryd.prog 57 #[.int .i64 y, .int .i64 2] w fun e w' => e = .returned (.int .i64 (if leapB y = true then 29 else 28)) ∧ Below w.heap.size w w' := by
  go_enter Tryd.func57, Tryd.ntmps57
  go_wp2_with (go_at_call 75; refine (leap_any _ _).mono ?_; rintro e w' ⟨rfl, hb⟩; have hc := fun o => hb.cell (p := ⟨w.heap.size, o, none⟩) (by simp))
  all_goals
    go_ret
    exact ⟨ret_int (by simp [*]), ((Below.refl _ _).alloc (Nat.le_refl _) _).trans (hb.mono (by simp))⟩

set_option maxHeartbeats 4000000 in
theorem long_mid (y m : Int) (w : World) (h1 : 1 ≤ m) (h12 : m ≤ 12) (h2 : m ≠ 2) :
    Calls Tryd.prog 57 #[.int .i64 y, .int .i64 m] w fun e w' => e = .returned (.int .i64 (if m = 4 ∨ m = 6 ∨ m = 9 ∨ m = 11 then 30 else 31)) ∧ Below w.heap.size w w' := by
  have hm : m = 1 ∨ m = 3 ∨ m = 4 ∨ m = 5 ∨ m = 6 ∨ m = 7 ∨ m = 8 ∨ m = 9 ∨ m = 10 ∨ m = 11 ∨ m = 12 := by omega
  clear h1 h12 h2
  rcases hm with rfl | rfl | rfl | rfl | rfl | rfl | rfl | rfl | rfl | rfl | rfl
  all_goals
    go_enter Tryd.func57, Tryd.ntmps57
    go_wp2_with fail
    go_ret
    exact ⟨ret_int (by simp), (Below.refl _ _).alloc (Nat.le_refl _) _⟩

theorem long_any (y m : Int) (w : World) :
    Calls Tryd.prog 57 #[.int .i64 y, .int .i64 m] w fun e w' => e = .returned (.int .i64 (longI y m)) ∧ Below w.heap.size w w' := by
  by_cases h : m < 1 ∨ 12 < m
  · have e1 : longI y m = 0 := by unfold longI; rw [if_pos h]
    rw [e1]
    exact long_out y m w h
  · by_cases h2 : m = 2
    · subst h2
      have e1 : longI y 2 = if leapB y = true then 29 else 28 := by unfold longI; rw [if_neg h, if_pos rfl]
      rw [e1]
      exact long_feb y w
    · have e1 : longI y m = if m = 4 ∨ m = 6 ∨ m = 9 ∨ m = 11 then 30 else 31 := by unfold longI; rw [if_neg h, if_neg h2]
      rw [e1]
      exact long_mid y m w (by omega) (by omega) h2

theorem refLeap_any (y : Int) (w : World) :
    Calls Tryd.prog 59 #[.int .i64 y] w fun e w' => e = .returned (.bool (leapB y)) ∧ w = w' := by
  unfold leapB
  go_enter Tryd.func59, Tryd.ntmps59
  go_wp2
  all_goals
    go_ret
    exact ⟨ret_bool (by first | (simp [*]; done) | (simp_all [bne, Bool.and_comm]; done)), rfl⟩

theorem refLong_any (y m : Int) (w : World) :
    Calls Tryd.prog 60 #[.int .i64 y, .int .i64 m] w fun e w' => e = .returned (.int .i64 (longI y m)) ∧ w = w' := by
  go_enter Tryd.func60, Tryd.ntmps60
  go_wp2_with (go_at_call 59; refine (refLeap_any _ _).mono ?_; rintro e w' ⟨rfl, rfl⟩)
  all_goals
    go_ret
    exact ⟨ret_int (by unfold longI; simp only [beq_iff_eq, beq_eq_false_iff_ne] at *; (repeat' split) <;> simp_all <;> omega), rfl⟩
end Go.Proofs.YthigmjjafilbcaaDoor
