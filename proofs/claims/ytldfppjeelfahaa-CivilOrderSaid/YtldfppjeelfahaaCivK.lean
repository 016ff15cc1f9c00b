/- ringerlaw04.known answers true. -/
import Derived.Test.YtldfppjeelfahaaCivC
namespace Go.Proofs.Ytldfppjeelfahaa
set_option linter.unusedVariables false
open Go.RowKit
theorem leapB_1900 : leapB 1900 = false := by decide
theorem leapB_2000 : leapB 2000 = true := by decide

set_option maxHeartbeats 2000000 in
theorem known_any (w : World) : Calls Try.prog 15 #[] w fun e w' => e = .returned (.bool true) ∧ Below w.heap.size w w' := by
  have a1 : daysV 1970 1 1 = 0 := by decide
  have a2 : daysE 1970 1 1 = 0 := by decide
  have a3 : daysV 2000 3 1 = 11017 := by decide
  have a4 : daysV 2399 12 31 = 157053 := by decide
  have a5 : daysE 2023 2 29 = 2 := by decide
  have a6 : ofYV 11016 = 2000 := by decide
  have a7 : ofMV 11016 = 2 := by decide
  have a8 : ofDV 11016 = 29 := by decide
  have a9 : ofE 11016 = 0 := by decide
  have a10 : ofE 157054 = 2 := by decide
  have a11 := leapB_1900
  have a12 := leapB_2000
  go_enter Try.func15, Try.ntmps15
  go_wp2_with fail
  refine (days_any _ _ _ _).mono ?_
  rintro e w1 ⟨rfl, hb1⟩
  go_wp2_with fail
  refine (days_any _ _ _ _).mono ?_
  rintro e w2 ⟨rfl, hb2⟩
  go_wp2_with fail
  refine (days_any _ _ _ _).mono ?_
  rintro e w3 ⟨rfl, hb3⟩
  go_wp2_with fail
  refine (days_any _ _ _ _).mono ?_
  rintro e w4 ⟨rfl, hb4⟩
  go_wp2_with fail
  refine (of_any _ _).mono ?_
  rintro e w5 ⟨rfl, hb5⟩
  go_wp2_with fail
  refine (of_any _ _).mono ?_
  rintro e w6 ⟨rfl, hb6⟩
  have hc6 := fun o => hb6.cell (p := ⟨w5.heap.size, o, none⟩) (by simp)
  have hz6 : w5.heap.size < w6.heap.size := by have := hb6.size; simp at this; omega
  have W7 := fun w => weekday_any 0 w
  have W8 := fun w => weekday_any (-1) w
  rw [show ((0 : Int) + 4) % 7 = 4 by decide] at W7
  rw [show ((-1 : Int) + 4) % 7 = 3 by decide] at W8
  have H7 := Lib.hid W7; clear W7
  have H8 := Lib.hid W8; clear W8
  go_wp2_with fail
  refine (H7.out _).mono ?_
  rintro e w7 ⟨rfl, rfl⟩
  go_wp2_with fail
  refine (H8.out _).mono ?_
  rintro e w8 ⟨rfl, rfl⟩
  go_wp2_with fail
  refine (leap_any _ _).mono ?_
  rintro e w9 ⟨rfl, hb9⟩
  go_wp2_with fail
  refine (leap_any _ _).mono ?_
  rintro e w10 ⟨rfl, hb10⟩
  go_wp2_with fail
  go_ret
  have t1 := ((hb1.trans (hb2.mono hb1.size)).trans (hb3.mono (Nat.le_trans hb1.size hb2.size)))
  have t2 := t1.trans (hb4.mono t1.size)
  have t3 := t2.trans (hb5.mono t2.size)
  have t4 := (t3.alloc t3.size _).trans (hb6.mono (by simp; exact Nat.le_succ_of_le t3.size))
  have t5 := (t4.alloc t4.size _).trans (hb9.mono (by simp; exact Nat.le_succ_of_le t4.size))
  have t6 := t5.trans (hb10.mono t5.size)
  exact ⟨rfl, t6⟩
end Go.Proofs.Ytldfppjeelfahaa
