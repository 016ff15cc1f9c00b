/- Contracts of package civil (layer 4) and of its reference: dates. -/
import Derived.Test.YthigmjjafilbcaaDoorCivA
import Derived.WalkSmall
import Derived.Lib.Hide
namespace Go.Proofs.YthigmjjafilbcaaDoor
set_option linter.unusedVariables false
open Go.RowKit
theorem quiet_left {P : Program} {f : FuncId} {args : Array Value} {w : World} {n : Nat} {v : Value}
    (h : Calls P f args (w.drewN n) fun e w' => e = .returned v ∧ w.drewN n = w') : Calls P f args (w.drewN n) fun e w'' => e = .returned v ∧ ∃ m, w'' = w.drewN m :=
  h.mono fun _ _ ⟨he, hm⟩ => ⟨he, n, hm.symm⟩

theorem may_no (y m d : Int) (w : World) (h : y < 1970 ∨ 2399 < y ∨ d < 1) :
    Calls Tryd.prog 82 #[.agg #[.int .i64 y, .int .i64 m, .int .i64 d]] w fun e w' => e = .returned (.bool false) ∧ Below w.heap.size w w' := by
  cases d1 : decide (1970 ≤ y) <;> cases d2 : decide (y ≤ 2399) <;> cases d3 : decide (1 ≤ d)
  case true.true.true => simp at d1 d2 d3; omega
  all_goals
    clear h
    go_enter Tryd.func82, Tryd.ntmps82
    go_wp2
    go_quiet (fail)
    go_wp2
    go_ret
    exact ⟨rfl, below_drewN ((Below.refl _ _).alloc (Nat.le_refl _) _) _⟩

theorem may_in (y m d : Int) (w : World) (h1 : 1970 ≤ y) (h2 : y ≤ 2399) (h3 : 1 ≤ d) :
    Calls Tryd.prog 82 #[.agg #[.int .i64 y, .int .i64 m, .int .i64 d]] w fun e w' => e = .returned (.bool (decide (d ≤ longI y m))) ∧ Below w.heap.size w w' := by
  go_enter Tryd.func82, Tryd.ntmps82
  go_wp2
  go_region_held3 (fun w' => w'.cell? ⟨w.heap.size, 0, none⟩ = some (.int .i64 y) ∧ w'.cell? ⟨w.heap.size, 1, none⟩ = some (.int .i64 m) ∧ w'.cell? ⟨w.heap.size, 2, none⟩ = some (.int .i64 d) ∧ Below w.heap.size w w') 
    (first | exact ⟨by simp [go_sem], by simp [go_sem], by simp [go_sem], ((Below.refl _ _).alloc (Nat.le_refl _) _).drew⟩
           | exact ⟨(hb.cell (p := ⟨w.heap.size, 0, none⟩) (by simp)).trans (by simp [go_sem]), (hb.cell (p := ⟨w.heap.size, 1, none⟩) (by simp)).trans (by simp [go_sem]), (hb.cell (p := ⟨w.heap.size, 2, none⟩) (by simp)).trans (by simp [go_sem]),
              (((Below.refl _ _).alloc (Nat.le_refl _) _).drew).trans (hb.mono (by simp))⟩)
    (first | (go_at_call 57; refine (long_any _ _ _).mono ?_; rintro e w' ⟨rfl, hb⟩))
  go_wp2
  go_ret
  exact ⟨rfl, (‹_ ∧ _› : _ ∧ _ ∧ _ ∧ Below w.heap.size w w').2.2.2⟩

theorem may_any (y m d : Int) (w : World) :
    Calls Tryd.prog 82 #[.agg #[.int .i64 y, .int .i64 m, .int .i64 d]] w fun e w' => e = .returned (.bool (mayB y m d)) ∧ Below w.heap.size w w' := by
  by_cases h : y < 1970 ∨ 2399 < y ∨ d < 1
  · have e1 : mayB y m d = false := by unfold mayB; simp only [Bool.and_eq_false_iff, decide_eq_false_iff_not]; omega
    rw [e1]
    exact may_no y m d w h
  · have e1 : mayB y m d = decide (d ≤ longI y m) := by
      unfold mayB
      rw [decide_eq_true (show 1970 ≤ y by omega), decide_eq_true (show y ≤ 2399 by omega), decide_eq_true (show 1 ≤ d by omega)]; rfl
    rw [e1]
    exact may_in y m d w (by omega) (by omega) (by omega)

theorem refMay_no (y m d : Int) (w : World) (h : y < 1970 ∨ 2399 < y ∨ d < 1) :
    Calls Tryd.prog 87 #[.agg #[.int .i64 y, .int .i64 m, .int .i64 d]] w fun e w' => e = .returned (.bool false) ∧ Below w.heap.size w w' := by
  cases d1 : decide (1970 ≤ y) <;> cases d2 : decide (y ≤ 2399) <;> cases d3 : decide (1 ≤ d)
  case true.true.true => simp at d1 d2 d3; omega
  all_goals
    clear h
    go_enter Tryd.func87, Tryd.ntmps87
    go_wp2
    go_quiet (fail)
    go_wp2
    go_ret
    exact ⟨rfl, below_drewN ((Below.refl _ _).alloc (Nat.le_refl _) _) _⟩

theorem refMay_in (y m d : Int) (w : World) (h1 : 1970 ≤ y) (h2 : y ≤ 2399) (h3 : 1 ≤ d) :
    Calls Tryd.prog 87 #[.agg #[.int .i64 y, .int .i64 m, .int .i64 d]] w fun e w' => e = .returned (.bool (decide (d ≤ longI y m))) ∧ Below w.heap.size w w' := by
  go_enter Tryd.func87, Tryd.ntmps87
  go_wp2
  go_quiet ((go_at_call 60; exact quiet_left (refLong_any _ _ _)))
  go_wp2
  go_ret
  exact ⟨rfl, below_drewN ((Below.refl _ _).alloc (Nat.le_refl _) _) _⟩

theorem refMay_any (y m d : Int) (w : World) :
    Calls Tryd.prog 87 #[.agg #[.int .i64 y, .int .i64 m, .int .i64 d]] w fun e w' => e = .returned (.bool (mayB y m d)) ∧ Below w.heap.size w w' := by
  by_cases h : y < 1970 ∨ 2399 < y ∨ d < 1
  · have e1 : mayB y m d = false := by unfold mayB; simp only [Bool.and_eq_false_iff, decide_eq_false_iff_not]; omega
    rw [e1]
    exact refMay_no y m d w h
  · have e1 : mayB y m d = decide (d ≤ longI y m) := by
      unfold mayB
      rw [decide_eq_true (show 1970 ≤ y by omega), decide_eq_true (show y ≤ 2399 by omega), decide_eq_true (show 1 ≤ d by omega)]; rfl
    rw [e1]
    exact refMay_in y m d w (by omega) (by omega) (by omega)

theorem days_no (y m d : Int) (w : World) (h : mayB y m d = false) :
    Calls Tryd.prog 90 #[.agg #[.int .i64 y, .int .i64 m, .int .i64 d]] w fun e w' => e = .returned (.tuple #[.int .i64 0, .int .i64 2]) ∧ Below w.heap.size w w' := by
  go_enter Tryd.func90, Tryd.ntmps90
  go_wp2_with (go_at_call 82; refine (may_any _ _ _ _).mono ?_; rintro e w' ⟨rfl, hb⟩)
  go_ret2
  exact ⟨rfl, ((Below.refl _ _).alloc (Nat.le_refl _) _).trans (hb.mono (by simp))⟩

set_option maxHeartbeats 1000000 in
theorem days_yes (y m d : Int) (w : World) (h : mayB y m d = true) :
    Calls Tryd.prog 90 #[.agg #[.int .i64 y, .int .i64 m, .int .i64 d]] w fun e w' => e = .returned (.tuple #[.int .i64 (daysA y m d), .int .i64 0]) ∧ Below w.heap.size w w' := by
  obtain ⟨h1, h2, h3, h4, h5, h6, -⟩ := mayB_bds h
  by_cases hm : m ≤ 2
  · have e1 : daysA y m d = 365 * (y - 1) + (y - 1) / 4 - (y - 1) / 100 + (y - 1) / 400 + (153 * (m + 12 - 3) + 2) / 5 + d - 719469 := by unfold daysA; rw [if_pos hm]
    rw [e1]; clear e1
    go_enter Tryd.func90, Tryd.ntmps90
    go_wp2_with (go_at_call 82; refine (may_any _ _ _ _).mono ?_; rintro e w' ⟨rfl, hb⟩; have hc := fun o => hb.cell (p := ⟨w.heap.size, o, none⟩) (by simp))
    go_quiet (fail)
    go_wp2
    go_ret2
    exact ⟨rfl, below_drewN (((Below.refl _ _).alloc (Nat.le_refl _) _).trans (hb.mono (by simp))) _⟩
  · have e1 : daysA y m d = 365 * y + y / 4 - y / 100 + y / 400 + (153 * (m - 3) + 2) / 5 + d - 719469 := by unfold daysA; rw [if_neg hm]
    rw [e1]; clear e1
    go_enter Tryd.func90, Tryd.ntmps90
    go_wp2_with (go_at_call 82; refine (may_any _ _ _ _).mono ?_; rintro e w' ⟨rfl, hb⟩; have hc := fun o => hb.cell (p := ⟨w.heap.size, o, none⟩) (by simp))
    go_quiet (fail)
    go_wp2
    go_ret2
    exact ⟨rfl, below_drewN (((Below.refl _ _).alloc (Nat.le_refl _) _).trans (hb.mono (by simp))) _⟩

/-- What Days answers: the number and the Errno. -/
def daysV (y m d : Int) : Int := if mayB y m d = true then numI y m d else 0
def daysE (y m d : Int) : Int := if mayB y m d = true then 0 else 2

theorem days_any (y m d : Int) (w : World) :
    Calls Tryd.prog 90 #[.agg #[.int .i64 y, .int .i64 m, .int .i64 d]] w fun e w' => e = .returned (.tuple #[.int .i64 (daysV y m d), .int .i64 (daysE y m d)]) ∧ Below w.heap.size w w' := by
  unfold daysV daysE
  cases h : mayB y m d
  · exact days_no y m d w h
  · have := days_yes y m d w h
    rw [daysA_num h] at this
    exact this

theorem refDays_no (y m d : Int) (w : World) (h : mayB y m d = false) :
    Calls Tryd.prog 77 #[.agg #[.int .i64 y, .int .i64 m, .int .i64 d]] w fun e w' => e = .returned (.tuple #[.int .i64 0, .int .i64 2]) ∧ Below w.heap.size w w' := by
  go_enter Tryd.func77, Tryd.ntmps77
  go_wp2_with (go_at_call 87; refine (refMay_any _ _ _ _).mono ?_; rintro e w' ⟨rfl, hb⟩)
  go_ret2
  exact ⟨rfl, ((Below.refl _ _).alloc (Nat.le_refl _) _).trans (hb.mono (by simp))⟩

set_option maxHeartbeats 1000000 in
theorem refDays_yes (y m d : Int) (w : World) (h : mayB y m d = true) :
    Calls Tryd.prog 77 #[.agg #[.int .i64 y, .int .i64 m, .int .i64 d]] w fun e w' => e = .returned (.tuple #[.int .i64 (numI y m d), .int .i64 0]) ∧ Below w.heap.size w w' := by
  obtain ⟨h1, h2, h3, h4, h5, h6, -⟩ := mayB_bds h
  have hy0 : dby y ≤ 900000 := by unfold dby; omega
  go_enter Tryd.func77, Tryd.ntmps77
  go_wp2_with (go_at_call 87; refine (refMay_any _ _ _ _).mono ?_; rintro e w' ⟨rfl, hb⟩; have hc := fun o => hb.cell (p := ⟨w.heap.size, o, none⟩) (by simp))
  go_loop [4, 5] (fun n k => ∃ j : Int, 1970 ≤ j ∧ j ≤ y ∧ k = .int .i64 j ∧ n = .int .i64 (dby j - 719527)) (fun _ k => (y - intOf k).toNat)
  case atStart => exact ⟨1970, by omega, by omega, rfl, by rw [dby_1970]; rfl⟩
  case round =>
    obtain ⟨j, hj1, hj2, rfl, rfl⟩ := hrel
    have b1 : 719527 ≤ dby j := by rw [← dby_1970]; unfold dby; omega
    have b2 : dby j ≤ dby y := by unfold dby; omega
    by_cases hlt : j < y
    · have hs := dby_succ (y := j) (by omega)
      have HS := Lib.hid hs; clear hs
      go_wp2_with (go_at_call 59; refine (refLeap_any _ _).mono ?_; rintro e w' ⟨rfl, rfl⟩)
      all_goals
        go_round
        case rel => exact ⟨j + 1, by omega, by omega, rfl, by rw [HS.out]; simp [*]; try omega⟩
        case measure => simp [intOf]; omega
    · have e : j = y := by omega
      subst e
      go_wp2
      go_loop [4, 6] (fun n k => ∃ i : Int, 1 ≤ i ∧ i ≤ m ∧ k = .int .i64 i ∧ n = .int .i64 (dby j - 719527 + cum j i)) (fun _ k => (m - intOf k).toNat)
      case atStart => exact ⟨1, by omega, by omega, rfl, by rw [cum_1]; simp⟩
      case round =>
        obtain ⟨i, hi1, hi2, rfl, rfl⟩ := hrel
        have c1 := cum_bd j i hi1 (by omega)
        by_cases hlt : i < m
        · have hs := cum_succ (y := j) (m := i) (by omega) (by omega)
          have hl := longI_bd j i
          have HS := Lib.hid hs; clear hs
          go_wp2_with (go_at_call 60; refine (refLong_any _ _ _).mono ?_; rintro e w' ⟨rfl, rfl⟩)
          go_round
          case rel => exact ⟨i + 1, by omega, by omega, rfl, by rw [HS.out]; simp; try omega⟩
          case measure => simp [intOf]; omega
        · have e : i = m := by omega
          subst e
          go_wp2
          go_ret2
          exact ⟨rfl, ((Below.refl _ _).alloc (Nat.le_refl _) _).trans (hb.mono (by simp))⟩

theorem refDays_any (y m d : Int) (w : World) :
    Calls Tryd.prog 77 #[.agg #[.int .i64 y, .int .i64 m, .int .i64 d]] w fun e w' => e = .returned (.tuple #[.int .i64 (daysV y m d), .int .i64 (daysE y m d)]) ∧ Below w.heap.size w w' := by
  unfold daysV daysE
  cases h : mayB y m d
  · exact refDays_no y m d w h
  · exact refDays_yes y m d w h
end Go.Proofs.YthigmjjafilbcaaDoor
