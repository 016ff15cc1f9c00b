/- Contracts of civil.Of, Weekday and of their references. -/
import Derived.Test.YthigmjjafilbcaaDoorCivB
namespace Go.Proofs.YthigmjjafilbcaaDoor
set_option linter.unusedVariables false
open Go.RowKit
def zdate : Value := .agg #[.int .i64 0, .int .i64 0, .int .i64 0]

theorem of_no (n : Int) (w : World) (h : n < 0 ∨ 157054 ≤ n) :
    Calls Tryd.prog 43 #[.int .i64 n] w fun e w' => e = .returned (.tuple #[.agg #[.int .i64 0, .int .i64 0, .int .i64 0], .int .i64 2]) ∧ Below w.heap.size w w' := by
  rcases h with h | h
  · go_enter Tryd.func43, Tryd.ntmps43
    go_wp2
    exact bodyPost_ret (v := .tuple #[.agg #[.int .i64 0, .int .i64 0, .int .i64 0], .int .i64 2]) (by simp [results, Tryd.results43, go_sem]) rfl ⟨rfl, (Below.refl _ _).alloc (Nat.le_refl _) _⟩
  · have h' : ¬ n < 0 := by omega
    go_enter Tryd.func43, Tryd.ntmps43
    go_wp2
    exact bodyPost_ret (v := .tuple #[.agg #[.int .i64 0, .int .i64 0, .int .i64 0], .int .i64 2]) (by simp [results, Tryd.results43, go_sem]) rfl ⟨rfl, (Below.refl _ _).alloc (Nat.le_refl _) _⟩

theorem weekday_any (n : Int) (w : World) :
    Calls Tryd.prog 65 #[.int .i64 n] w fun e w' => e = .returned (.int .i64 ((n + 4) % 7)) ∧ w = w' := by
  obtain ⟨h1, h2, h3, -, -⟩ := tmod7 n
  have H3 := Lib.hid h3; clear h3
  go_enter Tryd.func65, Tryd.ntmps65
  go_wp2
  go_ret
  exact ⟨ret_int H3.out, rfl⟩
theorem refWeekday_any (n : Int) (w : World) :
    Calls Tryd.prog 29 #[.int .i64 n] w fun e w' => e = .returned (.int .i64 ((n + 4) % 7)) ∧ w = w' := by
  obtain ⟨h1, h2, -, h3, h4⟩ := tmod7 n
  obtain ⟨h5, h6⟩ := tmod7b n
  have H3 := Lib.hid h3; clear h3
  have H4 := Lib.hid h4; clear h4
  go_enter Tryd.func29, Tryd.ntmps29
  go_wp2
  all_goals
    go_ret
    exact ⟨ret_int (by first | exact H3.out (by assumption) | exact H4.out (by assumption)), rfl⟩

set_option maxHeartbeats 1000000 in
theorem of_yes (n : Int) (w : World) (h0 : 0 ≤ n) (h1 : n < 157054) :
    Calls Tryd.prog 43 #[.int .i64 n] w fun e w' => e = .returned (.tuple #[.agg #[.int .i64 (ofY n), .int .i64 (ofM n), .int .i64 (ofD n)], .int .i64 0]) ∧ Below w.heap.size w w' := by
  obtain ⟨day, era, yr, f, mp, dd, e1, e2, e3, e4, e5, e6, b1, b2, b3, b4, b5, b6, b7, b8, b9, b10, b11, b12, r1, r2⟩ := of_steps n h0 h1
  by_cases h12 : 12 < mp + 3
  · obtain ⟨q1, q2, q3⟩ := r1 h12
    rw [q1, q2, q3]
    clear r1 r2 q1 q2 q3
    go_enter Tryd.func43, Tryd.ntmps43
    go_wp2_with fail
    exact bodyPost_ret (v := .tuple #[.agg #[.int .i64 (era * 400 + yr + 1), .int .i64 (mp + 3 - 12), .int .i64 (dd + 1)], .int .i64 0]) (by simp [results, Tryd.results43, go_sem]) rfl ⟨rfl, by
      repeat (first | exact Below.refl _ _ | refine Below.drew ?_ | refine Below.setCell ?_ (by simp) _ | refine Below.alloc ?_ (by simp) _)⟩
  · obtain ⟨q1, q2, q3⟩ := r2 h12
    rw [q1, q2, q3]
    clear r1 r2 q1 q2 q3
    go_enter Tryd.func43, Tryd.ntmps43
    go_wp2_with fail
    exact bodyPost_ret (v := .tuple #[.agg #[.int .i64 (era * 400 + yr), .int .i64 (mp + 3), .int .i64 (dd + 1)], .int .i64 0]) (by simp [results, Tryd.results43, go_sem]) rfl ⟨rfl, by
      repeat (first | exact Below.refl _ _ | refine Below.drew ?_ | refine Below.setCell ?_ (by simp) _ | refine Below.alloc ?_ (by simp) _)⟩

/-- What Of answers. -/
def inB (n : Int) : Bool := decide (0 ≤ n) && decide (n < 157054)
def ofE (n : Int) : Int := if inB n = true then 0 else 2
def ofYV (n : Int) : Int := if inB n = true then ofY n else 0
def ofMV (n : Int) : Int := if inB n = true then ofM n else 0
def ofDV (n : Int) : Int := if inB n = true then ofD n else 0
theorem inB_iff {n : Int} : inB n = true ↔ 0 ≤ n ∧ n < 157054 := by unfold inB; simp

theorem of_any (n : Int) (w : World) :
    Calls Tryd.prog 43 #[.int .i64 n] w fun e w' => e = .returned (.tuple #[.agg #[.int .i64 (ofYV n), .int .i64 (ofMV n), .int .i64 (ofDV n)], .int .i64 (ofE n)]) ∧ Below w.heap.size w w' := by
  unfold ofYV ofMV ofDV ofE
  cases h : inB n
  · have h' : n < 0 ∨ 157054 ≤ n := by
      have : ¬ (0 ≤ n ∧ n < 157054) := fun h2 => by rw [inB_iff.2 h2] at h; cases h
      omega
    exact of_no n w h'
  · have h' := inB_iff.1 h
    exact of_yes n w h'.1 h'.2

theorem refOf_neg (n : Int) (w : World) (h : n < 0) :
    Calls Tryd.prog 28 #[.int .i64 n] w fun e w' => e = .returned (.tuple #[.agg #[.int .i64 0, .int .i64 0, .int .i64 0], .int .i64 2]) ∧ Below w.heap.size w w' := by
  go_enter Tryd.func28, Tryd.ntmps28
  go_wp2
  exact bodyPost_ret (v := .tuple #[.agg #[.int .i64 0, .int .i64 0, .int .i64 0], .int .i64 2]) (by simp [results, Tryd.results28, go_sem]) rfl ⟨rfl, (Below.refl _ _).alloc (Nat.le_refl _) _⟩

set_option maxHeartbeats 1000000 in
theorem refOf_big (n : Int) (w : World) (h : 157054 ≤ n) (hw : n ≤ 9223372036854775807) :
    Calls Tryd.prog 28 #[.int .i64 n] w fun e w' => e = .returned (.tuple #[.agg #[.int .i64 0, .int .i64 0, .int .i64 0], .int .i64 2]) ∧ Below w.heap.size w w' := by
  go_enter Tryd.func28, Tryd.ntmps28
  go_wp2
  go_loop [0, 4] (fun r y => ∃ k : Int, 1970 ≤ k ∧ k ≤ 2400 ∧ y = .int .i64 k ∧ r = .int .i64 (n - (dby k - 719527))) (fun _ y => (2400 - intOf y).toNat)
  case atStart => exact ⟨1970, by omega, by omega, rfl, by rw [dby_1970]; simp⟩
  case round =>
    obtain ⟨k, hk1, hk2, rfl, rfl⟩ := hrel
    have b1 : 719527 ≤ dby k := by rw [← dby_1970]; unfold dby; omega
    by_cases hlt : k ≤ 2399
    · have hs := dby_succ (y := k) (by omega)
      have hb : dby (k + 1) ≤ 719527 + 157054 := by rw [← dby_2400]; unfold dby; omega
      have HS := Lib.hid hs
      cases hl : leapB k
      all_goals
        rw [hl] at hs
        simp at hs
        have h9 : dby k + 365 ≤ 719527 + n := by omega
        have h10 : dby k + 365 + (if leapB k = true then 1 else 0) ≤ 719527 + n := by rw [hl]; simp; omega
        rw [hl] at h10
        simp at h10
        clear hs
        go_wp2_with (go_at_call 59; refine (refLeap_any _ _).mono ?_; rintro e w' ⟨rfl, rfl⟩)
        go_round
        case rel => exact ⟨k + 1, by omega, by omega, rfl, by rw [HS.out, hl]; simp; try omega⟩
        case measure => simp [intOf]; omega
    · go_wp2
      exact bodyPost_ret (v := .tuple #[.agg #[.int .i64 0, .int .i64 0, .int .i64 0], .int .i64 2]) (by simp [results, Tryd.results28, go_sem]) rfl ⟨rfl, (Below.refl _ _).alloc (Nat.le_refl _) _⟩

theorem of_fin {n k i : Int} (hk1 : 1970 ≤ k) (hk2 : k ≤ 2399) (hi1 : 1 ≤ i) (hi2 : i ≤ 12) (h : cum k i ≤ n - (dby k - 719527)) (hb : n - (dby k - 719527) - cum k i < longI k i) (h0 : 0 ≤ n) (h1 : n < 157054) :
    Ending.returned (.tuple #[.agg #[.int .i64 k, .int .i64 i, .int .i64 (n - (dby k - 719527) - cum k i + 1)], .int .i64 0]) =
      Ending.returned (.tuple #[.agg #[.int .i64 (ofY n), .int .i64 (ofM n), .int .i64 (ofD n)], .int .i64 0]) := by
  obtain ⟨e1, e2, e3⟩ := ofs_eq (y := k) (m := i) (d := n - (dby k - 719527) - cum k i + 1) h0 h1 (mayB_iff.2 ⟨hk1, hk2, by omega, by omega⟩) (by unfold numI; omega)
  rw [e1, e2, e3]

set_option maxHeartbeats 2000000 in
theorem refOf_in (n : Int) (w : World) (h0 : 0 ≤ n) (h1 : n < 157054) :
    Calls Tryd.prog 28 #[.int .i64 n] w fun e w' => e = .returned (.tuple #[.agg #[.int .i64 (ofY n), .int .i64 (ofM n), .int .i64 (ofD n)], .int .i64 0]) ∧ Below w.heap.size w w' := by
  go_enter Tryd.func28, Tryd.ntmps28
  go_wp2
  go_loop [0, 4] (fun r y => ∃ k : Int, 1970 ≤ k ∧ k ≤ 2399 ∧ dby k - 719527 ≤ n ∧ y = .int .i64 k ∧ r = .int .i64 (n - (dby k - 719527))) (fun _ y => (2400 - intOf y).toNat)
  case atStart => exact ⟨1970, by omega, by omega, by rw [dby_1970]; omega, rfl, by rw [dby_1970]; simp⟩
  case round =>
    obtain ⟨k, hk1, hk2, hk3, rfl, rfl⟩ := hrel
    have b1 : 719527 ≤ dby k := by rw [← dby_1970]; unfold dby; omega
    have hs := dby_succ (y := k) (by omega)
    have HS := Lib.hid hs
    cases hl : leapB k
    all_goals
      rw [hl] at hs
      simp only [Bool.false_eq_true, if_false, if_true] at hs
      by_cases hb : n < dby (k + 1) - 719527
      · have hlt : n < dby k + 366 - 719527 := by omega
        have hlt' : n < dby (k + 1) - 719527 := hb
        rw [hs] at hlt'
        have hd1 : decide (2399 < k) = false := decide_eq_false (by omega)
        have hd2 : decide (n - (dby k - 719527) < 365 + (if leapB k = true then 1 else 0)) = true := decide_eq_true (by rw [hl]; simp; omega)
        rw [hl] at hd2
        simp only [Bool.false_eq_true, if_false, if_true, Int.add_zero, Int.reduceAdd] at hd2
        clear hs hb
        go_wp2_with (go_at_call 59; refine (refLeap_any _ _).mono ?_; rintro e w' ⟨rfl, rfl⟩)
        go_loop [0, 6] (fun r q => ∃ i : Int, 1 ≤ i ∧ i ≤ 12 ∧ cum k i ≤ n - (dby k - 719527) ∧ q = .int .i64 i ∧ r = .int .i64 (n - (dby k - 719527) - cum k i)) (fun _ q => (12 - intOf q).toNat)
        case atStart => exact ⟨1, by omega, by omega, by rw [cum_1]; omega, rfl, by rw [cum_1]; simp⟩
        case round =>
          obtain ⟨i, hi1, hi2, hi3, rfl, rfl⟩ := hrel
          have c1 := cum_bd k i hi1 (by omega)
          have lb := longI_bd k i
          have cs := cum_succ (y := k) (m := i) hi1 hi2
          have CS := Lib.hid cs
          by_cases hb : n - (dby k - 719527) - cum k i < longI k i
          · have F := of_fin hk1 hk2 hi1 hi2 hi3 (by omega) h0 h1
            clear cs
            go_wp2_with (go_at_call 60; refine (refLong_any _ _ _).mono ?_; rintro e w' ⟨rfl, rfl⟩)
            refine bodyPost_ret (v := .tuple #[.agg #[.int .i64 k, .int .i64 i, .int .i64 (n - (dby k - 719527) - cum k i + 1)], .int .i64 0]) (by simp [results, Tryd.results28, go_sem]) rfl ⟨F, ?_⟩
            repeat (first | exact Below.refl _ _ | refine Below.drew ?_ | refine Below.setCell ?_ (by simp) _ | refine Below.alloc ?_ (by simp) _)
          · have h9 : i + 1 ≤ 12 := by
              have : i ≠ 12 := by
                rintro rfl
                have e13 := cum_13 k
                rw [show (12 : Int) + 1 = 13 by rfl, e13, hl] at cs
                simp at cs
                omega
              omega
            clear cs
            go_wp2_with (go_at_call 60; refine (refLong_any _ _ _).mono ?_; rintro e w' ⟨rfl, rfl⟩)
            go_round
            case rel => exact ⟨i + 1, by omega, h9, by rw [CS.out]; omega, rfl, by rw [CS.out]; simp; try omega⟩
            case measure => simp [intOf]; omega
      · have h9 : k + 1 ≤ 2399 := by
          have := dby_2400
          have : k ≠ 2399 := by rintro rfl; rw [show (2399 : Int) + 1 = 2400 by rfl] at hb; omega
          omega
        have h10 : dby (k + 1) - 719527 ≤ n := by omega
        have H10 := Lib.hid h10
        rw [hs] at h10
        clear hs hb
        go_wp2_with (go_at_call 59; refine (refLeap_any _ _).mono ?_; rintro e w' ⟨rfl, rfl⟩)
        go_round
        case rel => exact ⟨k + 1, by omega, by omega, H10.out, rfl, by rw [HS.out, hl]; simp; try omega⟩
        case measure => simp [intOf]; omega

theorem refOf_any (n : Int) (w : World) (hw : n ≤ 9223372036854775807) :
    Calls Tryd.prog 28 #[.int .i64 n] w fun e w' => e = .returned (.tuple #[.agg #[.int .i64 (ofYV n), .int .i64 (ofMV n), .int .i64 (ofDV n)], .int .i64 (ofE n)]) ∧ Below w.heap.size w w' := by
  unfold ofYV ofMV ofDV ofE
  cases h : inB n
  · have h' : n < 0 ∨ 157054 ≤ n := by
      have : ¬ (0 ≤ n ∧ n < 157054) := fun h2 => by rw [inB_iff.2 h2] at h; cases h
      omega
    rcases h' with h' | h'
    · exact refOf_neg n w h'
    · exact refOf_big n w h' hw
  · have h' := inB_iff.1 h
    exact refOf_in n w h'.1 h'.2
end Go.Proofs.YthigmjjafilbcaaDoor
