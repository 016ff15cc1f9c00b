/- Contracts of stamp.Join, Add, Floor, of the reference's Split, Join, Add. -/
import Derived.Test.YtldfppjeelfahaaDoorStA
namespace Go.Proofs.YtldfppjeelfahaaDoor
set_option linter.unusedVariables false
open Go.RowKit

/-- What Join answers. -/
def joinV (y m d h mi s wd : Int) : Int := if clkB y m d h mi s wd = true then momI y m d h mi s else 0
def joinE (y m d h mi s wd : Int) : Int := if clkB y m d h mi s wd = true then 0 else 2
theorem clkB_parts {y m d h mi s wd : Int} (hc : clkB y m d h mi s wd = true) : mayB y m d = true ∧ rngB h mi s = true ∧ wd = (numI y m d + 4) % 7 := by
  unfold clkB at hc
  simp only [Bool.and_eq_true, beq_iff_eq] at hc
  exact hc

set_option maxHeartbeats 1000000 in
theorem join_any (y m d h mi s wd : Int) (w : World) :
    Calls Tryd.prog 12 #[.agg #[.int .i64 y, .int .i64 m, .int .i64 d, .int .i64 h, .int .i64 mi, .int .i64 s, .int .i64 wd]] w fun e w' => e = .returned (.tuple #[.int .i64 (joinV y m d h mi s wd), .int .i64 (joinE y m d h mi s wd)]) ∧ Below w.heap.size w w' := by
  unfold joinV joinE
  have c := fun W => smay_any y m d h mi s wd W
  cases hk : clkB y m d h mi s wd
  · rw [hk] at c
    have C := Lib.hid c; clear c hk
    rw [if_neg (by simp), if_neg (by simp)]
    go_enter Tryd.func12, Tryd.ntmps12
    go_wp2_with (go_at_call 14; refine (C.out _).mono ?_; rintro e w' ⟨rfl, hb⟩)
    go_ret2
    exact ⟨rfl, ((Below.refl _ _).alloc (Nat.le_refl _) _).trans (hb.mono (by simp))⟩
  · rw [hk] at c
    obtain ⟨hm, hr, -⟩ := clkB_parts hk
    have C := Lib.hid c; clear c hk
    have C2 := Lib.hid fun W => moment_yes y m d h mi s wd W hm hr
    clear hm hr
    rw [if_pos rfl, if_pos rfl]
    generalize momI y m d h mi s = M at *
    go_enter Tryd.func12, Tryd.ntmps12
    go_wp2_with fail
    refine (C.out _).mono ?_
    rintro e w1 ⟨rfl, hb1⟩
    obtain ⟨kc1, kz1⟩ := cells_of_new hb1
    have q1 := ((Below.refl w.heap.size w).alloc (Nat.le_refl _) _).trans (hb1.mono (by simp))
    go_wp2_with fail
    refine (C2.out _).mono ?_
    rintro e w2 ⟨rfl, hb2⟩
    have q2 := q1.trans (hb2.mono q1.size)
    go_wp2_with fail
    go_ret2
    exact ⟨rfl, q2⟩

/-- What Add and Floor answer. -/
def addB (t n : Int) : Bool := okT t && (decide (0 ≤ t + n) && decide (t + n < 13569465600))
def addV (t n : Int) : Int := if addB t n = true then t + n else 0
def addE (t n : Int) : Int := if addB t n = true then 0 else 50
def floorV (t : Int) : Int := if okT t = true then t - t % 60 else 0

theorem add_any (t n : Int) (w : World) (hn : -9223372036854775808 ≤ n) (hn' : n ≤ 9223372036854775807) :
    Calls Tryd.prog 8 #[.int .i64 t, .int .i64 n] w fun e w' => e = .returned (.tuple #[.int .i64 (addV t n), .int .i64 (addE t n)]) ∧ w = w' := by
  unfold addV addE addB
  have c := fun W => is_any t W
  change ∀ W, Calls _ _ _ _ fun e w' => e = .returned (.bool (okT t)) ∧ _ at c
  cases hk : okT t
  · rw [hk] at c
    have C := Lib.hid c; clear c
    go_enter Tryd.func8, Tryd.ntmps8
    go_wp2_with (go_at_call 17; refine (C.out _).mono ?_; rintro e w' ⟨rfl, rfl⟩)
    all_goals
      go_ret2
      exact ⟨rfl, rfl⟩
  · rw [hk] at c
    obtain ⟨t0, t1⟩ := okT_iff.1 hk
    have C := Lib.hid c; clear c hk
    by_cases h1 : n < -t
    · have e1 : (decide (0 ≤ t + n) && decide (t + n < 13569465600)) = false := by simp; omega
      rw [e1]; clear e1
      go_enter Tryd.func8, Tryd.ntmps8
      go_wp2_with (go_at_call 17; refine (C.out _).mono ?_; rintro e w' ⟨rfl, rfl⟩)
      all_goals
        go_ret2
        exact ⟨rfl, rfl⟩
    · by_cases h2 : 13569465600 - t ≤ n
      · have e1 : (decide (0 ≤ t + n) && decide (t + n < 13569465600)) = false := by simp; omega
        rw [e1]; clear e1
        go_enter Tryd.func8, Tryd.ntmps8
        go_wp2_with (go_at_call 17; refine (C.out _).mono ?_; rintro e w' ⟨rfl, rfl⟩)
        all_goals
          go_ret2
          exact ⟨rfl, rfl⟩
      · have e1 : (decide (0 ≤ t + n) && decide (t + n < 13569465600)) = true := by simp; omega
        rw [e1]; clear e1
        go_enter Tryd.func8, Tryd.ntmps8
        go_wp2_with (go_at_call 17; refine (C.out _).mono ?_; rintro e w' ⟨rfl, rfl⟩)
        all_goals
          go_ret2
          exact ⟨rfl, rfl⟩

theorem floor_any (t : Int) (w : World) :
    Calls Tryd.prog 10 #[.int .i64 t] w fun e w' => e = .returned (.tuple #[.int .i64 (floorV t), .int .i64 (clockE t)]) ∧ w = w' := by
  unfold floorV clockE
  have c := fun W => is_any t W
  change ∀ W, Calls _ _ _ _ fun e w' => e = .returned (.bool (okT t)) ∧ _ at c
  cases hk : okT t
  · rw [hk] at c
    have C := Lib.hid c; clear c
    go_enter Tryd.func10, Tryd.ntmps10
    go_wp2_with (go_at_call 17; refine (C.out _).mono ?_; rintro e w' ⟨rfl, rfl⟩)
    go_ret2
    exact ⟨rfl, rfl⟩
  · rw [hk] at c
    obtain ⟨t0, t1⟩ := okT_iff.1 hk
    have C := Lib.hid c; clear c hk
    go_enter Tryd.func10, Tryd.ntmps10
    go_wp2_with (go_at_call 17; refine (C.out _).mono ?_; rintro e w' ⟨rfl, rfl⟩)
    go_ret2
    exact ⟨rfl, rfl⟩

theorem refAdd_any (t n : Int) (w : World) (hn : -9223372036854775808 ≤ n) (hn' : n ≤ 9223372036854775807) :
    Calls Tryd.prog 9 #[.int .i64 t, .int .i64 n] w fun e w' => e = .returned (.tuple #[.int .i64 (addV t n), .int .i64 (addE t n)]) ∧ w = w' := by
  unfold addV addE addB
  cases hk : okT t
  · have hh : t < 0 ∨ 13569465600 ≤ t := by
      have : ¬ (0 ≤ t ∧ t < 13569465600) := fun x => by rw [okT_iff.2 x] at hk; cases hk
      omega
    rcases hh with h | h
    · go_enter Tryd.func9, Tryd.ntmps9
      go_wp2_with fail
      all_goals
        go_ret2
        exact ⟨rfl, rfl⟩
    · have h' : ¬ t < 0 := by omega
      go_enter Tryd.func9, Tryd.ntmps9
      go_wp2_with fail
      all_goals
        go_ret2
        exact ⟨rfl, rfl⟩
  · obtain ⟨t0, t1⟩ := okT_iff.1 hk
    clear hk
    by_cases h1 : t + n < 0 ∨ 13569465600 ≤ t + n
    · have e1 : (decide (0 ≤ t + n) && decide (t + n < 13569465600)) = false := by simp; omega
      rw [e1]; clear e1
      by_cases h2 : n < -13569465600
      · go_enter Tryd.func9, Tryd.ntmps9
        go_wp2_with fail
        all_goals
          go_ret2
          exact ⟨rfl, rfl⟩
      · by_cases h3 : 13569465600 < n
        · go_enter Tryd.func9, Tryd.ntmps9
          go_wp2_with fail
          all_goals
            go_ret2
            exact ⟨rfl, rfl⟩
        · rcases h1 with h1 | h1
          · go_enter Tryd.func9, Tryd.ntmps9
            go_wp2_with fail
            all_goals
              go_ret2
              exact ⟨rfl, rfl⟩
          · have h4 : ¬ t + n < 0 := by omega
            go_enter Tryd.func9, Tryd.ntmps9
            go_wp2_with fail
            all_goals
              go_ret2
              exact ⟨rfl, rfl⟩
    · have e1 : (decide (0 ≤ t + n) && decide (t + n < 13569465600)) = true := by simp; omega
      rw [e1]; clear e1
      have h2 : 0 ≤ t + n := by omega
      have h3 : t + n < 13569465600 := by omega
      have h4 : -13569465600 ≤ n := by omega
      have h5 : n ≤ 13569465600 := by omega
      clear h1
      go_enter Tryd.func9, Tryd.ntmps9
      go_wp2_with fail
      all_goals
        go_ret2
        exact ⟨rfl, rfl⟩
end Go.Proofs.YtldfppjeelfahaaDoor
