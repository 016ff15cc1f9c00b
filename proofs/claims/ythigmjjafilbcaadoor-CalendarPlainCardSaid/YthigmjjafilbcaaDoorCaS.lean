/- Contracts of ringerref07.DayFits and Fits. -/
import Derived.Test.YthigmjjafilbcaaDoorCaR
namespace Go.Proofs.YthigmjjafilbcaaDoor
set_option linter.unusedVariables false
set_option maxRecDepth 100000
open Go.RowKit
theorem refDayFits_any (x : Xp) (hx : x.Ok) (y m d h mi s wd : Int) (w : World) :
    Calls Tryd.prog 30 #[xpV x, .agg #[.int .i64 y, .int .i64 m, .int .i64 d, .int .i64 h, .int .i64 mi, .int .i64 s, .int .i64 wd]] w fun e w' => e = .returned (.bool (dayFitsC x y m d h mi s wd)) ∧ Below w.heap.size w w' := by
  have C0 := Lib.hid (refMayX_any x hx)
  have c1 := refJoin_any y m d h mi s wd
  have C3 := Lib.hid (refHas_any x.b3 x.s3 m · hx.h3)
  have C2 := Lib.hid (refHas_any x.b2 x.s2 d · hx.h2)
  have C4 := Lib.hid (refHas_any x.b4 x.s4 wd · hx.h4)
  have T0 := Lib.hid (two_new w x y m d h mi s wd)
  unfold dayFitsC dmw
  unfold joinE at c1
  generalize joinV y m d h mi s wd = jv at *
  generalize clkB y m d h mi s wd = cb at *
  generalize mayX x = mx at *
  generalize hasF x.b3 m = r3 at *
  generalize hasF x.b2 d = r2 at *
  generalize hasF x.b4 wd = r4 at *
  obtain ⟨b0, b1, b2, b3, b4, s0, s1, s2, s3, s4⟩ := x
  dsimp only [xpV] at *
  clear hx
  have kc := fun o => T0.out.1.cell o
  have kc2 := fun o => T0.out.2.1.cell o
  dsimp only [xpC] at kc kc2
  cases cb
  · simp only [Bool.false_eq_true, if_false] at c1
    have C1 := Lib.hid c1
    clear c1
    generalize hR : (mx && (false && (r3 && if (s2 || s4) = true then r2 && r4 else r2 || r4))) = R
    have hR2 : R = false := by rw [← hR]; cases mx <;> rfl
    subst hR2
    clear hR
    go_enter Tryd.func30, Tryd.ntmps30
    go_wp2_with fail
    refine (C1.out _).mono ?_
    rintro e w1 ⟨rfl, hb1⟩
    go_wp2_with fail
    go_ret
    exact ⟨rfl, (T0.out.over hb1).2.2⟩
  simp only [if_true] at c1
  have C1 := Lib.hid c1
  clear c1
  cases mx
  · generalize hR : (false && (true && (r3 && if (s2 || s4) = true then r2 && r4 else r2 || r4))) = R
    have hR2 : R = false := by rw [← hR]; rfl
    subst hR2
    clear hR
    go_enter Tryd.func30, Tryd.ntmps30
    go_wp2_with fail
    refine (C1.out _).mono ?_
    rintro e w1 ⟨rfl, hb1⟩
    have T1 := Lib.hid (T0.out.over hb1)
    have kd := fun o => T1.out.1.cell o
    dsimp only [xpC] at kd
    go_wp2_with fail
    refine (C0.out _).mono ?_
    rintro e w2 ⟨rfl, hb2⟩
    go_wp2_with fail
    go_ret
    exact ⟨rfl, (T1.out.over hb2).2.2⟩
  cases r3
  · generalize hR : (true && (true && (false && if (s2 || s4) = true then r2 && r4 else r2 || r4))) = R
    have hR2 : R = false := by rw [← hR]; rfl
    subst hR2
    clear hR
    go_enter Tryd.func30, Tryd.ntmps30
    go_wp2_with fail
    refine (C1.out _).mono ?_
    rintro e w1 ⟨rfl, hb1⟩
    have T1 := Lib.hid (T0.out.over hb1)
    have kd := fun o => T1.out.1.cell o
    dsimp only [xpC] at kd
    go_wp2_with fail
    refine (C0.out _).mono ?_
    rintro e w2 ⟨rfl, hb2⟩
    have T2 := Lib.hid (T1.out.over hb2)
    clear kd
    have kd := fun o => T2.out.1.cell o
    have kd2 := fun o => T2.out.2.1.cell o
    dsimp only [xpC] at kd
    go_wp2_with fail
    refine (C3.out _).mono ?_
    rintro e w3 ⟨rfl, hb3⟩
    go_wp2_with fail
    go_ret
    exact ⟨rfl, (T2.out.over hb3).2.2⟩
  have HR := Lib.hid (show (true && (true && (true && if (s2 || s4) = true then r2 && r4 else r2 || r4))) = (if (s2 || s4) = true then r2 && r4 else r2 || r4) by rfl)
  generalize hRR : (true && (true && (true && if (s2 || s4) = true then r2 && r4 else r2 || r4))) = R at *
  have HS := Lib.hid hRR
  clear hRR
  go_enter Tryd.func30, Tryd.ntmps30
  go_wp2_with fail
  refine (C1.out _).mono ?_
  rintro e w1 ⟨rfl, hb1⟩
  have T1 := Lib.hid (T0.out.over hb1)
  have kd := fun o => T1.out.1.cell o
  dsimp only [xpC] at kd
  clear kc kc2
  go_wp2_with fail
  refine (C0.out _).mono ?_
  rintro e w2 ⟨rfl, hb2⟩
  have T2 := Lib.hid (T1.out.over hb2)
  clear kd T0 hb1 T1 hb2
  have kd := fun o => T2.out.1.cell o
  have kd2 := fun o => T2.out.2.1.cell o
  dsimp only [xpC] at kd
  go_wp2_with fail
  refine (C3.out _).mono ?_
  rintro e w3 ⟨rfl, hb3⟩
  have T3 := Lib.hid (T2.out.over hb3)
  clear kd kd2 T2 hb3
  have kd := fun o => T3.out.1.cell o
  have kd2 := fun o => T3.out.2.1.cell o
  dsimp only [xpC] at kd
  go_wp2_with fail
  refine (C2.out _).mono ?_
  rintro e w4 ⟨rfl, hb4⟩
  have T4 := Lib.hid (T3.out.over hb4)
  clear kd kd2 T3 hb4
  have kd := fun o => T4.out.1.cell o
  have kd2 := fun o => T4.out.2.1.cell o
  dsimp only [xpC] at kd
  go_wp2_with fail
  refine (C4.out _).mono ?_
  rintro e w5 ⟨rfl, hb5⟩
  have T5 := Lib.hid (T4.out.over hb5)
  clear kd kd2 T4 hb5
  have kd := fun o => T5.out.1.cell o
  have kd2 := fun o => T5.out.2.1.cell o
  dsimp only [xpC] at kd
  cases s2 <;> cases s4 <;> cases r2 <;> cases r4
  all_goals
    go_wp2_with fail
    go_ret
    exact ⟨ret_bool (by rw [← HS.out]; rfl), T5.out.2.2⟩
theorem refFits_any (x : Xp) (hx : x.Ok) (y m d h mi s wd : Int) (w : World) :
    Calls Tryd.prog 12 #[xpV x, .agg #[.int .i64 y, .int .i64 m, .int .i64 d, .int .i64 h, .int .i64 mi, .int .i64 s, .int .i64 wd]] w fun e w' => e = .returned (.bool (fitsC x y m d h mi s wd)) ∧ Below w.heap.size w w' := by
  have C0 := Lib.hid (refDayFits_any x hx y m d h mi s wd)
  have C1 := Lib.hid (refHas_any x.b0 x.s0 mi · hx.h0)
  have C2 := Lib.hid (refHas_any x.b1 x.s1 h · hx.h1)
  have T0 := Lib.hid (two_new w x y m d h mi s wd)
  unfold fitsC
  generalize dayFitsC x y m d h mi s wd = r0 at *
  generalize hasF x.b0 mi = r1 at *
  generalize hasF x.b1 h = r2 at *
  obtain ⟨b0, b1, b2, b3, b4, s0, s1, s2, s3, s4⟩ := x
  dsimp only [xpV] at *
  clear hx
  have kc := fun o => T0.out.1.cell o
  have kc2 := fun o => T0.out.2.1.cell o
  dsimp only [xpC] at kc kc2
  cases r0
  · go_enter Tryd.func12, Tryd.ntmps12
    go_wp2_with fail
    refine (C0.out _).mono ?_
    rintro e w1 ⟨rfl, hb1⟩
    go_wp2_with fail
    go_ret
    exact ⟨rfl, (T0.out.over hb1).2.2⟩
  cases r1
  · go_enter Tryd.func12, Tryd.ntmps12
    go_wp2_with fail
    refine (C0.out _).mono ?_
    rintro e w1 ⟨rfl, hb1⟩
    have T1 := Lib.hid (T0.out.over hb1)
    have kd := fun o => T1.out.1.cell o
    have kd2 := fun o => T1.out.2.1.cell o
    dsimp only [xpC] at kd
    go_wp2_with fail
    refine (C1.out _).mono ?_
    rintro e w2 ⟨rfl, hb2⟩
    go_wp2_with fail
    go_ret
    exact ⟨rfl, (T1.out.over hb2).2.2⟩
  go_enter Tryd.func12, Tryd.ntmps12
  go_wp2_with fail
  refine (C0.out _).mono ?_
  rintro e w1 ⟨rfl, hb1⟩
  have T1 := Lib.hid (T0.out.over hb1)
  have kd := fun o => T1.out.1.cell o
  have kd2 := fun o => T1.out.2.1.cell o
  dsimp only [xpC] at kd
  go_wp2_with fail
  refine (C1.out _).mono ?_
  rintro e w2 ⟨rfl, hb2⟩
  have T2 := Lib.hid (T1.out.over hb2)
  clear kd kd2 kc kc2
  have kd := fun o => T2.out.1.cell o
  have kd2 := fun o => T2.out.2.1.cell o
  dsimp only [xpC] at kd
  go_wp2_with fail
  refine (C2.out _).mono ?_
  rintro e w3 ⟨rfl, hb3⟩
  go_wp2_with fail
  go_ret
  exact ⟨rfl, (T2.out.over hb3).2.2⟩
end Go.Proofs.YthigmjjafilbcaaDoor
