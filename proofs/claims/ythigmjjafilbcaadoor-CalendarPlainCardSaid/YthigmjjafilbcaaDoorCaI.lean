/- Contract of cron.Fits (layer 7). -/
import Derived.Test.YthigmjjafilbcaaDoorCaH
namespace Go.Proofs.YthigmjjafilbcaaDoor
set_option linter.unusedVariables false
set_option maxRecDepth 100000
open Go.RowKit
theorem fits_any (x : Xp) (hx : x.Ok) (y m d h mi s wd : Int) (w : World) :
    Calls Tryd.prog 42 #[xpV x, .agg #[.int .i64 y, .int .i64 m, .int .i64 d, .int .i64 h, .int .i64 mi, .int .i64 s, .int .i64 wd]] w fun e w' => e = .returned (.bool (fitsC x y m d h mi s wd)) ∧ Below w.heap.size w w' := by
  have C0 := Lib.hid (dayFits_any x hx y m d h mi s wd)
  have C1 := Lib.hid (fhas_any x.b0 x.s0 mi · hx.h0)
  have C2 := Lib.hid (fhas_any x.b1 x.s1 h · hx.h1)
  have T0 := Lib.hid (two_new w x y m d h mi s wd)
  unfold fitsC
  generalize dayFitsC x y m d h mi s wd = r0 at *
  generalize hasF x.b0 mi = r1 at *
  generalize hasF x.b1 h = r2 at *
  obtain ⟨b0, b1, b2, b3, b4, s0, s1, s2, s3, s4⟩ := x
  dsimp only [xpV] at *
  clear hx
  have kc := fun o => T0.out.1.cell o
  have kc2 := fun o => T0.out.2.1.cell o
  dsimp only [xpC] at kc kc2
  cases r0
  · go_enter Tryd.func42, Tryd.ntmps42
    go_wp2_with fail
    refine (C0.out _).mono ?_
    rintro e w1 ⟨rfl, hb1⟩
    go_wp2_with fail
    go_ret
    exact ⟨rfl, (T0.out.over hb1).2.2⟩
  cases r1
  · go_enter Tryd.func42, Tryd.ntmps42
    go_wp2_with fail
    refine (C0.out _).mono ?_
    rintro e w1 ⟨rfl, hb1⟩
    have T1 := Lib.hid (T0.out.over hb1)
    have kd := fun o => T1.out.1.cell o
    have kd2 := fun o => T1.out.2.1.cell o
    dsimp only [xpC] at kd
    go_wp2_with fail
    refine (C1.out _).mono ?_
    rintro e w2 ⟨rfl, hb2⟩
    go_wp2_with fail
    go_ret
    exact ⟨rfl, (T1.out.over hb2).2.2⟩
  go_enter Tryd.func42, Tryd.ntmps42
  go_wp2_with fail
  refine (C0.out _).mono ?_
  rintro e w1 ⟨rfl, hb1⟩
  have T1 := Lib.hid (T0.out.over hb1)
  have kd := fun o => T1.out.1.cell o
  have kd2 := fun o => T1.out.2.1.cell o
  dsimp only [xpC] at kd
  go_wp2_with fail
  refine (C1.out _).mono ?_
  rintro e w2 ⟨rfl, hb2⟩
  have T2 := Lib.hid (T1.out.over hb2)
  clear kd kd2 kc kc2
  have kd := fun o => T2.out.1.cell o
  have kd2 := fun o => T2.out.2.1.cell o
  dsimp only [xpC] at kd
  go_wp2_with fail
  refine (C2.out _).mono ?_
  rintro e w3 ⟨rfl, hb3⟩
  go_wp2_with fail
  go_ret
  exact ⟨rfl, (T2.out.over hb3).2.2⟩
end Go.Proofs.YthigmjjafilbcaaDoor
