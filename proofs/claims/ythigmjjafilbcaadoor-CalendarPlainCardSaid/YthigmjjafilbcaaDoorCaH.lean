/- Contracts of cron.DayFits and cron.Fits (layer 7). -/
import Derived.Test.YthigmjjafilbcaaDoorCaG
namespace Go.Proofs.YthigmjjafilbcaaDoor
set_option linter.unusedVariables false
set_option maxRecDepth 100000
open Go.RowKit
/-- An expression's cells. -/
def xpC (x : Xp) : Array Value := #[.int .u64 x.b0, .bool x.s0, .int .u64 x.b1, .bool x.s1, .int .u64 x.b2, .bool x.s2, .int .u64 x.b3, .bool x.s3, .int .u64 x.b4, .bool x.s4]
theorem allows2 (x : Xp) (hx : x.Ok) (g : Nat) (n : Int) (w : World) (h : Row w g 29 (xpC x)) :
    Calls Tryd.prog 68 #[.int .i64 2, .int .i64 n, .pointer (some ⟨g, 0, none⟩)] w fun e w' => e = .returned (.bool (hasF x.b2 n)) ∧ Below w.heap.size w w' := by
  have C := Lib.hid (fhas_any x.b2 x.s2 n · hx.h2)
  have kc := fun o => h.cell o
  unfold xpC at kc
  go_enter Tryd.func68, Tryd.ntmps68
  go_wp2_with fail
  refine (C.out _).mono ?_
  rintro e w1 ⟨rfl, hb1⟩
  go_wp2_with fail
  go_ret
  exact ⟨rfl, hb1⟩
theorem allows3 (x : Xp) (hx : x.Ok) (g : Nat) (n : Int) (w : World) (h : Row w g 29 (xpC x)) :
    Calls Tryd.prog 68 #[.int .i64 3, .int .i64 n, .pointer (some ⟨g, 0, none⟩)] w fun e w' => e = .returned (.bool (hasF x.b3 n)) ∧ Below w.heap.size w w' := by
  have C := Lib.hid (fhas_any x.b3 x.s3 n · hx.h3)
  have kc := fun o => h.cell o
  unfold xpC at kc
  go_enter Tryd.func68, Tryd.ntmps68
  go_wp2_with fail
  refine (C.out _).mono ?_
  rintro e w1 ⟨rfl, hb1⟩
  go_wp2_with fail
  go_ret
  exact ⟨rfl, hb1⟩
theorem allows4 (x : Xp) (hx : x.Ok) (g : Nat) (n : Int) (w : World) (h : Row w g 29 (xpC x)) :
    Calls Tryd.prog 68 #[.int .i64 4, .int .i64 n, .pointer (some ⟨g, 0, none⟩)] w fun e w' => e = .returned (.bool (hasF x.b4 n)) ∧ Below w.heap.size w w' := by
  have C := Lib.hid (fhas_any x.b4 x.s4 n · hx.h4)
  have kc := fun o => h.cell o
  unfold xpC at kc
  go_enter Tryd.func68, Tryd.ntmps68
  go_wp2_with fail
  refine (C.out _).mono ?_
  rintro e w1 ⟨rfl, hb1⟩
  go_wp2_with fail
  go_ret
  exact ⟨rfl, hb1⟩
/-- The two boxes of a call on an expression and a clock. -/
def Two (w : World) (x : Xp) (y m d h mi s wd : Int) (g : Nat) (v : World) : Prop :=
  Row v g 29 (xpC x) ∧ Row v (g + 1) 42 #[.int .i64 y, .int .i64 m, .int .i64 d, .int .i64 h, .int .i64 mi, .int .i64 s, .int .i64 wd] ∧ Below w.heap.size w v
theorem Two.over {w : World} {x : Xp} {y m d h mi s wd : Int} {g : Nat} {v v' : World} (t : Two w x y m d h mi s wd g v) (hb : Below v.heap.size v v') : Two w x y m d h mi s wd g v' :=
  ⟨t.1.over hb, t.2.1.over hb, nextC t.2.2 hb⟩
theorem Two.drew {w : World} {x : Xp} {y m d h mi s wd : Int} {g : Nat} {v : World} (t : Two w x y m d h mi s wd g v) : Two w x y m d h mi s wd g v.drew :=
  ⟨t.1.drew, t.2.1.drew, below_drewN t.2.2 1⟩
theorem two_new (w : World) (x : Xp) (y m d h mi s wd : Int) : Two w x y m d h mi s wd w.heap.size ((w.alloc (.cells (xpC x) 29)).alloc (.cells #[.int .i64 y, .int .i64 m, .int .i64 d, .int .i64 h, .int .i64 mi, .int .i64 s, .int .i64 wd] 42)) := by
  refine ⟨(Row.new w _ _).alloc _, ?_, nextB (nextB (Below.refl _ _))⟩
  have := Row.new (w.alloc (.cells (xpC x) 29)) 42 #[.int .i64 y, .int .i64 m, .int .i64 d, .int .i64 h, .int .i64 mi, .int .i64 s, .int .i64 wd]
  rwa [show (w.alloc (.cells (xpC x) 29)).heap.size = w.heap.size + 1 by simp] at this
theorem dayFits_nox (x : Xp) (hx : x.Ok) (y m d h mi s wd : Int) (w : World) (hm : mayX x = false) :
    Calls Tryd.prog 38 #[xpV x, .agg #[.int .i64 y, .int .i64 m, .int .i64 d, .int .i64 h, .int .i64 mi, .int .i64 s, .int .i64 wd]] w fun e w' => e = .returned (.bool false) ∧ Below w.heap.size w w' := by
  obtain ⟨b0, b1, b2, b3, b4, s0, s1, s2, s3, s4⟩ := x
  have c0 := mayX_any _ hx
  have c1 := smay_any y m d h mi s wd
  rw [hm] at c0
  have C0 := Lib.hid c0
  clear c0 c1 hm hx
  have T0 := Lib.hid (two_new w ⟨b0, b1, b2, b3, b4, s0, s1, s2, s3, s4⟩ y m d h mi s wd)
  dsimp only [xpV] at *
  go_enter Tryd.func38, Tryd.ntmps38
  go_wp2_with fail
  refine (C0.out _).mono ?_
  rintro e w1 ⟨rfl, hb1⟩
  go_wp2_with fail
  go_ret
  exact ⟨rfl, (T0.out.over hb1).2.2⟩
theorem dayFits_noc (x : Xp) (hx : x.Ok) (y m d h mi s wd : Int) (w : World) (hm : mayX x = true) (hc : clkB y m d h mi s wd = false) :
    Calls Tryd.prog 38 #[xpV x, .agg #[.int .i64 y, .int .i64 m, .int .i64 d, .int .i64 h, .int .i64 mi, .int .i64 s, .int .i64 wd]] w fun e w' => e = .returned (.bool false) ∧ Below w.heap.size w w' := by
  obtain ⟨b0, b1, b2, b3, b4, s0, s1, s2, s3, s4⟩ := x
  have c0 := mayX_any _ hx
  have c1 := smay_any y m d h mi s wd
  rw [hm] at c0
  rw [hc] at c1
  have C0 := Lib.hid c0
  have C1 := Lib.hid c1
  clear c0 c1 hm hc hx
  have T0 := Lib.hid (two_new w ⟨b0, b1, b2, b3, b4, s0, s1, s2, s3, s4⟩ y m d h mi s wd)
  dsimp only [xpV] at *
  go_enter Tryd.func38, Tryd.ntmps38
  go_wp2_with fail
  refine (C0.out _).mono ?_
  rintro e w1 ⟨rfl, hb1⟩
  have T1 := Lib.hid (T0.out.over hb1)
  have kc2 := fun o => T1.out.2.1.cell o
  go_wp2_with fail
  refine (C1.out _).mono ?_
  rintro e w2 ⟨rfl, hb2⟩
  go_wp2_with fail
  go_ret
  exact ⟨rfl, (T1.out.over hb2).2.2⟩
set_option maxHeartbeats 1000000 in
theorem dayFits_in (x : Xp) (hx : x.Ok) (y m d h mi s wd : Int) (w : World) (hm : mayX x = true) (hc : clkB y m d h mi s wd = true) :
    Calls Tryd.prog 38 #[xpV x, .agg #[.int .i64 y, .int .i64 m, .int .i64 d, .int .i64 h, .int .i64 mi, .int .i64 s, .int .i64 wd]] w fun e w' => e = .returned (.bool (dmw x m d wd)) ∧ Below w.heap.size w w' := by
  obtain ⟨b0, b1, b2, b3, b4, s0, s1, s2, s3, s4⟩ := x
  have c0 := mayX_any _ hx
  have c1 := smay_any y m d h mi s wd
  rw [hm] at c0
  rw [hc] at c1
  have C0 := Lib.hid c0
  have C1 := Lib.hid c1
  have C2 := Lib.hid (fun n W h => allows2 _ hx w.heap.size n W h)
  have C3 := Lib.hid (fun n W h => allows3 _ hx w.heap.size n W h)
  have C4 := Lib.hid (fun n W h => allows4 _ hx w.heap.size n W h)
  clear c0 c1 hm hc hx
  have T0 := Lib.hid (two_new w ⟨b0, b1, b2, b3, b4, s0, s1, s2, s3, s4⟩ y m d h mi s wd)
  have XC : xpC ⟨b0, b1, b2, b3, b4, s0, s1, s2, s3, s4⟩ = #[.int .u64 b0, .bool s0, .int .u64 b1, .bool s1, .int .u64 b2, .bool s2, .int .u64 b3, .bool s3, .int .u64 b4, .bool s4] := rfl
  have DM : dmw ⟨b0, b1, b2, b3, b4, s0, s1, s2, s3, s4⟩ m d wd = (hasF b3 m && (if (s2 || s4) = true then hasF b2 d && hasF b4 wd else hasF b2 d || hasF b4 wd)) := rfl
  have XD := Lib.hid DM
  clear DM
  dsimp only [xpV] at *
  go_enter Tryd.func38, Tryd.ntmps38
  go_wp2_with fail
  refine (C0.out _).mono ?_
  rintro e w1 ⟨rfl, hb1⟩
  have T1 := Lib.hid (T0.out.over hb1)
  have kc2 := fun o => T1.out.2.1.cell o
  go_wp2_with fail
  refine (C1.out _).mono ?_
  rintro e w2 ⟨rfl, hb2⟩
  have T2 := Lib.hid (T1.out.over hb2).drew
  clear kc2 T1 hb1 hb2 T0
  obtain ⟨T, F, hT, hF, hG⟩ := class_of (Two w ⟨b0, b1, b2, b3, b4, s0, s1, s2, s3, s4⟩ y m d h mi s wd w.heap.size) w2.drew T2.out
  have q1 := fun n o => (hF n).2.1.cell o
  have q0 := fun n o => (hF n).1.cell o
  rw [XC] at q0
  have Q0 := Lib.hid (hG _ T2.out)
  have D2 := Lib.hid (fun k n => show Calls Tryd.prog 68 #[.int .i64 2, .int .i64 k, .pointer (some ⟨w.heap.size, 0, none⟩)] (F n) fun e w' => e = .returned (.bool (hasF b2 k)) ∧ ∃ m, w' = F m from (C2.out k (F n) (hF n).1).mono fun e w' ⟨he, hw⟩ => ⟨he, hG _ ((hF n).over hw)⟩)
  have D4 := Lib.hid (fun k n => show Calls Tryd.prog 68 #[.int .i64 4, .int .i64 k, .pointer (some ⟨w.heap.size, 0, none⟩)] (F n) fun e w' => e = .returned (.bool (hasF b4 k)) ∧ ∃ m, w' = F m from (C4.out k (F n) (hF n).1).mono fun e w' ⟨he, hw⟩ => ⟨he, hG _ ((hF n).over hw)⟩)
  have QB := Lib.hid hF
  clear hF hG
  go_wp2_with fail
  refine wp_region_class F (by kernel_rfl) (by kernel_rfl) Q0.out ?_
  repeat (go_big_quiet_step (first | (go_at_call 68; with_reducible exact D2.out _ _) | (go_at_call 68; with_reducible exact D4.out _ _)))
  refine wpQuiet_nil ?_
  rintro _ ⟨nq, rfl⟩
  have q0 := q0 nq
  have q1 := q1 nq
  have T3 := Lib.hid (QB.out nq)
  clear QB Q0 D2 D4
  generalize F nq = w3 at *
  have C3 := Lib.hid (fun W h => C3.out m W h)
  cases s2
  · cases s4
    · generalize hasF b3 m = r3 at *
      generalize hasF b2 d = r2 at *
      generalize hasF b4 wd = r4 at *
      cases r3 <;> cases r2 <;> cases r4
      all_goals
        go_wp2_with fail
        refine (C3.out _ T3.out.1).mono ?_
        rintro e w4 ⟨rfl, hb4⟩
        go_wp2_with fail
        go_ret
        exact ⟨ret_bool (by rw [XD.out]; rfl), (T3.out.over hb4).2.2⟩
    · generalize hasF b3 m = r3 at *
      generalize hasF b2 d = r2 at *
      generalize hasF b4 wd = r4 at *
      cases r3 <;> cases r2 <;> cases r4
      all_goals
        go_wp2_with fail
        refine (C3.out _ T3.out.1).mono ?_
        rintro e w4 ⟨rfl, hb4⟩
        go_wp2_with fail
        go_ret
        exact ⟨ret_bool (by rw [XD.out]; rfl), (T3.out.over hb4).2.2⟩
  · generalize hasF b3 m = r3 at *
    generalize hasF b2 d = r2 at *
    generalize hasF b4 wd = r4 at *
    cases r3 <;> cases r2 <;> cases r4
    all_goals
      go_wp2_with fail
      refine (C3.out _ T3.out.1).mono ?_
      rintro e w4 ⟨rfl, hb4⟩
      go_wp2_with fail
      go_ret
      exact ⟨ret_bool (by rw [XD.out]; rfl), (T3.out.over hb4).2.2⟩
theorem dayFits_any (x : Xp) (hx : x.Ok) (y m d h mi s wd : Int) (w : World) :
    Calls Tryd.prog 38 #[xpV x, .agg #[.int .i64 y, .int .i64 m, .int .i64 d, .int .i64 h, .int .i64 mi, .int .i64 s, .int .i64 wd]] w fun e w' => e = .returned (.bool (dayFitsC x y m d h mi s wd)) ∧ Below w.heap.size w w' := by
  unfold dayFitsC
  cases hm : mayX x
  · exact dayFits_nox x hx y m d h mi s wd w hm
  · cases hc : clkB y m d h mi s wd
    · exact dayFits_noc x hx y m d h mi s wd w hm hc
    · exact dayFits_in x hx y m d h mi s wd w hm hc
end Go.Proofs.YthigmjjafilbcaaDoor
