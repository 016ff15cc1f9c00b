/- The chapter's rows, walked: known. -/
import Derived.Test.YthigmjjafilbcaaDoorCbP
import Derived.Test.YthigmjjafilbcaaDoorMe
namespace Go.Proofs.YthigmjjafilbcaaDoor
set_option linter.unusedVariables false
set_option maxRecDepth 100000
open Go.RowKit
theorem inExpr : ∀ (args : Array Value) (w : World), (callFunc 21 args).run Tryd.prog w = .ok (.enter 21 args) w := enter_of Tryd.func21 (by kernel_rfl) (by kernel_rfl)
theorem inAfter : ∀ (args : Array Value) (w : World), (callFunc 14 args).run Tryd.prog w = .ok (.enter 14 args) w := enter_of Tryd.func14 (by kernel_rfl) (by kernel_rfl)
def cV (k : Nat) : Value := .agg #[.int .u8 k, .slice none 0 0, .slice none 0 0]
theorem calNone (k : Nat) (hk : k < 256) (w : World) : CalAt w (cV k) k [] [] := ⟨⟨none, 0, none, 0, rfl, fun j hj => absurd hj (by simp), fun j hj => absurd hj (by simp)⟩, hk, by simp, by simp⟩
theorem n2 (w : World) : Calls Tryd.prog 17 #[cV 65, .int .i64 2] w fun e w' => e = .returned (.tuple #[.int .i64 4, .int .i64 0]) ∧ Below w.heap.size w w' :=
  (next_ok (cV 65) 65 [] [] 2 w (calNone 65 (by decide) w) may65 (by decide)).mono fun e w' ⟨⟨r, er, he, hF⟩, hb⟩ => by obtain ⟨rfl, rfl⟩ := first_2 hF; exact ⟨he, hb⟩
theorem l3 (w : World) : Calls Tryd.prog 18 #[cV 65, .int .i64 3] w fun e w' => e = .returned (.tuple #[.int .i64 1, .int .i64 0]) ∧ Below w.heap.size w w' :=
  (last_ok (cV 65) 65 [] [] 3 w (calNone 65 (by decide) w) may65 (by decide)).mono fun e w' ⟨⟨r, er, he, hF⟩, hb⟩ => by obtain ⟨rfl, rfl⟩ := first_3 hF; exact ⟨he, hb⟩
theorem a2 (w : World) : Calls Tryd.prog 19 #[cV 65, .int .i64 0, .int .i64 2] w fun e w' => e = .returned (.tuple #[.int .i64 4, .int .i64 0]) ∧ Below w.heap.size w w' :=
  (add_ok (cV 65) 65 [] [] 0 2 w (calNone 65 (by decide) w) may65 (by decide) (by decide) (by decide)).mono fun e w' ⟨⟨r, er, he, hF⟩, hb⟩ => by obtain ⟨rfl, rfl⟩ := add_2 hF; exact ⟨he, hb⟩
theorem c7 (w : World) : Calls Tryd.prog 20 #[cV 65, .int .i64 0, .int .i64 7] w fun e w' => e = .returned (.tuple #[.int .i64 5, .int .i64 0]) ∧ Below w.heap.size w w' := by
  have := count_ok (cV 65) 65 [] [] 0 7 w (calNone 65 (by decide) w) may65 (by decide) (by decide) (by decide)
  rw [show ((7 : Int) - 0).toNat = 7 by decide, cnt7] at this
  exact this
theorem afStar (mode : Int) (hmode : 1 ≤ mode ∧ mode ≤ 3) (w : World) : Calls Tryd.prog 14 #[cV 65, .int .u8 mode, xpV xStar, .int .i64 129600] w fun e w' => e = .returned (.tuple #[.int .i64 388800, .int .i64 0]) ∧ Below w.heap.size w w' :=
  (after_ok (cV 65) 65 [] [] mode xStar xStar_ok 129600 w (calNone 65 (by decide) w) may65 hmode xStar_may (by decide) (by decide)).mono fun e w' ⟨⟨r, er, he, hF⟩, hb⟩ => by obtain ⟨rfl, rfl⟩ := star_after (by omega) hF; exact ⟨he, hb⟩
theorem afSix1 (w : World) : Calls Tryd.prog 14 #[cV 65, .int .u8 1, xpV xSix, .int .i64 0] w fun e w' => (∃ r, e = .returned (.tuple #[.int .i64 r, .int .i64 5])) ∧ Below w.heap.size w w' :=
  (after_ok (cV 65) 65 [] [] 1 xSix xSix_ok 0 w (calNone 65 (by decide) w) may65 (by decide) xSix_may (by decide) (by decide)).mono fun e w' ⟨⟨r, er, he, hF⟩, hb⟩ => by obtain rfl := six_after_1 hF; exact ⟨⟨r, he⟩, hb⟩
theorem afSix2 (w : World) : Calls Tryd.prog 14 #[cV 65, .int .u8 2, xpV xSix, .int .i64 0] w fun e w' => e = .returned (.tuple #[.int .i64 388800, .int .i64 0]) ∧ Below w.heap.size w w' :=
  (after_ok (cV 65) 65 [] [] 2 xSix xSix_ok 0 w (calNone 65 (by decide) w) may65 (by decide) xSix_may (by decide) (by decide)).mono fun e w' ⟨⟨r, er, he, hF⟩, hb⟩ => by obtain ⟨rfl, rfl⟩ := six_after_2 hF; exact ⟨he, hb⟩
theorem afSix3 (w : World) : Calls Tryd.prog 14 #[cV 65, .int .u8 3, xpV xSix, .int .i64 0] w fun e w' => e = .returned (.tuple #[.int .i64 129600, .int .i64 0]) ∧ Below w.heap.size w w' :=
  (after_ok (cV 65) 65 [] [] 3 xSix xSix_ok 0 w (calNone 65 (by decide) w) may65 (by decide) xSix_may (by decide) (by decide)).mono fun e w' ⟨⟨r, er, he, hF⟩, hb⟩ => by obtain ⟨rfl, rfl⟩ := six_after_3 hF; exact ⟨he, hb⟩
theorem may65n (k : Nat) (hk : k < 256) (w : World) : Calls Tryd.prog 22 #[cV k] w fun e w' => e = .returned (.bool (mayC k [] [])) ∧ Below w.heap.size w w' := mayCal_any (cV k) k [] [] w (calNone k hk w)
set_option maxHeartbeats 1000000 in
theorem known_any (w : World) : Calls Tryd.prog 5 #[] w fun e w' => e = .returned (.bool true) ∧ Below w.heap.size w w' := by
  have N2 := Lib.hid n2
  have L3 := Lib.hid l3
  have A2 := Lib.hid a2
  have C7 := Lib.hid c7
  have AS := Lib.hid afStar
  have A1 := Lib.hid afSix1
  have AT := Lib.hid afSix2
  have A3 := Lib.hid afSix3
  have CM := Lib.hid (may65n 127 (by decide))
  rw [may127] at CM
  have XS := Lib.hid exprStar
  have XX := Lib.hid exprSix
  unfold cV at *
  obtain ⟨WB, hWB⟩ : ∃ WB, w.alloc (.cells #[.int .u8 65, .slice none 0 0, .slice none 0 0] 24) = WB := ⟨_, rfl⟩
  have K := Lib.hid (show Row WB w.heap.size _ _ by rw [← hWB]; exact Row.new _ _ _)
  have Q0 := Lib.hid (show Below w.heap.size w WB by rw [← hWB]; exact nextB (Below.refl _ _))
  have HW := Lib.hid hWB
  clear hWB
  go_enter Tryd.func5, Tryd.ntmps5
  go_upto_region 2 with fail
  rw [HW.out]
  have kd0 := fun o => K.out.cell o
  go_wp2_with fail
  refine (N2.out _).mono ?_
  rintro e w1 ⟨rfl, hb1⟩
  have B1 := Lib.hid hb1
  have kd1 := fun o => (K.out.over B1.out).cell o
  clear hb1 kd0
  go_wp2_with fail
  refine (L3.out _).mono ?_
  rintro e w2 ⟨rfl, hb2⟩
  have B2 := Lib.hid (nextC B1.out hb2)
  have kd2 := fun o => (K.out.over B2.out).cell o
  clear hb2 kd1
  go_wp2_with fail
  refine (A2.out _).mono ?_
  rintro e w3 ⟨rfl, hb3⟩
  have B3 := Lib.hid (nextC B2.out hb3)
  have kd3 := fun o => (K.out.over B3.out).cell o
  clear hb3 kd2
  go_wp2_with fail
  refine (C7.out _).mono ?_
  rintro e w4 ⟨rfl, hb4⟩
  have B4 := Lib.hid (nextC B3.out hb4)
  clear hb4 kd3
  go_wp2_with fail
  go_loopw [10] (fun i wr => ∃ m : Int, i = .int .u8 m ∧ 1 ≤ m ∧ m ≤ 4 ∧ Below WB.heap.size WB wr) (fun i _ => (4 - intOf i).toNat)
  case atStart => exact ⟨1, rfl, by decide, by decide, B4.out⟩
  case round =>
    obtain ⟨m, rfl, m1, m4, hbw⟩ := hrel
    have HB := Lib.hid hbw
    clear hbw
    by_cases hm : m ≤ 3
    · go_wp2_with fail
      obtain ⟨TT, F, hTT, hF, hG⟩ := class_of (fun v => Row v w.heap.size 24 #[.int .u8 65, .slice none 0 0, .slice none 0 0]) wr.drew (K.out.over HB.out).drew
      have q1 := fun n o => (hF n).cell o
      have QC := Lib.hid (hG _ (K.out.over HB.out).drew)
      have HG := Lib.hid (fun v (hv : Below WB.heap.size WB v) => show ∃ n, v = F n from hG v (K.out.over hv))
      have BD := Lib.hid (below_drewN HB.out 1)
      clear hF hG
      refine wp_region_held (S := fun v => ∃ n, v = F n) (by kernel_rfl) ?_
      change wpAnyH _ _ _ _ _ _ _ _ (World.drew _)
      refine held_stretch (C := fun v => ∃ n, v = F n) (by kernel_rfl) (fun _ _ _ _ _ h => h) (fun _ h => h) QC.out 7 2 0 _ _ (by kernel_rfl) (by kernel_rfl) (by decide) ?_
      simp only [List.take_succ_cons, List.take_zero, List.drop_zero]
      repeat (go_big_quiet_step (fail))
      refine wpQuiet_nil ?_
      refine held_call 2 _ 65 21 _ _ #[.string tStar] (by kernel_rfl) rfl rfl rfl inExpr (by kernel_rfl) (by kernel_rfl) ?_
      refine (XS.out _).mono ?_
      rintro e y1 ⟨rfl, hy1⟩
      have BY1 := Lib.hid (nextC BD.out hy1)
      clear hy1
      refine ⟨_, rfl, HG.out _ BY1.out, ?_⟩
      simp only [List.setIfInBounds_toArray, List.set_cons_succ, List.set_cons_zero]
      refine held_call 3 _ 66 14 _ _ #[.agg #[.int .u8 65, .slice none 0 0, .slice none 0 0], .int .u8 m, xpV xStar, .int .i64 129600] (by kernel_rfl) rfl rfl rfl inAfter (by kernel_rfl) (by kernel_rfl) ?_
      refine (AS.out m ⟨m1, hm⟩ _).mono ?_
      rintro e y2 ⟨rfl, hy2⟩
      have BY2 := Lib.hid (nextC BY1.out hy2)
      clear hy2
      refine ⟨_, rfl, HG.out _ BY2.out, ?_⟩
      simp only [List.setIfInBounds_toArray, List.set_cons_succ, List.set_cons_zero]
      refine held_stretch (C := fun v => ∃ n, v = F n) (by kernel_rfl) (fun _ _ _ _ _ h => h) (fun _ h => h) (HG.out _ BY2.out) 0 5 4 _ _ (by kernel_rfl) (by kernel_rfl) (by decide) ?_
      simp only [List.take_succ_cons, List.take_zero, List.drop_succ_cons, List.drop_zero]
      repeat (go_big_quiet_step (fail))
      refine wpQuiet_nil ?_
      refine wpAnyH_done (by kernel_rfl) ?_ _
      clear q1
      go_wp2_with fail
      go_roundw
      case rel => exact ⟨m + 1, by go_num, by omega, by omega, BY2.out⟩
      case measure => simp [intOf]; omega
    · have e : m = 4 := by omega
      subst e
      go_wp2_with fail
      obtain ⟨TT, F, hTT, hF, hG⟩ := class_of (fun v => Row v w.heap.size 24 #[.int .u8 65, .slice none 0 0, .slice none 0 0]) wr.drew (K.out.over HB.out).drew
      have q1 := fun n o => (hF n).cell o
      have QC := Lib.hid (hG _ (K.out.over HB.out).drew)
      have HG := Lib.hid (fun v (hv : Below WB.heap.size WB v) => show ∃ n, v = F n from hG v (K.out.over hv))
      have BD := Lib.hid (below_drewN HB.out 1)
      clear hF hG
      refine wp_region_held (S := fun v => ∃ n, v = F n) (by kernel_rfl) ?_
      change wpAnyH _ _ _ _ _ _ _ _ (World.drew _)
      refine held_stretch (C := fun v => ∃ n, v = F n) (by kernel_rfl) (fun _ _ _ _ _ h => h) (fun _ h => h) QC.out 7 1 0 _ _ (by kernel_rfl) (by kernel_rfl) (by decide) ?_
      simp only [List.take_succ_cons, List.take_zero, List.drop_zero]
      repeat (go_big_quiet_step (fail))
      refine wpQuiet_nil ?_
      refine held_call 1 _ 77 21 _ _ #[.string tSix] (by kernel_rfl) rfl rfl rfl inExpr (by kernel_rfl) (by kernel_rfl) ?_
      refine (XX.out _).mono ?_
      rintro e y1 ⟨rfl, hy1⟩
      have BY1 := Lib.hid (nextC BD.out hy1)
      clear hy1
      refine ⟨_, rfl, HG.out _ BY1.out, ?_⟩
      simp only [List.setIfInBounds_toArray, List.set_cons_succ, List.set_cons_zero]
      refine held_call 2 _ 78 14 _ _ #[.agg #[.int .u8 65, .slice none 0 0, .slice none 0 0], .int .u8 1, xpV xSix, .int .i64 0] (by kernel_rfl) rfl rfl rfl inAfter (by kernel_rfl) (by kernel_rfl) ?_
      refine (A1.out _).mono ?_
      rintro e ya ⟨⟨r1, rfl⟩, hya⟩
      have BA := Lib.hid (nextC BY1.out hya)
      clear hya
      refine ⟨_, rfl, HG.out _ BA.out, ?_⟩
      simp only [List.setIfInBounds_toArray, List.set_cons_succ, List.set_cons_zero]
      refine held_stretch (C := fun v => ∃ n, v = F n) (by kernel_rfl) (fun _ _ _ _ _ h => h) (fun _ h => h) (HG.out _ BA.out) 0 5 3 _ _ (by kernel_rfl) (by kernel_rfl) (by decide) ?_
      simp only [List.take_succ_cons, List.take_zero, List.drop_succ_cons, List.drop_zero]
      repeat (go_big_quiet_step (fail))
      refine wpQuiet_nil ?_
      refine wpAnyH_done (by kernel_rfl) ?_ _
      clear q1
      go_wp2_with fail
      obtain ⟨TT, F, hTT, hF, hG⟩ := class_of (fun v => Row v w.heap.size 24 #[.int .u8 65, .slice none 0 0, .slice none 0 0]) ya.drew (K.out.over BA.out).drew
      have q1 := fun n o => (hF n).cell o
      have QC := Lib.hid (hG _ (K.out.over BA.out).drew)
      have HG := Lib.hid (fun v (hv : Below WB.heap.size WB v) => show ∃ n, v = F n from hG v (K.out.over hv))
      have BD := Lib.hid (below_drewN BA.out 1)
      clear hF hG
      refine wp_region_held (S := fun v => ∃ n, v = F n) (by kernel_rfl) ?_
      change wpAnyH _ _ _ _ _ _ _ _ (World.drew _)
      refine held_stretch (C := fun v => ∃ n, v = F n) (by kernel_rfl) (fun _ _ _ _ _ h => h) (fun _ h => h) QC.out 7 1 0 _ _ (by kernel_rfl) (by kernel_rfl) (by decide) ?_
      simp only [List.take_succ_cons, List.take_zero, List.drop_zero]
      repeat (go_big_quiet_step (fail))
      refine wpQuiet_nil ?_
      refine held_call 1 _ 83 21 _ _ #[.string tSix] (by kernel_rfl) rfl rfl rfl inExpr (by kernel_rfl) (by kernel_rfl) ?_
      refine (XX.out _).mono ?_
      rintro e y1 ⟨rfl, hy1⟩
      have BY1 := Lib.hid (nextC BD.out hy1)
      clear hy1
      refine ⟨_, rfl, HG.out _ BY1.out, ?_⟩
      simp only [List.setIfInBounds_toArray, List.set_cons_succ, List.set_cons_zero]
      refine held_call 2 _ 84 14 _ _ #[.agg #[.int .u8 65, .slice none 0 0, .slice none 0 0], .int .u8 2, xpV xSix, .int .i64 0] (by kernel_rfl) rfl rfl rfl inAfter (by kernel_rfl) (by kernel_rfl) ?_
      refine (AT.out _).mono ?_
      rintro e yb ⟨rfl, hyb⟩
      have BB := Lib.hid (nextC BY1.out hyb)
      clear hyb
      refine ⟨_, rfl, HG.out _ BB.out, ?_⟩
      simp only [List.setIfInBounds_toArray, List.set_cons_succ, List.set_cons_zero]
      refine held_stretch (C := fun v => ∃ n, v = F n) (by kernel_rfl) (fun _ _ _ _ _ h => h) (fun _ h => h) (HG.out _ BB.out) 0 5 3 _ _ (by kernel_rfl) (by kernel_rfl) (by decide) ?_
      simp only [List.take_succ_cons, List.take_zero, List.drop_succ_cons, List.drop_zero]
      repeat (go_big_quiet_step (fail))
      refine wpQuiet_nil ?_
      refine wpAnyH_done (by kernel_rfl) ?_ _
      clear q1
      go_wp2_with fail
      obtain ⟨TT, F, hTT, hF, hG⟩ := class_of (fun v => Row v w.heap.size 24 #[.int .u8 65, .slice none 0 0, .slice none 0 0]) yb.drew (K.out.over BB.out).drew
      have q1 := fun n o => (hF n).cell o
      have QC := Lib.hid (hG _ (K.out.over BB.out).drew)
      have HG := Lib.hid (fun v (hv : Below WB.heap.size WB v) => show ∃ n, v = F n from hG v (K.out.over hv))
      have BD := Lib.hid (below_drewN BB.out 1)
      clear hF hG
      refine wp_region_held (S := fun v => ∃ n, v = F n) (by kernel_rfl) ?_
      change wpAnyH _ _ _ _ _ _ _ _ (World.drew _)
      refine held_stretch (C := fun v => ∃ n, v = F n) (by kernel_rfl) (fun _ _ _ _ _ h => h) (fun _ h => h) QC.out 7 1 0 _ _ (by kernel_rfl) (by kernel_rfl) (by decide) ?_
      simp only [List.take_succ_cons, List.take_zero, List.drop_zero]
      repeat (go_big_quiet_step (fail))
      refine wpQuiet_nil ?_
      refine held_call 1 _ 89 21 _ _ #[.string tSix] (by kernel_rfl) rfl rfl rfl inExpr (by kernel_rfl) (by kernel_rfl) ?_
      refine (XX.out _).mono ?_
      rintro e y1 ⟨rfl, hy1⟩
      have BY1 := Lib.hid (nextC BD.out hy1)
      clear hy1
      refine ⟨_, rfl, HG.out _ BY1.out, ?_⟩
      simp only [List.setIfInBounds_toArray, List.set_cons_succ, List.set_cons_zero]
      refine held_call 2 _ 90 14 _ _ #[.agg #[.int .u8 65, .slice none 0 0, .slice none 0 0], .int .u8 3, xpV xSix, .int .i64 0] (by kernel_rfl) rfl rfl rfl inAfter (by kernel_rfl) (by kernel_rfl) ?_
      refine (A3.out _).mono ?_
      rintro e yc ⟨rfl, hyc⟩
      have BC := Lib.hid (nextC BY1.out hyc)
      clear hyc
      refine ⟨_, rfl, HG.out _ BC.out, ?_⟩
      simp only [List.setIfInBounds_toArray, List.set_cons_succ, List.set_cons_zero]
      refine held_stretch (C := fun v => ∃ n, v = F n) (by kernel_rfl) (fun _ _ _ _ _ h => h) (fun _ h => h) (HG.out _ BC.out) 0 5 3 _ _ (by kernel_rfl) (by kernel_rfl) (by decide) ?_
      simp only [List.take_succ_cons, List.take_zero, List.drop_succ_cons, List.drop_zero]
      repeat (go_big_quiet_step (fail))
      refine wpQuiet_nil ?_
      refine wpAnyH_done (by kernel_rfl) ?_ _
      clear q1
      go_wp2_with fail
      refine (CM.out _).mono ?_
      rintro e wz ⟨rfl, hz⟩
      have BZ := Lib.hid (nextC BC.out hz)
      clear hz
      go_wp2_with fail
      go_ret
      exact ⟨rfl, nextC Q0.out BZ.out⟩
end Go.Proofs.YthigmjjafilbcaaDoor
