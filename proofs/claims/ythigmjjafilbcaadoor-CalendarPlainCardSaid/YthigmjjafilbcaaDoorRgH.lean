/- Contracts of calendar.Next and Last. -/
import Derived.Test.YthigmjjafilbcaaDoorRgG
import Derived.Test.YthigmjjafilbcaaDoorMa
namespace Go.Proofs.YthigmjjafilbcaaDoor
set_option linter.unusedVariables false
set_option maxRecDepth 100000
open Go.RowKit
theorem inFrom : ∀ (args : Array Value) (w : World), (callFunc 33 args).run Tryd.prog w = .ok (.enter 33 args) w := enter_of Tryd.func33 (by kernel_rfl) (by kernel_rfl)
theorem inFirst : ∀ (args : Array Value) (w : World), (callFunc 48 args).run Tryd.prog w = .ok (.enter 48 args) w := enter_of Tryd.func48 (by kernel_rfl) (by kernel_rfl)
theorem badC_0 {k : Nat} {off on : List Int} {n : Int} (h1 : mayC k off on = true) (h2 : inB n = true) : badC k off on n = 0 := by unfold badC; rw [h1, h2]; rfl
theorem next_ok (v : Value) (k : Nat) (off on : List Int) (n : Int) (w : World) (h : CalAt w v k off on) (hm : mayC k off on = true) (hi : inB n = true) :
    Calls Tryd.prog 17 #[v, .int .i64 n] w fun e w' => (∃ r er, e = .returned (.tuple #[.int .i64 r, .int .i64 er]) ∧ FirstIs k off on n (1) r er) ∧ Below w.heap.size w w' := by
  have CB := Lib.hid (fun W (hW : Below w.heap.size w W) => bad_any v k off on n W (h.over hW))
  rw [badC_0 hm hi] at CB
  have hn := inB_iff.1 hi
  have hp := mayC_parts hm
  obtain ⟨A, cA, B, cB, hv, ha, hb2⟩ := h.ex
  obtain ⟨WB, hWB⟩ : ∃ WB, w.alloc (.cells #[.int .u8 k, .slice A off.length cA, .slice B on.length cB] 24) = WB := ⟨_, rfl⟩
  have HB := Lib.hid (show Below w.heap.size w WB by rw [← hWB]; exact nextB (Below.refl _ _))
  have HS := Lib.hid (show WB.heap.size = w.heap.size + 1 by rw [← hWB]; simp)
  have CF := Lib.hid (fun W bn bs hw hbn hbs hne rn rs => first_any v k off on n (1) (by omega) (by omega) (by decide) WB W bn bs (h.over HB.out) (okL_le hp.2.1) (okL_le hp.2.2.2.1) hw hbn hbs hne rn rs)
  have CX := Lib.hid (from_any n (1))
  subst hv
  have K := Lib.hid (show Row WB w.heap.size 24 #[.int .u8 k, .slice A off.length cA, .slice B on.length cB] by rw [← hWB]; exact Row.new w _ _)
  have HW := Lib.hid hWB
  clear h ha hb2 hp hn hm hi hWB
  go_enter Tryd.func17, Tryd.ntmps17
  go_wp2_with fail
  rw [HW.out]
  refine (CB.out _ HB.out).mono ?_
  rintro e w1 ⟨rfl, hb1⟩
  have K1 := Lib.hid (K.out.over hb1)
  have Q1 := Lib.hid hb1
  have kd := fun o => K1.out.cell o
  clear hb1
  go_wp2_with fail
  have Q2 := Lib.hid (below_drewN Q1.out 1)
  obtain ⟨TT, F, hTT, hF, hG⟩ := class_of (fun v => Row v w.heap.size 24 #[.int .u8 k, .slice A off.length cA, .slice B on.length cB]) w1.drew K1.out.drew
  have q1 := fun n o => (hF n).cell o
  have Q0 := Lib.hid (hG _ K1.out.drew)
  have HG := Lib.hid (fun v (hv : Below w1.heap.size w1 v) => show ∃ n, v = F n from hG v (K1.out.over hv))
  have HG2 := Lib.hid (fun v (hv : Below WB.heap.size WB v) => show ∃ n, v = F n from hG v (K.out.over hv))
  clear hF hG kd
  refine wp_region_held (S := fun v => ∃ n, v = F n) (by kernel_rfl) ?_
  change wpAnyH _ _ _ _ _ _ _ _ (World.drew _)
  refine held_stretch (C := fun v => ∃ n, v = F n) (by kernel_rfl) (fun _ _ _ _ _ h => h) (fun _ h => h) Q0.out 6 2 0 _ _ (by kernel_rfl) (by kernel_rfl) (by decide) ?_
  simp only [List.take_succ_cons, List.take_zero, List.drop_zero]
  repeat (go_big_quiet_step (fail))
  refine wpQuiet_nil ?_
  refine held_call 2 _ 15 33 _ _ #[.int .i64 n, .int .i64 (1)] (by kernel_rfl) rfl rfl rfl inFrom (by kernel_rfl) (by kernel_rfl) ?_
  refine (CX.out _).mono ?_
  rintro e w2 ⟨rfl, rfl⟩
  refine ⟨_, rfl, HG.out _ (nextB (nextB (below_drewN (Below.refl _ _) 1))), ?_⟩
  simp only [List.setIfInBounds_toArray, List.set_cons_succ, List.set_cons_zero]
  have qs := Q2.out.size
  change WB.heap.size ≤ w1.drew.heap.size at qs
  refine held_call 3 _ 16 48 _ _ #[.agg #[.int .u8 k, .slice A off.length cA, .slice B on.length cB], .func (.func 63) #[] #[.pointer (some ⟨w1.drew.heap.size, 0, none⟩), .pointer (some ⟨w1.drew.heap.size + 1, 0, none⟩)]] (by kernel_rfl) rfl rfl rfl inFirst (by kernel_rfl) (by kernel_rfl) ?_
  refine (CF.out _ w1.drew.heap.size (w1.drew.heap.size + 1) (nextB (nextB Q2.out)) qs (by omega) (by omega) ((Row.new w1.drew _ _).alloc _) ?_).mono ?_
  · have := Row.new (w1.drew.alloc (.cells #[.int .i64 n] 3)) 3 #[.int .i64 (1)]
    rwa [show (w1.drew.alloc (.cells #[.int .i64 n] 3)).heap.size = w1.drew.heap.size + 1 by simp] at this
  rintro e w3 ⟨⟨r, er, rfl, hF⟩, hb3⟩
  have HF := Lib.hid hF
  clear hF
  refine ⟨_, rfl, HG2.out _ hb3, ?_⟩
  simp only [List.setIfInBounds_toArray, List.set_cons_succ, List.set_cons_zero]
  refine held_stretch (C := fun v => ∃ n, v = F n) (by kernel_rfl) (fun _ _ _ _ _ h => h) (fun _ h => h) (HG2.out _ hb3) 0 4 4 _ _ (by kernel_rfl) (by kernel_rfl) (by decide) ?_
  simp only [List.take_succ_cons, List.take_zero, List.drop_succ_cons, List.drop_zero]
  repeat (go_big_quiet_step (fail))
  refine wpQuiet_nil ?_
  refine wpAnyH_done (by kernel_rfl) ?_ _
  go_wp2_with fail
  go_ret2
  exact ⟨⟨r, er, rfl, HF.out⟩, nextC HB.out hb3⟩
theorem next_bad (v : Value) (k : Nat) (off on : List Int) (n : Int) (w : World) (h : CalAt w v k off on) (hbad : badC k off on n ≠ 0) :
    Calls Tryd.prog 17 #[v, .int .i64 n] w fun e w' => e = .returned (.tuple #[.int .i64 0, .int .i64 (badC k off on n)]) ∧ Below w.heap.size w w' := by
  have CB := Lib.hid (fun W (hW : Below w.heap.size w W) => bad_any v k off on n W (h.over hW))
  obtain ⟨b, hb⟩ : ∃ b, badC k off on n = b := ⟨_, rfl⟩
  rw [hb] at CB hbad ⊢
  have hb0 : (b != 0) = true := by simpa using hbad
  obtain ⟨A, cA, B, cB, rfl, ha, hb2⟩ := h.ex
  have Q0 := Lib.hid (nextB (o := (.cells #[.int .u8 k, .slice A off.length cA, .slice B on.length cB] 24)) (Below.refl w.heap.size w))
  clear h ha hb2 hb hbad
  go_enter Tryd.func17, Tryd.ntmps17
  go_wp2_with fail
  refine (CB.out _ Q0.out).mono ?_
  rintro e w1 ⟨rfl, hb1⟩
  go_wp2_with fail
  go_ret2
  exact ⟨rfl, nextC Q0.out hb1⟩
theorem last_ok (v : Value) (k : Nat) (off on : List Int) (n : Int) (w : World) (h : CalAt w v k off on) (hm : mayC k off on = true) (hi : inB n = true) :
    Calls Tryd.prog 18 #[v, .int .i64 n] w fun e w' => (∃ r er, e = .returned (.tuple #[.int .i64 r, .int .i64 er]) ∧ FirstIs k off on n (-1) r er) ∧ Below w.heap.size w w' := by
  have CB := Lib.hid (fun W (hW : Below w.heap.size w W) => bad_any v k off on n W (h.over hW))
  rw [badC_0 hm hi] at CB
  have hn := inB_iff.1 hi
  have hp := mayC_parts hm
  obtain ⟨A, cA, B, cB, hv, ha, hb2⟩ := h.ex
  obtain ⟨WB, hWB⟩ : ∃ WB, w.alloc (.cells #[.int .u8 k, .slice A off.length cA, .slice B on.length cB] 24) = WB := ⟨_, rfl⟩
  have HB := Lib.hid (show Below w.heap.size w WB by rw [← hWB]; exact nextB (Below.refl _ _))
  have HS := Lib.hid (show WB.heap.size = w.heap.size + 1 by rw [← hWB]; simp)
  have CF := Lib.hid (fun W bn bs hw hbn hbs hne rn rs => first_any v k off on n (-1) (by omega) (by omega) (by decide) WB W bn bs (h.over HB.out) (okL_le hp.2.1) (okL_le hp.2.2.2.1) hw hbn hbs hne rn rs)
  have CX := Lib.hid (from_any n (-1))
  subst hv
  have K := Lib.hid (show Row WB w.heap.size 24 #[.int .u8 k, .slice A off.length cA, .slice B on.length cB] by rw [← hWB]; exact Row.new w _ _)
  have HW := Lib.hid hWB
  clear h ha hb2 hp hn hm hi hWB
  go_enter Tryd.func18, Tryd.ntmps18
  go_wp2_with fail
  rw [HW.out]
  refine (CB.out _ HB.out).mono ?_
  rintro e w1 ⟨rfl, hb1⟩
  have K1 := Lib.hid (K.out.over hb1)
  have Q1 := Lib.hid hb1
  have kd := fun o => K1.out.cell o
  clear hb1
  go_wp2_with fail
  have Q2 := Lib.hid (below_drewN Q1.out 1)
  obtain ⟨TT, F, hTT, hF, hG⟩ := class_of (fun v => Row v w.heap.size 24 #[.int .u8 k, .slice A off.length cA, .slice B on.length cB]) w1.drew K1.out.drew
  have q1 := fun n o => (hF n).cell o
  have Q0 := Lib.hid (hG _ K1.out.drew)
  have HG := Lib.hid (fun v (hv : Below w1.heap.size w1 v) => show ∃ n, v = F n from hG v (K1.out.over hv))
  have HG2 := Lib.hid (fun v (hv : Below WB.heap.size WB v) => show ∃ n, v = F n from hG v (K.out.over hv))
  clear hF hG kd
  refine wp_region_held (S := fun v => ∃ n, v = F n) (by kernel_rfl) ?_
  change wpAnyH _ _ _ _ _ _ _ _ (World.drew _)
  refine held_stretch (C := fun v => ∃ n, v = F n) (by kernel_rfl) (fun _ _ _ _ _ h => h) (fun _ h => h) Q0.out 6 2 0 _ _ (by kernel_rfl) (by kernel_rfl) (by decide) ?_
  simp only [List.take_succ_cons, List.take_zero, List.drop_zero]
  repeat (go_big_quiet_step (fail))
  refine wpQuiet_nil ?_
  refine held_call 2 _ 15 33 _ _ #[.int .i64 n, .int .i64 (-1)] (by kernel_rfl) rfl rfl rfl inFrom (by kernel_rfl) (by kernel_rfl) ?_
  refine (CX.out _).mono ?_
  rintro e w2 ⟨rfl, rfl⟩
  refine ⟨_, rfl, HG.out _ (nextB (nextB (below_drewN (Below.refl _ _) 1))), ?_⟩
  simp only [List.setIfInBounds_toArray, List.set_cons_succ, List.set_cons_zero]
  have qs := Q2.out.size
  change WB.heap.size ≤ w1.drew.heap.size at qs
  refine held_call 3 _ 16 48 _ _ #[.agg #[.int .u8 k, .slice A off.length cA, .slice B on.length cB], .func (.func 63) #[] #[.pointer (some ⟨w1.drew.heap.size, 0, none⟩), .pointer (some ⟨w1.drew.heap.size + 1, 0, none⟩)]] (by kernel_rfl) rfl rfl rfl inFirst (by kernel_rfl) (by kernel_rfl) ?_
  refine (CF.out _ w1.drew.heap.size (w1.drew.heap.size + 1) (nextB (nextB Q2.out)) qs (by omega) (by omega) ((Row.new w1.drew _ _).alloc _) ?_).mono ?_
  · have := Row.new (w1.drew.alloc (.cells #[.int .i64 n] 3)) 3 #[.int .i64 (-1)]
    rwa [show (w1.drew.alloc (.cells #[.int .i64 n] 3)).heap.size = w1.drew.heap.size + 1 by simp] at this
  rintro e w3 ⟨⟨r, er, rfl, hF⟩, hb3⟩
  have HF := Lib.hid hF
  clear hF
  refine ⟨_, rfl, HG2.out _ hb3, ?_⟩
  simp only [List.setIfInBounds_toArray, List.set_cons_succ, List.set_cons_zero]
  refine held_stretch (C := fun v => ∃ n, v = F n) (by kernel_rfl) (fun _ _ _ _ _ h => h) (fun _ h => h) (HG2.out _ hb3) 0 4 4 _ _ (by kernel_rfl) (by kernel_rfl) (by decide) ?_
  simp only [List.take_succ_cons, List.take_zero, List.drop_succ_cons, List.drop_zero]
  repeat (go_big_quiet_step (fail))
  refine wpQuiet_nil ?_
  refine wpAnyH_done (by kernel_rfl) ?_ _
  go_wp2_with fail
  go_ret2
  exact ⟨⟨r, er, rfl, HF.out⟩, nextC HB.out hb3⟩
theorem last_bad (v : Value) (k : Nat) (off on : List Int) (n : Int) (w : World) (h : CalAt w v k off on) (hbad : badC k off on n ≠ 0) :
    Calls Tryd.prog 18 #[v, .int .i64 n] w fun e w' => e = .returned (.tuple #[.int .i64 0, .int .i64 (badC k off on n)]) ∧ Below w.heap.size w w' := by
  have CB := Lib.hid (fun W (hW : Below w.heap.size w W) => bad_any v k off on n W (h.over hW))
  obtain ⟨b, hb⟩ : ∃ b, badC k off on n = b := ⟨_, rfl⟩
  rw [hb] at CB hbad ⊢
  have hb0 : (b != 0) = true := by simpa using hbad
  obtain ⟨A, cA, B, cB, rfl, ha, hb2⟩ := h.ex
  have Q0 := Lib.hid (nextB (o := (.cells #[.int .u8 k, .slice A off.length cA, .slice B on.length cB] 24)) (Below.refl w.heap.size w))
  clear h ha hb2 hb hbad
  go_enter Tryd.func18, Tryd.ntmps18
  go_wp2_with fail
  refine (CB.out _ Q0.out).mono ?_
  rintro e w1 ⟨rfl, hb1⟩
  go_wp2_with fail
  go_ret2
  exact ⟨rfl, nextC Q0.out hb1⟩
end Go.Proofs.YthigmjjafilbcaaDoor
