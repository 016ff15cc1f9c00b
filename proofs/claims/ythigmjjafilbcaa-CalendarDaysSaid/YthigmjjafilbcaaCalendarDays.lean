/- CalendarDays. -/
import Derived.Test.YthigmjjafilbcaaCbQ
import Derived.Test.YthigmjjafilbcaaOpC
import Derived.Test.YthigmjjafilbcaaPost
namespace Go.Proofs.Ythigmjjafilbcaa.calendarDays
open Go.ChangeShapes Go.WideShapes Go.ChangeAt Go.RowKit
set_option linter.unusedVariables false
set_option maxRecDepth 100000

theorem laidOut : laidOutB Try.prog = true := by kernel_rfl
theorem own : ownKnob Try.prog.godebug = none := by kernel_rfl
theorem clsC {w : World} {g : Nat} {t : TypeId} {cs : Array Value} {T : Type} {F : T → World} (hF : ∀ n, Row (F n) g t cs ∧ Below w.heap.size w (F n)) (hG : ∀ v, Row v g t cs ∧ Below w.heap.size w v → ∃ n, v = F n) {P : Program} {f : FuncId} {args : Array Value} {r : Value}
    (C : ∀ W, Below w.heap.size w W → Calls P f args W fun e w' => e = .returned r ∧ Below W.heap.size W w') : ∀ n, Calls P f args (F n) fun e w' => e = .returned r ∧ ∃ m, w' = F m :=
  fun n => (C _ (hF n).2).mono fun e w' ⟨he, hb⟩ => ⟨he, hG w' ⟨(hF n).1.over hb, nextC (hF n).2 hb⟩⟩
theorem near_there (k : Nat) (off on : List Int) (n s : Int) (hn : inB n = true) (hs : s = 1 ∨ s = -1) : ∃ r, NearIs k off on n s r := by
  have hb := inB_iff.1 hn
  have key : ∀ N : Nat, (∃ i : Nat, i < N ∧ (∀ j : Nat, j < i → inB (n + s * (j : Int)) = true ∧ worksC k off on (n + s * (j : Int)) = false) ∧ ¬ (inB (n + s * (i : Int)) = true ∧ worksC k off on (n + s * (i : Int)) = false)) ∨
      ∀ j : Nat, j < N → inB (n + s * (j : Int)) = true ∧ worksC k off on (n + s * (j : Int)) = false := fun N => by
    induction N with
    | zero => exact .inr fun j hj => absurd hj (by omega)
    | succ N ih =>
      rcases ih with ⟨i, hi, h1, h2⟩ | h
      · exact .inl ⟨i, by omega, h1, h2⟩
      · by_cases hN : inB (n + s * (N : Int)) = true ∧ worksC k off on (n + s * (N : Int)) = false
        · refine .inr fun j hj => ?_
          by_cases e : j = N
          · subst e; exact hN
          · exact h j (by omega)
        · exact .inl ⟨N, by omega, h, hN⟩
  rcases key 157055 with ⟨i, -, h1, h2⟩ | h
  · cases hi : inB (n + s * (i : Int))
    · exact ⟨_, .inr ⟨i, h1, hi, rfl⟩⟩
    · refine ⟨_, .inl ⟨i, h1, hi, ?_, rfl⟩⟩
      cases hw : worksC k off on (n + s * (i : Int))
      · exact absurd ⟨hi, hw⟩ h2
      · rfl
  · have := inB_iff.1 (h 157054 (by omega)).1
    rcases hs with rfl | rfl <;> omega
theorem near_det (v : Value) (k : Nat) (off on : List Int) (n s x : Int) (w : World) (hn : -1 ≤ n) (hn1 : n ≤ 157054) (hs : s = 1 ∨ s = -1) (h : CalAt w v k off on) (hm : mayC k off on = true) (hx : NearIs k off on n s x) :
    Calls Try.prog 21 #[v, .int .i64 n, .int .i64 s] w fun e w' => e = .returned (.int .i64 x) ∧ Below w.heap.size w w' :=
  (near_any v k off on n s hn hn1 hs w h hm).mono fun e w' ⟨⟨r, he, hr⟩, hb⟩ => ⟨by rw [he, near_one hr hx], hb⟩
theorem first_near {k : Nat} {off on : List Int} {n s r e x : Int} (h : FirstIs k off on n s r e) (hx : NearIs k off on n s x) : (0 ≤ x ∧ e = 0 ∧ r = x) ∨ (x < 0 ∧ e = 5 ∧ r = 0) := by
  rcases h with ⟨i, h1, h2, h3, rfl, rfl⟩ | ⟨i, h1, h2, rfl, rfl⟩
  · have := near_one hx (.inl ⟨i, h1, h2, h3, rfl⟩)
    have hb := inB_iff.1 h2
    exact .inl ⟨by omega, rfl, this.symm⟩
  · have := near_one hx (.inr ⟨i, h1, h2, rfl⟩)
    exact .inr ⟨by omega, rfl, rfl⟩
set_option maxHeartbeats 2000000 in
theorem walk_heavy (v : Value) (k : Nat) (off on : List Int) (n : Int) (w : World) (A : Option Addr) (cA : Nat) (B : Option Addr) (cB : Nat) (hv : v = .agg #[.int .u8 k, .slice A off.length cA, .slice B on.length cB]) (hh : 150 < off.length ∨ 150 < on.length) :
    Calls Try.prog 5 #[v, .int .i64 n] w fun e w' => e = .returned (.bool true) ∧ Below w.heap.size w w' := by
  subst hv
  have KN := Lib.hid known_any
  obtain ⟨WB, hWB⟩ : ∃ WB, w.alloc (.cells #[.int .u8 k, .slice A off.length cA, .slice B on.length cB] 24) = WB := ⟨_, rfl⟩
  have K := Lib.hid (show Row WB w.heap.size 24 #[.int .u8 k, .slice A off.length cA, .slice B on.length cB] by rw [← hWB]; exact Row.new _ _ _)
  have Q0 := Lib.hid (show Below w.heap.size w WB by rw [← hWB]; exact nextB (Below.refl _ _))
  have HW := Lib.hid hWB
  clear hWB
  go_enter Try.func5, Try.ntmps5
  go_upto_region 1 with fail
  rw [HW.out]
  go_wp2_with fail
  refine (KN.out _).mono ?_
  rintro e w1 ⟨rfl, hb1⟩
  have B1 := Lib.hid (nextC Q0.out hb1)
  have kd1 := fun o => (K.out.over hb1).cell o
  have K1 := Lib.hid (K.out.over hb1)
  clear hb1
  have hh' : (150 : Int) < (off.length : Int) ∨ decide ((150 : Int) < (off.length : Int)) = false ∧ (150 : Int) < (on.length : Int) := by
    by_cases h : 150 < off.length
    · exact .inl (by omega)
    · exact .inr ⟨decide_eq_false (by omega), by omega⟩
  rcases hh' with h1 | ⟨h1, h2⟩
  · go_wp2_with fail
    go_ret
    exact ⟨rfl, B1.out⟩
  · have h1' : decide (150 < off.length) = false := decide_eq_false (by have := of_decide_eq_false h1; omega)
    go_wp2_with fail
    go_ret
    exact ⟨rfl, B1.out⟩
set_option maxHeartbeats 2000000 in
theorem walk_nocal (v : Value) (k : Nat) (off on : List Int) (n : Int) (w : World) (h : CalAt w v k off on) (h1 : off.length ≤ 150) (h2 : on.length ≤ 150) (hm : mayC k off on = false) :
    Calls Try.prog 5 #[v, .int .i64 n] w fun e w' => e = .returned (.bool true) ∧ Below w.heap.size w w' := by
  have CM := Lib.hid (fun W (hW : Below w.heap.size w W) => mayCal_any v k off on W (h.over hW))
  have CO := Lib.hid (fun W (hW : Below w.heap.size w W) => ofC_any v k off on W (h.over hW))
  have CR := Lib.hid (fun W (hW : Below w.heap.size w W) => refCMay_any v k off on W (h.over hW))
  have CW := Lib.hid (fun W (hW : Below w.heap.size w W) => worksF_any v k off on n W (h.over hW))
  have CV := Lib.hid (fun W (hW : Below w.heap.size w W) => refWorks_any v k off on n W (h.over hW))
  have hbad : badC k off on n = 2 := by unfold badC; rw [hm]; rfl
  have CN := Lib.hid (fun W (hW : Below w.heap.size w W) => next_bad v k off on n W (h.over hW) (by rw [hbad]; decide))
  have CL := Lib.hid (fun W (hW : Below w.heap.size w W) => last_bad v k off on n W (h.over hW) (by rw [hbad]; decide))
  rw [hbad] at CN CL
  rw [hm] at CM CR CW CV
  have l1 : decide ((150 : Int) < (off.length : Int)) = false := decide_eq_false (by omega)
  have l2 : decide ((150 : Int) < (on.length : Int)) = false := decide_eq_false (by omega)
  have l3 : decide (150 < off.length) = false := decide_eq_false (by omega)
  have l4 : decide (150 < on.length) = false := decide_eq_false (by omega)
  clear hbad hm
  obtain ⟨A, cA, B, cB, hv, ha, hb⟩ := h.ex
  clear h ha hb
  subst hv
  have KN := Lib.hid known_any
  obtain ⟨WB, hWB⟩ : ∃ WB, w.alloc (.cells #[.int .u8 k, .slice A off.length cA, .slice B on.length cB] 24) = WB := ⟨_, rfl⟩
  have K := Lib.hid (show Row WB w.heap.size 24 #[.int .u8 k, .slice A off.length cA, .slice B on.length cB] by rw [← hWB]; exact Row.new _ _ _)
  have Q0 := Lib.hid (show Below w.heap.size w WB by rw [← hWB]; exact nextB (Below.refl _ _))
  have HW := Lib.hid hWB
  clear hWB
  go_enter Try.func5, Try.ntmps5
  go_upto_region 1 with fail
  rw [HW.out]
  go_wp2_with fail
  refine (KN.out _).mono ?_
  rintro e w1 ⟨rfl, hb1⟩
  have B1 := Lib.hid (nextC Q0.out hb1)
  have kd1 := fun o => (K.out.over hb1).cell o
  have K1 := Lib.hid (K.out.over hb1)
  clear hb1
  go_wp2_with fail
  refine (CN.out _ B1.out).mono ?_
  rintro e w2 ⟨rfl, hb2⟩
  have B2 := Lib.hid (nextC B1.out hb2)
  have K2 := Lib.hid (K1.out.over hb2)
  have kd2 := fun o => K2.out.cell o
  clear hb2 kd1
  go_wp2_with fail
  refine (CL.out _ B2.out).mono ?_
  rintro e w3 ⟨rfl, hb3⟩
  have B3 := Lib.hid (nextC B2.out hb3)
  have K3 := Lib.hid (K2.out.over hb3)
  clear hb3 kd2
  go_wp2_with fail
  obtain ⟨TT, F, hTT, hF, hG⟩ := class_of (fun v => Row v w.heap.size 24 #[.int .u8 k, .slice A off.length cA, .slice B on.length cB] ∧ Below w.heap.size w v) w3.drew ⟨K3.out.drew, below_drewN B3.out 1⟩
  have q1 := fun n o => (hF n).1.cell o
  have QC := Lib.hid (hG _ ⟨K3.out.drew, below_drewN B3.out 1⟩)
  have D1 := Lib.hid (clsC hF hG CM.out)
  have D2 := Lib.hid (clsC hF hG CO.out)
  have D3 := Lib.hid (clsC hF hG CR.out)
  have D4 := Lib.hid (clsC hF hG CW.out)
  have D5 := Lib.hid (clsC hF hG CV.out)
  have HF := Lib.hid hF
  clear hF hG
  refine wp_region_class F (by kernel_rfl) (by kernel_rfl) QC.out ?_
  repeat (go_big_quiet_step ((first | (go_at_call 19; with_reducible exact D1.out _) | (go_at_call 11; with_reducible exact D2.out _) | (go_at_call 10; with_reducible exact D3.out _) | (go_at_call 20; with_reducible exact D4.out _) | (go_at_call 13; with_reducible exact D5.out _))))
  refine wpQuiet_nil ?_
  rintro _ ⟨nq, rfl⟩
  clear q1 D1 D2 D3 D4 D5
  have q3 := fun o => (HF.out nq).1.cell o
  have B4 := Lib.hid (HF.out nq).2
  have K4 := Lib.hid (HF.out nq).1
  go_wp2_with fail
  refine (CO.out _ B4.out).mono ?_
  rintro e w5 ⟨rfl, hb5⟩
  have B5 := Lib.hid (nextC B4.out hb5)
  have K5 := Lib.hid (K4.out.over hb5)
  have kd5 := fun o => K5.out.cell o
  clear hb5 q3
  go_wp2_with fail
  refine (CR.out _ B5.out).mono ?_
  rintro e w6 ⟨rfl, hb6⟩
  have B6 := Lib.hid (nextC B5.out hb6)
  have K6 := Lib.hid (K5.out.over hb6)
  clear hb6 kd5
  go_wp2_with fail
  go_ret
  exact ⟨rfl, B6.out⟩
set_option maxHeartbeats 2000000 in
theorem walk_low (v : Value) (k : Nat) (off on : List Int) (n : Int) (w : World) (h : CalAt w v k off on) (h1 : off.length ≤ 150) (h2 : on.length ≤ 150) (hm : mayC k off on = true) (hn : n < 0) :
    Calls Try.prog 5 #[v, .int .i64 n] w fun e w' => e = .returned (.bool true) ∧ Below w.heap.size w w' := by
  have CM := Lib.hid (fun W (hW : Below w.heap.size w W) => mayCal_any v k off on W (h.over hW))
  have CO := Lib.hid (fun W (hW : Below w.heap.size w W) => ofC_any v k off on W (h.over hW))
  have CR := Lib.hid (fun W (hW : Below w.heap.size w W) => refCMay_any v k off on W (h.over hW))
  have CW := Lib.hid (fun W (hW : Below w.heap.size w W) => worksF_any v k off on n W (h.over hW))
  have CV := Lib.hid (fun W (hW : Below w.heap.size w W) => refWorks_any v k off on n W (h.over hW))
  have hbad : badC k off on n = 50 := by unfold badC; rw [hm, show inB n = false from by unfold inB; simp; omega]; rfl
  have CN := Lib.hid (fun W (hW : Below w.heap.size w W) => next_bad v k off on n W (h.over hW) (by rw [hbad]; decide))
  have CL := Lib.hid (fun W (hW : Below w.heap.size w W) => last_bad v k off on n W (h.over hW) (by rw [hbad]; decide))
  rw [hbad] at CN CL
  rw [hm] at CM CR CW CV
  have l1 : decide ((150 : Int) < (off.length : Int)) = false := decide_eq_false (by omega)
  have l2 : decide ((150 : Int) < (on.length : Int)) = false := decide_eq_false (by omega)
  have l3 : decide (150 < off.length) = false := decide_eq_false (by omega)
  have l4 : decide (150 < on.length) = false := decide_eq_false (by omega)
  clear hbad hm
  obtain ⟨A, cA, B, cB, hv, ha, hb⟩ := h.ex
  clear h ha hb
  subst hv
  have KN := Lib.hid known_any
  obtain ⟨WB, hWB⟩ : ∃ WB, w.alloc (.cells #[.int .u8 k, .slice A off.length cA, .slice B on.length cB] 24) = WB := ⟨_, rfl⟩
  have K := Lib.hid (show Row WB w.heap.size 24 #[.int .u8 k, .slice A off.length cA, .slice B on.length cB] by rw [← hWB]; exact Row.new _ _ _)
  have Q0 := Lib.hid (show Below w.heap.size w WB by rw [← hWB]; exact nextB (Below.refl _ _))
  have HW := Lib.hid hWB
  clear hWB
  go_enter Try.func5, Try.ntmps5
  go_upto_region 1 with fail
  rw [HW.out]
  go_wp2_with fail
  refine (KN.out _).mono ?_
  rintro e w1 ⟨rfl, hb1⟩
  have B1 := Lib.hid (nextC Q0.out hb1)
  have kd1 := fun o => (K.out.over hb1).cell o
  have K1 := Lib.hid (K.out.over hb1)
  clear hb1
  go_wp2_with fail
  refine (CN.out _ B1.out).mono ?_
  rintro e w2 ⟨rfl, hb2⟩
  have B2 := Lib.hid (nextC B1.out hb2)
  have K2 := Lib.hid (K1.out.over hb2)
  have kd2 := fun o => K2.out.cell o
  clear hb2 kd1
  go_wp2_with fail
  refine (CL.out _ B2.out).mono ?_
  rintro e w3 ⟨rfl, hb3⟩
  have B3 := Lib.hid (nextC B2.out hb3)
  have K3 := Lib.hid (K2.out.over hb3)
  clear hb3 kd2
  go_wp2_with fail
  obtain ⟨TT, F, hTT, hF, hG⟩ := class_of (fun v => Row v w.heap.size 24 #[.int .u8 k, .slice A off.length cA, .slice B on.length cB] ∧ Below w.heap.size w v) w3.drew ⟨K3.out.drew, below_drewN B3.out 1⟩
  have q1 := fun n o => (hF n).1.cell o
  have QC := Lib.hid (hG _ ⟨K3.out.drew, below_drewN B3.out 1⟩)
  have D1 := Lib.hid (clsC hF hG CM.out)
  have D2 := Lib.hid (clsC hF hG CO.out)
  have D3 := Lib.hid (clsC hF hG CR.out)
  have D4 := Lib.hid (clsC hF hG CW.out)
  have D5 := Lib.hid (clsC hF hG CV.out)
  have HF := Lib.hid hF
  clear hF hG
  refine wp_region_class F (by kernel_rfl) (by kernel_rfl) QC.out ?_
  repeat (go_big_quiet_step ((first | (go_at_call 19; with_reducible exact D1.out _) | (go_at_call 11; with_reducible exact D2.out _) | (go_at_call 10; with_reducible exact D3.out _) | (go_at_call 20; with_reducible exact D4.out _) | (go_at_call 13; with_reducible exact D5.out _))))
  refine wpQuiet_nil ?_
  rintro _ ⟨nq, rfl⟩
  clear q1 D1 D2 D3 D4 D5
  have q3 := fun o => (HF.out nq).1.cell o
  have B4 := Lib.hid (HF.out nq).2
  have K4 := Lib.hid (HF.out nq).1
  go_wp2_with fail
  refine (CO.out _ B4.out).mono ?_
  rintro e w5 ⟨rfl, hb5⟩
  have B5 := Lib.hid (nextC B4.out hb5)
  have K5 := Lib.hid (K4.out.over hb5)
  have kd5 := fun o => K5.out.cell o
  clear hb5 q3
  go_wp2_with fail
  refine (CR.out _ B5.out).mono ?_
  rintro e w6 ⟨rfl, hb6⟩
  have B6 := Lib.hid (nextC B5.out hb6)
  have K6 := Lib.hid (K5.out.over hb6)
  clear hb6 kd5
  go_wp2_with fail
  go_ret
  exact ⟨rfl, B6.out⟩
set_option maxHeartbeats 2000000 in
theorem walk_high (v : Value) (k : Nat) (off on : List Int) (n : Int) (w : World) (h : CalAt w v k off on) (h1 : off.length ≤ 150) (h2 : on.length ≤ 150) (hm : mayC k off on = true) (hn : 157054 ≤ n) :
    Calls Try.prog 5 #[v, .int .i64 n] w fun e w' => e = .returned (.bool true) ∧ Below w.heap.size w w' := by
  have CM := Lib.hid (fun W (hW : Below w.heap.size w W) => mayCal_any v k off on W (h.over hW))
  have CO := Lib.hid (fun W (hW : Below w.heap.size w W) => ofC_any v k off on W (h.over hW))
  have CR := Lib.hid (fun W (hW : Below w.heap.size w W) => refCMay_any v k off on W (h.over hW))
  have CW := Lib.hid (fun W (hW : Below w.heap.size w W) => worksF_any v k off on n W (h.over hW))
  have CV := Lib.hid (fun W (hW : Below w.heap.size w W) => refWorks_any v k off on n W (h.over hW))
  have hbad : badC k off on n = 50 := by unfold badC; rw [hm, show inB n = false from by unfold inB; simp; omega]; rfl
  have CN := Lib.hid (fun W (hW : Below w.heap.size w W) => next_bad v k off on n W (h.over hW) (by rw [hbad]; decide))
  have CL := Lib.hid (fun W (hW : Below w.heap.size w W) => last_bad v k off on n W (h.over hW) (by rw [hbad]; decide))
  rw [hbad] at CN CL
  rw [hm] at CM CR CW CV
  have d1 : decide (n < 0) = false := decide_eq_false (by omega)
  have l1 : decide ((150 : Int) < (off.length : Int)) = false := decide_eq_false (by omega)
  have l2 : decide ((150 : Int) < (on.length : Int)) = false := decide_eq_false (by omega)
  have l3 : decide (150 < off.length) = false := decide_eq_false (by omega)
  have l4 : decide (150 < on.length) = false := decide_eq_false (by omega)
  clear hbad hm
  obtain ⟨A, cA, B, cB, hv, ha, hb⟩ := h.ex
  clear h ha hb
  subst hv
  have KN := Lib.hid known_any
  obtain ⟨WB, hWB⟩ : ∃ WB, w.alloc (.cells #[.int .u8 k, .slice A off.length cA, .slice B on.length cB] 24) = WB := ⟨_, rfl⟩
  have K := Lib.hid (show Row WB w.heap.size 24 #[.int .u8 k, .slice A off.length cA, .slice B on.length cB] by rw [← hWB]; exact Row.new _ _ _)
  have Q0 := Lib.hid (show Below w.heap.size w WB by rw [← hWB]; exact nextB (Below.refl _ _))
  have HW := Lib.hid hWB
  clear hWB
  go_enter Try.func5, Try.ntmps5
  go_upto_region 1 with fail
  rw [HW.out]
  go_wp2_with fail
  refine (KN.out _).mono ?_
  rintro e w1 ⟨rfl, hb1⟩
  have B1 := Lib.hid (nextC Q0.out hb1)
  have kd1 := fun o => (K.out.over hb1).cell o
  have K1 := Lib.hid (K.out.over hb1)
  clear hb1
  go_wp2_with fail
  refine (CN.out _ B1.out).mono ?_
  rintro e w2 ⟨rfl, hb2⟩
  have B2 := Lib.hid (nextC B1.out hb2)
  have K2 := Lib.hid (K1.out.over hb2)
  have kd2 := fun o => K2.out.cell o
  clear hb2 kd1
  go_wp2_with fail
  refine (CL.out _ B2.out).mono ?_
  rintro e w3 ⟨rfl, hb3⟩
  have B3 := Lib.hid (nextC B2.out hb3)
  have K3 := Lib.hid (K2.out.over hb3)
  clear hb3 kd2
  go_wp2_with fail
  obtain ⟨TT, F, hTT, hF, hG⟩ := class_of (fun v => Row v w.heap.size 24 #[.int .u8 k, .slice A off.length cA, .slice B on.length cB] ∧ Below w.heap.size w v) w3.drew ⟨K3.out.drew, below_drewN B3.out 1⟩
  have q1 := fun n o => (hF n).1.cell o
  have QC := Lib.hid (hG _ ⟨K3.out.drew, below_drewN B3.out 1⟩)
  have D1 := Lib.hid (clsC hF hG CM.out)
  have D2 := Lib.hid (clsC hF hG CO.out)
  have D3 := Lib.hid (clsC hF hG CR.out)
  have D4 := Lib.hid (clsC hF hG CW.out)
  have D5 := Lib.hid (clsC hF hG CV.out)
  have HF := Lib.hid hF
  clear hF hG
  refine wp_region_class F (by kernel_rfl) (by kernel_rfl) QC.out ?_
  repeat (go_big_quiet_step ((first | (go_at_call 19; with_reducible exact D1.out _) | (go_at_call 11; with_reducible exact D2.out _) | (go_at_call 10; with_reducible exact D3.out _) | (go_at_call 20; with_reducible exact D4.out _) | (go_at_call 13; with_reducible exact D5.out _))))
  refine wpQuiet_nil ?_
  rintro _ ⟨nq, rfl⟩
  clear q1 D1 D2 D3 D4 D5
  have q3 := fun o => (HF.out nq).1.cell o
  have B4 := Lib.hid (HF.out nq).2
  have K4 := Lib.hid (HF.out nq).1
  go_wp2_with fail
  refine (CO.out _ B4.out).mono ?_
  rintro e w5 ⟨rfl, hb5⟩
  have B5 := Lib.hid (nextC B4.out hb5)
  have K5 := Lib.hid (K4.out.over hb5)
  have kd5 := fun o => K5.out.cell o
  clear hb5 q3
  go_wp2_with fail
  refine (CR.out _ B5.out).mono ?_
  rintro e w6 ⟨rfl, hb6⟩
  have B6 := Lib.hid (nextC B5.out hb6)
  have K6 := Lib.hid (K5.out.over hb6)
  clear hb6 kd5
  go_wp2_with fail
  go_ret
  exact ⟨rfl, B6.out⟩
set_option maxHeartbeats 2000000 in
theorem walk_ok (v : Value) (k : Nat) (off on : List Int) (n : Int) (w : World) (h : CalAt w v k off on) (h1 : off.length ≤ 150) (h2 : on.length ≤ 150) (hm : mayC k off on = true) (hn0 : 0 ≤ n) (hn1 : n < 157054) :
    Calls Try.prog 5 #[v, .int .i64 n] w fun e w' => e = .returned (.bool true) ∧ Below w.heap.size w w' := by
  have CM := Lib.hid (fun W (hW : Below w.heap.size w W) => mayCal_any v k off on W (h.over hW))
  have CO := Lib.hid (fun W (hW : Below w.heap.size w W) => ofC_any v k off on W (h.over hW))
  have CR := Lib.hid (fun W (hW : Below w.heap.size w W) => refCMay_any v k off on W (h.over hW))
  have CW := Lib.hid (fun W (hW : Below w.heap.size w W) => worksF_any v k off on n W (h.over hW))
  have CV := Lib.hid (fun W (hW : Below w.heap.size w W) => refWorks_any v k off on n W (h.over hW))
  have hin : inB n = true := inB_iff.2 ⟨hn0, hn1⟩
  have CN := Lib.hid (fun W (hW : Below w.heap.size w W) => next_ok v k off on n W (h.over hW) hm hin)
  have CL := Lib.hid (fun W (hW : Below w.heap.size w W) => last_ok v k off on n W (h.over hW) hm hin)
  obtain ⟨x, hx⟩ := near_there k off on n 1 hin (.inl rfl)
  obtain ⟨y, hy⟩ := near_there k off on n (-1) hin (.inr rfl)
  have CX := Lib.hid (fun W (hW : Below w.heap.size w W) => near_det v k off on n 1 x W (by omega) (by omega) (.inl rfl) (h.over hW) hm hx)
  have CY := Lib.hid (fun W (hW : Below w.heap.size w W) => near_det v k off on n (-1) y W (by omega) (by omega) (.inr rfl) (h.over hW) hm hy)
  have HX := Lib.hid hx
  have HY := Lib.hid hy
  rw [hm] at CM CR CW CV
  have d1 : decide (n < 0) = false := decide_eq_false (by omega)
  have d2 : decide (157054 ≤ n) = false := decide_eq_false (by omega)
  have l1 : decide ((150 : Int) < (off.length : Int)) = false := decide_eq_false (by omega)
  have l2 : decide ((150 : Int) < (on.length : Int)) = false := decide_eq_false (by omega)
  have l3 : decide (150 < off.length) = false := decide_eq_false (by omega)
  have l4 : decide (150 < on.length) = false := decide_eq_false (by omega)
  clear hm hin hx hy
  obtain ⟨A, cA, B, cB, hv, ha, hb⟩ := h.ex
  clear h ha hb
  subst hv
  have KN := Lib.hid known_any
  obtain ⟨WB, hWB⟩ : ∃ WB, w.alloc (.cells #[.int .u8 k, .slice A off.length cA, .slice B on.length cB] 24) = WB := ⟨_, rfl⟩
  have K := Lib.hid (show Row WB w.heap.size 24 #[.int .u8 k, .slice A off.length cA, .slice B on.length cB] by rw [← hWB]; exact Row.new _ _ _)
  have Q0 := Lib.hid (show Below w.heap.size w WB by rw [← hWB]; exact nextB (Below.refl _ _))
  have HW := Lib.hid hWB
  clear hWB
  go_enter Try.func5, Try.ntmps5
  go_upto_region 1 with fail
  rw [HW.out]
  go_wp2_with fail
  refine (KN.out _).mono ?_
  rintro e w1 ⟨rfl, hb1⟩
  have B1 := Lib.hid (nextC Q0.out hb1)
  have kd1 := fun o => (K.out.over hb1).cell o
  have K1 := Lib.hid (K.out.over hb1)
  clear hb1
  go_wp2_with fail
  refine (CN.out _ B1.out).mono ?_
  rintro e w2 ⟨⟨ra, ea, rfl, hra⟩, hb2⟩
  have HRA := Lib.hid hra
  clear hra
  have B2 := Lib.hid (nextC B1.out hb2)
  have K2 := Lib.hid (K1.out.over hb2)
  have kd2 := fun o => K2.out.cell o
  clear hb2 kd1
  go_wp2_with fail
  refine (CL.out _ B2.out).mono ?_
  rintro e w3 ⟨⟨rb, eb, rfl, hrb⟩, hb3⟩
  have HRB := Lib.hid hrb
  clear hrb
  have B3 := Lib.hid (nextC B2.out hb3)
  have K3 := Lib.hid (K2.out.over hb3)
  clear hb3 kd2
  go_wp2_with fail
  obtain ⟨TT, F, hTT, hF, hG⟩ := class_of (fun v => Row v w.heap.size 24 #[.int .u8 k, .slice A off.length cA, .slice B on.length cB] ∧ Below w.heap.size w v) w3.drew ⟨K3.out.drew, below_drewN B3.out 1⟩
  have q1 := fun n o => (hF n).1.cell o
  have QC := Lib.hid (hG _ ⟨K3.out.drew, below_drewN B3.out 1⟩)
  have D1 := Lib.hid (clsC hF hG CM.out)
  have D2 := Lib.hid (clsC hF hG CO.out)
  have D3 := Lib.hid (clsC hF hG CR.out)
  have D4 := Lib.hid (clsC hF hG CW.out)
  have D5 := Lib.hid (clsC hF hG CV.out)
  have HF := Lib.hid hF
  clear hF hG
  refine wp_region_class F (by kernel_rfl) (by kernel_rfl) QC.out ?_
  repeat (go_big_quiet_step ((first | (go_at_call 19; with_reducible exact D1.out _) | (go_at_call 11; with_reducible exact D2.out _) | (go_at_call 10; with_reducible exact D3.out _) | (go_at_call 20; with_reducible exact D4.out _) | (go_at_call 13; with_reducible exact D5.out _))))
  refine wpQuiet_nil ?_
  rintro _ ⟨nq, rfl⟩
  clear q1 D1 D2 D3 D4 D5
  have q3 := fun o => (HF.out nq).1.cell o
  have B4 := Lib.hid (HF.out nq).2
  have K4 := Lib.hid (HF.out nq).1
  go_wp2_with fail
  refine (CO.out _ B4.out).mono ?_
  rintro e w5 ⟨rfl, hb5⟩
  have B5 := Lib.hid (nextC B4.out hb5)
  have K5 := Lib.hid (K4.out.over hb5)
  have kd5 := fun o => K5.out.cell o
  clear hb5 q3
  go_wp2_with fail
  refine (CR.out _ B5.out).mono ?_
  rintro e w6 ⟨rfl, hb6⟩
  have B6 := Lib.hid (nextC B5.out hb6)
  have K6 := Lib.hid (K5.out.over hb6)
  clear hb6 kd5
  go_wp2_with fail
  obtain ⟨TT, F2, hTT, hF, hG⟩ := class_of (fun v => Row v w.heap.size 24 #[.int .u8 k, .slice A off.length cA, .slice B on.length cB] ∧ Below w.heap.size w v) w6.drew ⟨K6.out.drew, below_drewN B6.out 1⟩
  have q6 := fun n o => (hF n).1.cell o
  have QC6 := Lib.hid (hG _ ⟨K6.out.drew, below_drewN B6.out 1⟩)
  have D2 := Lib.hid (clsC hF hG CO.out)
  have D6 := Lib.hid (clsC hF hG CX.out)
  have D7 := Lib.hid (clsC hF hG CY.out)
  have HF2 := Lib.hid hF
  clear hF hG
  refine wp_region_class F2 (by kernel_rfl) (by kernel_rfl) QC6.out ?_
  repeat (go_big_quiet_step ((first | (go_at_call 11; with_reducible exact D2.out _) | (go_at_call 21; first | with_reducible exact D6.out _ | with_reducible exact D7.out _))))
  refine wpQuiet_nil ?_
  rintro _ ⟨nr, rfl⟩
  clear q6 D2 D6 D7
  have B7 := Lib.hid (HF2.out nr).2
  rcases first_near HRA.out HX.out with ⟨x0, rfl, rfl⟩ | ⟨x0, rfl, rfl⟩ <;> rcases first_near HRB.out HY.out with ⟨y0, rfl, rfl⟩ | ⟨y0, rfl, rfl⟩
  · clear HRA HRB HX HY
    go_wp2_with fail
    go_ret
    exact ⟨rfl, B7.out⟩
  · have y1 : decide (0 ≤ y) = false := decide_eq_false (by omega)
    clear HRA HRB HX HY
    go_wp2_with fail
    go_ret
    exact ⟨rfl, B7.out⟩
  · have x1 : decide (0 ≤ x) = false := decide_eq_false (by omega)
    clear HRA HRB HX HY
    go_wp2_with fail
    go_ret
    exact ⟨rfl, B7.out⟩
  · have x1 : decide (0 ≤ x) = false := decide_eq_false (by omega)
    have y1 : decide (0 ≤ y) = false := decide_eq_false (by omega)
    clear HRA HRB HX HY
    go_wp2_with fail
    go_ret
    exact ⟨rfl, B7.out⟩
theorem walk (A : Option Addr) (cA : Nat) (B : Option Addr) (cB : Nat) (k : Nat) (off on : List Int) (n : Int) (w : World) (hk : k < 256) (ha : Sl w .i64 A off) (hb : Sl w .i64 B on) :
    Calls Try.prog 5 #[.agg #[.int .u8 k, .slice A off.length cA, .slice B on.length cB], .int .i64 n] w fun e w' => e = .returned (.bool true) ∧ Below w.heap.size w w' := by
  by_cases hh : 150 < off.length ∨ 150 < on.length
  · exact walk_heavy _ k off on n w A cA B cB rfl hh
  · have h : CalAt w (.agg #[.int .u8 k, .slice A off.length cA, .slice B on.length cB]) k off on := ⟨⟨A, cA, B, cB, rfl, ha, hb⟩, hk, by omega, by omega⟩
    cases hm : mayC k off on
    · exact walk_nocal _ k off on n w h (by omega) (by omega) hm
    · by_cases h0 : n < 0
      · exact walk_low _ k off on n w h (by omega) (by omega) hm h0
      · by_cases h1 : 157054 ≤ n
        · exact walk_high _ k off on n w h (by omega) (by omega) hm h1
        · exact walk_ok _ k off on n w h (by omega) (by omega) hm (by omega) (by omega)

theorem opened (H : Type) (enc : TypeId × Value → H) (W : World) (base : Nat) (args : Array Value) (ds gs : List (DataW H)) (before : List MemPlace)
    (hval : ∀ (j : Nat) t v, Try.f5.params[j]? = some t → args[j]? = some v → Value.okWide Try.prog W .any base t v)
    (hW : DataW.Whole enc Try.prog Try.f5.params.toList Rows.calendarDaysSpec.vars false W args.toList ds gs before) :
    Calls Try.prog 5 args W fun e w' => e = .returned (.bool true) ∧ Below W.heap.size W w' := by
  obtain ⟨p, q, hA, hV, rfl, hfz, hnd⟩ := hW
  rw [Try.params5] at hA hval
  obtain ⟨v0, vs0, d0, ds0, p0, q0, hargs, rfl, rfl, h0, r0⟩ := trodAll_cons hA
  obtain ⟨v1, vs1, d1, ds1, p1, q1, rfl, rfl, rfl, h1, r1⟩ := trodAll_cons r0
  obtain ⟨rfl, rfl, rfl⟩ := trodAll_nil r1
  obtain rfl : args = #[v0, v1] := by cases args; simp_all
  obtain ⟨k, A, cA, off, B, cB, on, rfl, hk, s0, s1, w0, w1⟩ := open_cal (hval 0 24 v0 rfl rfl) h0
  obtain ⟨x, rfl, _, _, w2⟩ := open_int Try.underlying3 (hval 1 3 v1 rfl rfl) h1
  exact walk A cA B cB k off on x W hk s0 s1

set_option maxRecDepth 100000 in
theorem lifted (os : Os) (started : os.Started) (H : Type) (enc : TypeId × Value → H) :
    ReturnsInHanded {} Try.checked os 5 .any (Rows.calendarDaysSpec.pre6 enc Try.prog Try.f5 Rows.calendarDaysRow.domain false) (Rows.calendarDaysSpec.post enc Try.prog Try.f5 false true false false) := by
  refine returnsInHanded_of_change (C := Try.checked) own started (by kernel_rfl) Try.func5
    (ChangeSpec.witness6 (enc := enc) (C := Try.checked) false ⟨#[], #[.agg #[.int .u8 0, .slice none 0 0, .slice none 0 0], .int .i64 0], []⟩ 8 (by kernel_rfl) (by kernel_rfl) (by kernel_rfl) (by kernel_rfl)) ?_
  intro W base args ds gs before hval hW hcnd hh
  refine (opened H enc W base args ds gs before hval hW).mono fun e W' ⟨he, hg⟩ => ?_
  subst he
  exact ⟨_, rfl, law_post hW rfl laidOut (by kernel_rfl) rfl Try.underlying4 (fun l hl => by match l, hl with | [d0, d1], _ => rfl) hg⟩

theorem over : Rows.calendarDaysRow.holds Try.pinned (OpenSpec.ofChange Rows.calendarDaysSpec) :=
  OpenClaim.holds_of_wide 5 Try.f5 rfl rfl rfl rfl rfl rfl rfl ⟨rfl, rfl, rfl, rfl, rfl⟩ rfl rfl rfl rfl rfl (by kernel_rfl) Try.func5 (by kernel_rfl)
    (of_decide_eq_true (by kernel_rfl)) (by unfold Func.isWrapper; first | (rw [if_pos (by decide +kernel)]; kernel_rfl) | (rw [if_neg (by decide +kernel)]; exact ⟨rfl, rfl⟩))
    (fun os started H enc _ => lifted os started H enc)

/-- THE STATEMENT. -/
theorem proved : Rows.CalendarDaysSaid :=
  over
#print axioms proved
end Go.Proofs.Ythigmjjafilbcaa.calendarDays
