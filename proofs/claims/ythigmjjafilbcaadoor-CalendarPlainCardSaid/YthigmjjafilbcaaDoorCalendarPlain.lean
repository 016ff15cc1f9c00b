/- CalendarPlain. -/
import Derived.Test.YthigmjjafilbcaaDoorCbQ
import Derived.Test.YthigmjjafilbcaaDoorMd
import Derived.Test.YthigmjjafilbcaaDoorMvTie
import Derived.Test.YthigmjjafilbcaaDoorMb
import Derived.Deep.CutBlock
namespace Go.Proofs.YthigmjjafilbcaaDoor.calendarPlain
open Go.ChangeShapes Go.WideShapes Go.ChangeAt Go.RowKit
set_option linter.unusedVariables false
set_option maxRecDepth 100000

theorem heavy_raw (A : Option Addr) (cA : Nat) (B : Option Addr) (cB : Nat) (k : Nat) (off on : List Int) (w : World) (hh : 30 < off.length ∨ 30 < on.length) :
    Calls Tryd.prog 6 #[.agg #[.int .u8 k, .slice A off.length cA, .slice B on.length cB]] w fun e w' => e = .returned (.bool true) ∧ Below w.heap.size w w' := by
  obtain ⟨WB, hWB⟩ : ∃ WB, w.alloc (.cells #[.int .u8 k, .slice A off.length cA, .slice B on.length cB] 24) = WB := ⟨_, rfl⟩
  have K := Lib.hid (show Row WB w.heap.size _ _ by rw [← hWB]; exact Row.new _ _ _)
  have Q0 := Lib.hid (show Below w.heap.size w WB by rw [← hWB]; exact nextB (Below.refl _ _))
  have HW := Lib.hid hWB
  clear hWB
  have hh' : (30 : Int) < (off.length : Int) ∨ decide ((30 : Int) < (off.length : Int)) = false ∧ (30 : Int) < (on.length : Int) := by
    by_cases h : 30 < off.length
    · exact .inl (by omega)
    · exact .inr ⟨decide_eq_false (by omega), by omega⟩
  clear hh
  go_enter Tryd.func6, Tryd.ntmps6
  go_upto_region 1 with fail
  rw [HW.out]
  have kd0 := fun o => K.out.cell o
  rcases hh' with h1 | ⟨h1, h2⟩
  · go_wp2_with fail
    go_ret
    exact ⟨rfl, Q0.out⟩
  · have h1' : decide (30 < off.length) = false := decide_eq_false (by have := of_decide_eq_false h1; omega)
    go_wp2_with fail
    go_ret
    exact ⟨rfl, Q0.out⟩
set_option maxHeartbeats 2000000 in
theorem walk_heavy (A : Option Addr) (cA : Nat) (B : Option Addr) (cB : Nat) (k : Nat) (off on : List Int) (mode t : Int) (x : Xp) (w : World) (hh : 30 < off.length ∨ 30 < on.length) :
    Calls Tryd.prog 4 #[.agg #[.int .u8 k, .slice A off.length cA, .slice B on.length cB], .int .u8 mode, .agg #[.int .u64 x.b0, .bool x.s0, .int .u64 x.b1, .bool x.s1, .int .u64 x.b2, .bool x.s2, .int .u64 x.b3, .bool x.s3, .int .u64 x.b4, .bool x.s4], .int .i64 t] w fun e w' => e = .returned (.bool true) ∧ Below w.heap.size w w' := by
  have KN := Lib.hid known_any
  have CH := Lib.hid (fun W (h : Below w.heap.size w W) => heavy_raw A cA B cB k off on W hh)
  clear hh
  obtain ⟨WB, hWB⟩ : ∃ WB, (w.alloc (.cells #[.int .u8 k, .slice A off.length cA, .slice B on.length cB] 24)).alloc (.cells #[.int .u64 x.b0, .bool x.s0, .int .u64 x.b1, .bool x.s1, .int .u64 x.b2, .bool x.s2, .int .u64 x.b3, .bool x.s3, .int .u64 x.b4, .bool x.s4] 29) = WB := ⟨_, rfl⟩
  have T2 := two rfl hWB
  have K := Lib.hid T2.1
  have KX := Lib.hid T2.2.1
  have Q0 := Lib.hid T2.2.2.1
  have HW := Lib.hid hWB
  clear hWB T2
  go_enter Tryd.func4, Tryd.ntmps4
  go_upto_region 1 with fail
  rw [HW.out]
  go_wp2_with fail
  refine (KN.out _).mono ?_
  rintro e w1 ⟨rfl, hb1⟩
  have B1 := Lib.hid (nextC Q0.out hb1)
  have K1 := Lib.hid (K.out.over hb1)
  have X1 := Lib.hid (KX.out.over hb1)
  have kd1 := fun o => K1.out.cell o
  have kx1 := fun o => X1.out.cell o
  clear hb1
  go_wp2_with fail
  refine (CH.out _ B1.out).mono ?_
  rintro e w2 ⟨rfl, hb2⟩
  have B2 := Lib.hid (nextC B1.out hb2)
  have K2 := Lib.hid (K1.out.over hb2)
  have X2 := Lib.hid (X1.out.over hb2)
  have kd2 := fun o => K2.out.cell o
  have kx2 := fun o => X2.out.cell o
  clear hb2 kd1 kx1
  go_wp2_with fail
  go_ret
  exact ⟨rfl, B2.out⟩
set_option maxHeartbeats 4000000 in
theorem walk_nocal (A : Option Addr) (cA : Nat) (B : Option Addr) (cB : Nat) (k : Nat) (off on : List Int) (mode t : Int) (x : Xp) (hx : x.Ok) (w : World) (h : CalAt w (.agg #[.int .u8 k, .slice A off.length cA, .slice B on.length cB]) k off on) (h1 : off.length ≤ 30) (h2 : on.length ≤ 30) (hm : mayC k off on = false) :
    Calls Tryd.prog 4 #[.agg #[.int .u8 k, .slice A off.length cA, .slice B on.length cB], .int .u8 mode, .agg #[.int .u64 x.b0, .bool x.s0, .int .u64 x.b1, .bool x.s1, .int .u64 x.b2, .bool x.s2, .int .u64 x.b3, .bool x.s3, .int .u64 x.b4, .bool x.s4], .int .i64 t] w fun e w' => e = .returned (.bool true) ∧ Below w.heap.size w w' := by
  have KN := Lib.hid known_any
  have CH := Lib.hid (fun W (hW : Below w.heap.size w W) => heavy_any _ k off on W (h.over hW))
  have CO := Lib.hid (fun W (hW : Below w.heap.size w W) => ofC_any _ k off on W (h.over hW))
  have CR := Lib.hid (fun W (hW : Below w.heap.size w W) => refCMay_any _ k off on W (h.over hW))
  have CX := Lib.hid (fun W (hW : Below w.heap.size w W) => refMayX_any x hx W)
  rw [show (decide (30 < (off.length : Int)) || decide (30 < (on.length : Int))) = false by simp; omega] at CH
  dsimp only [xpV] at CX
  rw [hm] at CR
  clear h h1 h2 hm
  obtain ⟨WB, hWB⟩ : ∃ WB, (w.alloc (.cells #[.int .u8 k, .slice A off.length cA, .slice B on.length cB] 24)).alloc (.cells #[.int .u64 x.b0, .bool x.s0, .int .u64 x.b1, .bool x.s1, .int .u64 x.b2, .bool x.s2, .int .u64 x.b3, .bool x.s3, .int .u64 x.b4, .bool x.s4] 29) = WB := ⟨_, rfl⟩
  have T2 := two rfl hWB
  have K := Lib.hid T2.1
  have KX := Lib.hid T2.2.1
  have Q0 := Lib.hid T2.2.2.1
  have HW := Lib.hid hWB
  clear hWB T2
  go_enter Tryd.func4, Tryd.ntmps4
  go_upto_region 1 with fail
  rw [HW.out]
  go_wp2_with fail
  refine (KN.out _).mono ?_
  rintro e w1 ⟨rfl, hb1⟩
  have B1 := Lib.hid (nextC Q0.out hb1)
  have K1 := Lib.hid (K.out.over hb1)
  have X1 := Lib.hid (KX.out.over hb1)
  have kd1 := fun o => K1.out.cell o
  have kx1 := fun o => X1.out.cell o
  clear hb1
  go_wp2_with fail
  refine (CH.out _ B1.out).mono ?_
  rintro e w2 ⟨rfl, hb2⟩
  have B2 := Lib.hid (nextC B1.out hb2)
  have K2 := Lib.hid (K1.out.over hb2)
  have X2 := Lib.hid (X1.out.over hb2)
  have kd2 := fun o => K2.out.cell o
  have kx2 := fun o => X2.out.cell o
  clear hb2 kd1 kx1
  go_wp2_with fail
  refine (CO.out _ B2.out).mono ?_
  rintro e w3 ⟨rfl, hb3⟩
  have B3 := Lib.hid (nextC B2.out hb3)
  have K3 := Lib.hid (K2.out.over hb3)
  have X3 := Lib.hid (X2.out.over hb3)
  have kd3 := fun o => K3.out.cell o
  have kx3 := fun o => X3.out.cell o
  clear hb3 kd2 kx2
  go_wp2_with fail
  refine (CR.out _ B3.out).mono ?_
  rintro e w4 ⟨rfl, hb4⟩
  have B4 := Lib.hid (nextC B3.out hb4)
  have K4 := Lib.hid (K3.out.over hb4)
  have X4 := Lib.hid (X3.out.over hb4)
  have kd4 := fun o => K4.out.cell o
  have kx4 := fun o => X4.out.cell o
  clear hb4 kd3 kx3
  go_wp2_with fail
  go_ret
  exact ⟨rfl, B4.out⟩
set_option maxHeartbeats 4000000 in
theorem walk_noexpr (A : Option Addr) (cA : Nat) (B : Option Addr) (cB : Nat) (k : Nat) (off on : List Int) (mode t : Int) (x : Xp) (hx : x.Ok) (w : World) (h : CalAt w (.agg #[.int .u8 k, .slice A off.length cA, .slice B on.length cB]) k off on) (h1 : off.length ≤ 30) (h2 : on.length ≤ 30) (hm : mayC k off on = true) (hmx : mayX x = false) :
    Calls Tryd.prog 4 #[.agg #[.int .u8 k, .slice A off.length cA, .slice B on.length cB], .int .u8 mode, .agg #[.int .u64 x.b0, .bool x.s0, .int .u64 x.b1, .bool x.s1, .int .u64 x.b2, .bool x.s2, .int .u64 x.b3, .bool x.s3, .int .u64 x.b4, .bool x.s4], .int .i64 t] w fun e w' => e = .returned (.bool true) ∧ Below w.heap.size w w' := by
  have KN := Lib.hid known_any
  have CH := Lib.hid (fun W (hW : Below w.heap.size w W) => heavy_any _ k off on W (h.over hW))
  have CO := Lib.hid (fun W (hW : Below w.heap.size w W) => ofC_any _ k off on W (h.over hW))
  have CR := Lib.hid (fun W (hW : Below w.heap.size w W) => refCMay_any _ k off on W (h.over hW))
  have CX := Lib.hid (fun W (hW : Below w.heap.size w W) => refMayX_any x hx W)
  rw [show (decide (30 < (off.length : Int)) || decide (30 < (on.length : Int))) = false by simp; omega] at CH
  dsimp only [xpV] at CX
  rw [hm] at CR
  rw [hmx] at CX
  clear h h1 h2 hm hmx
  obtain ⟨WB, hWB⟩ : ∃ WB, (w.alloc (.cells #[.int .u8 k, .slice A off.length cA, .slice B on.length cB] 24)).alloc (.cells #[.int .u64 x.b0, .bool x.s0, .int .u64 x.b1, .bool x.s1, .int .u64 x.b2, .bool x.s2, .int .u64 x.b3, .bool x.s3, .int .u64 x.b4, .bool x.s4] 29) = WB := ⟨_, rfl⟩
  have T2 := two rfl hWB
  have K := Lib.hid T2.1
  have KX := Lib.hid T2.2.1
  have Q0 := Lib.hid T2.2.2.1
  have HW := Lib.hid hWB
  clear hWB T2
  go_enter Tryd.func4, Tryd.ntmps4
  go_upto_region 1 with fail
  rw [HW.out]
  go_wp2_with fail
  refine (KN.out _).mono ?_
  rintro e w1 ⟨rfl, hb1⟩
  have B1 := Lib.hid (nextC Q0.out hb1)
  have K1 := Lib.hid (K.out.over hb1)
  have X1 := Lib.hid (KX.out.over hb1)
  have kd1 := fun o => K1.out.cell o
  have kx1 := fun o => X1.out.cell o
  clear hb1
  go_wp2_with fail
  refine (CH.out _ B1.out).mono ?_
  rintro e w2 ⟨rfl, hb2⟩
  have B2 := Lib.hid (nextC B1.out hb2)
  have K2 := Lib.hid (K1.out.over hb2)
  have X2 := Lib.hid (X1.out.over hb2)
  have kd2 := fun o => K2.out.cell o
  have kx2 := fun o => X2.out.cell o
  clear hb2 kd1 kx1
  go_wp2_with fail
  refine (CO.out _ B2.out).mono ?_
  rintro e w3 ⟨rfl, hb3⟩
  have B3 := Lib.hid (nextC B2.out hb3)
  have K3 := Lib.hid (K2.out.over hb3)
  have X3 := Lib.hid (X2.out.over hb3)
  have kd3 := fun o => K3.out.cell o
  have kx3 := fun o => X3.out.cell o
  clear hb3 kd2 kx2
  go_wp2_with fail
  refine (CR.out _ B3.out).mono ?_
  rintro e w4 ⟨rfl, hb4⟩
  have B4 := Lib.hid (nextC B3.out hb4)
  have K4 := Lib.hid (K3.out.over hb4)
  have X4 := Lib.hid (X3.out.over hb4)
  have kd4 := fun o => K4.out.cell o
  have kx4 := fun o => X4.out.cell o
  clear hb4 kd3 kx3
  go_wp2_with fail
  refine (CX.out _ B4.out).mono ?_
  rintro e w5 ⟨rfl, hb5⟩
  have B5 := Lib.hid (nextC B4.out hb5)
  have K5 := Lib.hid (K4.out.over hb5)
  have X5 := Lib.hid (X4.out.over hb5)
  have kd5 := fun o => K5.out.cell o
  have kx5 := fun o => X5.out.cell o
  clear hb5 kd4 kx4
  go_wp2_with fail
  go_ret
  exact ⟨rfl, B5.out⟩
set_option maxHeartbeats 4000000 in
theorem walk_low (A : Option Addr) (cA : Nat) (B : Option Addr) (cB : Nat) (k : Nat) (off on : List Int) (mode t : Int) (x : Xp) (hx : x.Ok) (w : World) (h : CalAt w (.agg #[.int .u8 k, .slice A off.length cA, .slice B on.length cB]) k off on) (h1 : off.length ≤ 30) (h2 : on.length ≤ 30) (hm : mayC k off on = true) (hmx : mayX x = true) (hmo : mode < 1) :
    Calls Tryd.prog 4 #[.agg #[.int .u8 k, .slice A off.length cA, .slice B on.length cB], .int .u8 mode, .agg #[.int .u64 x.b0, .bool x.s0, .int .u64 x.b1, .bool x.s1, .int .u64 x.b2, .bool x.s2, .int .u64 x.b3, .bool x.s3, .int .u64 x.b4, .bool x.s4], .int .i64 t] w fun e w' => e = .returned (.bool true) ∧ Below w.heap.size w w' := by
  have KN := Lib.hid known_any
  have CH := Lib.hid (fun W (hW : Below w.heap.size w W) => heavy_any _ k off on W (h.over hW))
  have CO := Lib.hid (fun W (hW : Below w.heap.size w W) => ofC_any _ k off on W (h.over hW))
  have CR := Lib.hid (fun W (hW : Below w.heap.size w W) => refCMay_any _ k off on W (h.over hW))
  have CX := Lib.hid (fun W (hW : Below w.heap.size w W) => refMayX_any x hx W)
  rw [show (decide (30 < (off.length : Int)) || decide (30 < (on.length : Int))) = false by simp; omega] at CH
  dsimp only [xpV] at CX
  rw [hm] at CR
  rw [hmx] at CX
  clear h h1 h2 hm hmx
  obtain ⟨WB, hWB⟩ : ∃ WB, (w.alloc (.cells #[.int .u8 k, .slice A off.length cA, .slice B on.length cB] 24)).alloc (.cells #[.int .u64 x.b0, .bool x.s0, .int .u64 x.b1, .bool x.s1, .int .u64 x.b2, .bool x.s2, .int .u64 x.b3, .bool x.s3, .int .u64 x.b4, .bool x.s4] 29) = WB := ⟨_, rfl⟩
  have T2 := two rfl hWB
  have K := Lib.hid T2.1
  have KX := Lib.hid T2.2.1
  have Q0 := Lib.hid T2.2.2.1
  have HW := Lib.hid hWB
  clear hWB T2
  go_enter Tryd.func4, Tryd.ntmps4
  go_upto_region 1 with fail
  rw [HW.out]
  go_wp2_with fail
  refine (KN.out _).mono ?_
  rintro e w1 ⟨rfl, hb1⟩
  have B1 := Lib.hid (nextC Q0.out hb1)
  have K1 := Lib.hid (K.out.over hb1)
  have X1 := Lib.hid (KX.out.over hb1)
  have kd1 := fun o => K1.out.cell o
  have kx1 := fun o => X1.out.cell o
  clear hb1
  go_wp2_with fail
  refine (CH.out _ B1.out).mono ?_
  rintro e w2 ⟨rfl, hb2⟩
  have B2 := Lib.hid (nextC B1.out hb2)
  have K2 := Lib.hid (K1.out.over hb2)
  have X2 := Lib.hid (X1.out.over hb2)
  have kd2 := fun o => K2.out.cell o
  have kx2 := fun o => X2.out.cell o
  clear hb2 kd1 kx1
  go_wp2_with fail
  refine (CO.out _ B2.out).mono ?_
  rintro e w3 ⟨rfl, hb3⟩
  have B3 := Lib.hid (nextC B2.out hb3)
  have K3 := Lib.hid (K2.out.over hb3)
  have X3 := Lib.hid (X2.out.over hb3)
  have kd3 := fun o => K3.out.cell o
  have kx3 := fun o => X3.out.cell o
  clear hb3 kd2 kx2
  go_wp2_with fail
  refine (CR.out _ B3.out).mono ?_
  rintro e w4 ⟨rfl, hb4⟩
  have B4 := Lib.hid (nextC B3.out hb4)
  have K4 := Lib.hid (K3.out.over hb4)
  have X4 := Lib.hid (X3.out.over hb4)
  have kd4 := fun o => K4.out.cell o
  have kx4 := fun o => X4.out.cell o
  clear hb4 kd3 kx3
  go_wp2_with fail
  refine (CX.out _ B4.out).mono ?_
  rintro e w5 ⟨rfl, hb5⟩
  have B5 := Lib.hid (nextC B4.out hb5)
  have K5 := Lib.hid (K4.out.over hb5)
  have X5 := Lib.hid (X4.out.over hb5)
  have kd5 := fun o => K5.out.cell o
  have kx5 := fun o => X5.out.cell o
  clear hb5 kd4 kx4
  go_wp2_with fail
  go_ret
  exact ⟨rfl, B5.out⟩
set_option maxHeartbeats 4000000 in
theorem walk_high (A : Option Addr) (cA : Nat) (B : Option Addr) (cB : Nat) (k : Nat) (off on : List Int) (mode t : Int) (x : Xp) (hx : x.Ok) (w : World) (h : CalAt w (.agg #[.int .u8 k, .slice A off.length cA, .slice B on.length cB]) k off on) (h1 : off.length ≤ 30) (h2 : on.length ≤ 30) (hm : mayC k off on = true) (hmx : mayX x = true) (hmo : 3 < mode) :
    Calls Tryd.prog 4 #[.agg #[.int .u8 k, .slice A off.length cA, .slice B on.length cB], .int .u8 mode, .agg #[.int .u64 x.b0, .bool x.s0, .int .u64 x.b1, .bool x.s1, .int .u64 x.b2, .bool x.s2, .int .u64 x.b3, .bool x.s3, .int .u64 x.b4, .bool x.s4], .int .i64 t] w fun e w' => e = .returned (.bool true) ∧ Below w.heap.size w w' := by
  have KN := Lib.hid known_any
  have CH := Lib.hid (fun W (hW : Below w.heap.size w W) => heavy_any _ k off on W (h.over hW))
  have CO := Lib.hid (fun W (hW : Below w.heap.size w W) => ofC_any _ k off on W (h.over hW))
  have CR := Lib.hid (fun W (hW : Below w.heap.size w W) => refCMay_any _ k off on W (h.over hW))
  have CX := Lib.hid (fun W (hW : Below w.heap.size w W) => refMayX_any x hx W)
  rw [show (decide (30 < (off.length : Int)) || decide (30 < (on.length : Int))) = false by simp; omega] at CH
  dsimp only [xpV] at CX
  rw [hm] at CR
  rw [hmx] at CX
  have d1 : decide (mode < 1) = false := decide_eq_false (by omega)
  clear h h1 h2 hm hmx
  obtain ⟨WB, hWB⟩ : ∃ WB, (w.alloc (.cells #[.int .u8 k, .slice A off.length cA, .slice B on.length cB] 24)).alloc (.cells #[.int .u64 x.b0, .bool x.s0, .int .u64 x.b1, .bool x.s1, .int .u64 x.b2, .bool x.s2, .int .u64 x.b3, .bool x.s3, .int .u64 x.b4, .bool x.s4] 29) = WB := ⟨_, rfl⟩
  have T2 := two rfl hWB
  have K := Lib.hid T2.1
  have KX := Lib.hid T2.2.1
  have Q0 := Lib.hid T2.2.2.1
  have HW := Lib.hid hWB
  clear hWB T2
  go_enter Tryd.func4, Tryd.ntmps4
  go_upto_region 1 with fail
  rw [HW.out]
  go_wp2_with fail
  refine (KN.out _).mono ?_
  rintro e w1 ⟨rfl, hb1⟩
  have B1 := Lib.hid (nextC Q0.out hb1)
  have K1 := Lib.hid (K.out.over hb1)
  have X1 := Lib.hid (KX.out.over hb1)
  have kd1 := fun o => K1.out.cell o
  have kx1 := fun o => X1.out.cell o
  clear hb1
  go_wp2_with fail
  refine (CH.out _ B1.out).mono ?_
  rintro e w2 ⟨rfl, hb2⟩
  have B2 := Lib.hid (nextC B1.out hb2)
  have K2 := Lib.hid (K1.out.over hb2)
  have X2 := Lib.hid (X1.out.over hb2)
  have kd2 := fun o => K2.out.cell o
  have kx2 := fun o => X2.out.cell o
  clear hb2 kd1 kx1
  go_wp2_with fail
  refine (CO.out _ B2.out).mono ?_
  rintro e w3 ⟨rfl, hb3⟩
  have B3 := Lib.hid (nextC B2.out hb3)
  have K3 := Lib.hid (K2.out.over hb3)
  have X3 := Lib.hid (X2.out.over hb3)
  have kd3 := fun o => K3.out.cell o
  have kx3 := fun o => X3.out.cell o
  clear hb3 kd2 kx2
  go_wp2_with fail
  refine (CR.out _ B3.out).mono ?_
  rintro e w4 ⟨rfl, hb4⟩
  have B4 := Lib.hid (nextC B3.out hb4)
  have K4 := Lib.hid (K3.out.over hb4)
  have X4 := Lib.hid (X3.out.over hb4)
  have kd4 := fun o => K4.out.cell o
  have kx4 := fun o => X4.out.cell o
  clear hb4 kd3 kx3
  go_wp2_with fail
  refine (CX.out _ B4.out).mono ?_
  rintro e w5 ⟨rfl, hb5⟩
  have B5 := Lib.hid (nextC B4.out hb5)
  have K5 := Lib.hid (K4.out.over hb5)
  have X5 := Lib.hid (X4.out.over hb5)
  have kd5 := fun o => K5.out.cell o
  have kx5 := fun o => X5.out.cell o
  clear hb5 kd4 kx4
  go_wp2_with fail
  go_ret
  exact ⟨rfl, B5.out⟩
set_option maxHeartbeats 4000000 in
theorem walk_early (A : Option Addr) (cA : Nat) (B : Option Addr) (cB : Nat) (k : Nat) (off on : List Int) (mode t : Int) (x : Xp) (hx : x.Ok) (w : World) (h : CalAt w (.agg #[.int .u8 k, .slice A off.length cA, .slice B on.length cB]) k off on) (h1 : off.length ≤ 30) (h2 : on.length ≤ 30) (hm : mayC k off on = true) (hmx : mayX x = true) (hmode : 1 ≤ mode ∧ mode ≤ 3) (ht : t < 0) :
    Calls Tryd.prog 4 #[.agg #[.int .u8 k, .slice A off.length cA, .slice B on.length cB], .int .u8 mode, .agg #[.int .u64 x.b0, .bool x.s0, .int .u64 x.b1, .bool x.s1, .int .u64 x.b2, .bool x.s2, .int .u64 x.b3, .bool x.s3, .int .u64 x.b4, .bool x.s4], .int .i64 t] w fun e w' => e = .returned (.bool true) ∧ Below w.heap.size w w' := by
  have KN := Lib.hid known_any
  have CH := Lib.hid (fun W (hW : Below w.heap.size w W) => heavy_any _ k off on W (h.over hW))
  have CO := Lib.hid (fun W (hW : Below w.heap.size w W) => ofC_any _ k off on W (h.over hW))
  have CR := Lib.hid (fun W (hW : Below w.heap.size w W) => refCMay_any _ k off on W (h.over hW))
  have CX := Lib.hid (fun W (hW : Below w.heap.size w W) => refMayX_any x hx W)
  rw [show (decide (30 < (off.length : Int)) || decide (30 < (on.length : Int))) = false by simp; omega] at CH
  dsimp only [xpV] at CX
  rw [hm] at CR
  rw [hmx] at CX
  have d1 : decide (mode < 1) = false := decide_eq_false (by omega)
  have d2 : decide (3 < mode) = false := decide_eq_false (by omega)
  clear h h1 h2 hm hmx
  obtain ⟨WB, hWB⟩ : ∃ WB, (w.alloc (.cells #[.int .u8 k, .slice A off.length cA, .slice B on.length cB] 24)).alloc (.cells #[.int .u64 x.b0, .bool x.s0, .int .u64 x.b1, .bool x.s1, .int .u64 x.b2, .bool x.s2, .int .u64 x.b3, .bool x.s3, .int .u64 x.b4, .bool x.s4] 29) = WB := ⟨_, rfl⟩
  have T2 := two rfl hWB
  have K := Lib.hid T2.1
  have KX := Lib.hid T2.2.1
  have Q0 := Lib.hid T2.2.2.1
  have HW := Lib.hid hWB
  clear hWB T2
  go_enter Tryd.func4, Tryd.ntmps4
  go_upto_region 1 with fail
  rw [HW.out]
  go_wp2_with fail
  refine (KN.out _).mono ?_
  rintro e w1 ⟨rfl, hb1⟩
  have B1 := Lib.hid (nextC Q0.out hb1)
  have K1 := Lib.hid (K.out.over hb1)
  have X1 := Lib.hid (KX.out.over hb1)
  have kd1 := fun o => K1.out.cell o
  have kx1 := fun o => X1.out.cell o
  clear hb1
  go_wp2_with fail
  refine (CH.out _ B1.out).mono ?_
  rintro e w2 ⟨rfl, hb2⟩
  have B2 := Lib.hid (nextC B1.out hb2)
  have K2 := Lib.hid (K1.out.over hb2)
  have X2 := Lib.hid (X1.out.over hb2)
  have kd2 := fun o => K2.out.cell o
  have kx2 := fun o => X2.out.cell o
  clear hb2 kd1 kx1
  go_wp2_with fail
  refine (CO.out _ B2.out).mono ?_
  rintro e w3 ⟨rfl, hb3⟩
  have B3 := Lib.hid (nextC B2.out hb3)
  have K3 := Lib.hid (K2.out.over hb3)
  have X3 := Lib.hid (X2.out.over hb3)
  have kd3 := fun o => K3.out.cell o
  have kx3 := fun o => X3.out.cell o
  clear hb3 kd2 kx2
  go_wp2_with fail
  refine (CR.out _ B3.out).mono ?_
  rintro e w4 ⟨rfl, hb4⟩
  have B4 := Lib.hid (nextC B3.out hb4)
  have K4 := Lib.hid (K3.out.over hb4)
  have X4 := Lib.hid (X3.out.over hb4)
  have kd4 := fun o => K4.out.cell o
  have kx4 := fun o => X4.out.cell o
  clear hb4 kd3 kx3
  go_wp2_with fail
  refine (CX.out _ B4.out).mono ?_
  rintro e w5 ⟨rfl, hb5⟩
  have B5 := Lib.hid (nextC B4.out hb5)
  have K5 := Lib.hid (K4.out.over hb5)
  have X5 := Lib.hid (X4.out.over hb5)
  have kd5 := fun o => K5.out.cell o
  have kx5 := fun o => X5.out.cell o
  clear hb5 kd4 kx4
  go_wp2_with fail
  go_ret
  exact ⟨rfl, B5.out⟩
set_option maxHeartbeats 4000000 in
theorem walk_late (A : Option Addr) (cA : Nat) (B : Option Addr) (cB : Nat) (k : Nat) (off on : List Int) (mode t : Int) (x : Xp) (hx : x.Ok) (w : World) (h : CalAt w (.agg #[.int .u8 k, .slice A off.length cA, .slice B on.length cB]) k off on) (h1 : off.length ≤ 30) (h2 : on.length ≤ 30) (hm : mayC k off on = true) (hmx : mayX x = true) (hmode : 1 ≤ mode ∧ mode ≤ 3) (ht : 13569465600 ≤ t) :
    Calls Tryd.prog 4 #[.agg #[.int .u8 k, .slice A off.length cA, .slice B on.length cB], .int .u8 mode, .agg #[.int .u64 x.b0, .bool x.s0, .int .u64 x.b1, .bool x.s1, .int .u64 x.b2, .bool x.s2, .int .u64 x.b3, .bool x.s3, .int .u64 x.b4, .bool x.s4], .int .i64 t] w fun e w' => e = .returned (.bool true) ∧ Below w.heap.size w w' := by
  have KN := Lib.hid known_any
  have CH := Lib.hid (fun W (hW : Below w.heap.size w W) => heavy_any _ k off on W (h.over hW))
  have CO := Lib.hid (fun W (hW : Below w.heap.size w W) => ofC_any _ k off on W (h.over hW))
  have CR := Lib.hid (fun W (hW : Below w.heap.size w W) => refCMay_any _ k off on W (h.over hW))
  have CX := Lib.hid (fun W (hW : Below w.heap.size w W) => refMayX_any x hx W)
  rw [show (decide (30 < (off.length : Int)) || decide (30 < (on.length : Int))) = false by simp; omega] at CH
  dsimp only [xpV] at CX
  rw [hm] at CR
  rw [hmx] at CX
  have d1 : decide (mode < 1) = false := decide_eq_false (by omega)
  have d2 : decide (3 < mode) = false := decide_eq_false (by omega)
  have d3 : decide (t < 0) = false := decide_eq_false (by omega)
  clear h h1 h2 hm hmx
  obtain ⟨WB, hWB⟩ : ∃ WB, (w.alloc (.cells #[.int .u8 k, .slice A off.length cA, .slice B on.length cB] 24)).alloc (.cells #[.int .u64 x.b0, .bool x.s0, .int .u64 x.b1, .bool x.s1, .int .u64 x.b2, .bool x.s2, .int .u64 x.b3, .bool x.s3, .int .u64 x.b4, .bool x.s4] 29) = WB := ⟨_, rfl⟩
  have T2 := two rfl hWB
  have K := Lib.hid T2.1
  have KX := Lib.hid T2.2.1
  have Q0 := Lib.hid T2.2.2.1
  have HW := Lib.hid hWB
  clear hWB T2
  go_enter Tryd.func4, Tryd.ntmps4
  go_upto_region 1 with fail
  rw [HW.out]
  go_wp2_with fail
  refine (KN.out _).mono ?_
  rintro e w1 ⟨rfl, hb1⟩
  have B1 := Lib.hid (nextC Q0.out hb1)
  have K1 := Lib.hid (K.out.over hb1)
  have X1 := Lib.hid (KX.out.over hb1)
  have kd1 := fun o => K1.out.cell o
  have kx1 := fun o => X1.out.cell o
  clear hb1
  go_wp2_with fail
  refine (CH.out _ B1.out).mono ?_
  rintro e w2 ⟨rfl, hb2⟩
  have B2 := Lib.hid (nextC B1.out hb2)
  have K2 := Lib.hid (K1.out.over hb2)
  have X2 := Lib.hid (X1.out.over hb2)
  have kd2 := fun o => K2.out.cell o
  have kx2 := fun o => X2.out.cell o
  clear hb2 kd1 kx1
  go_wp2_with fail
  refine (CO.out _ B2.out).mono ?_
  rintro e w3 ⟨rfl, hb3⟩
  have B3 := Lib.hid (nextC B2.out hb3)
  have K3 := Lib.hid (K2.out.over hb3)
  have X3 := Lib.hid (X2.out.over hb3)
  have kd3 := fun o => K3.out.cell o
  have kx3 := fun o => X3.out.cell o
  clear hb3 kd2 kx2
  go_wp2_with fail
  refine (CR.out _ B3.out).mono ?_
  rintro e w4 ⟨rfl, hb4⟩
  have B4 := Lib.hid (nextC B3.out hb4)
  have K4 := Lib.hid (K3.out.over hb4)
  have X4 := Lib.hid (X3.out.over hb4)
  have kd4 := fun o => K4.out.cell o
  have kx4 := fun o => X4.out.cell o
  clear hb4 kd3 kx3
  go_wp2_with fail
  refine (CX.out _ B4.out).mono ?_
  rintro e w5 ⟨rfl, hb5⟩
  have B5 := Lib.hid (nextC B4.out hb5)
  have K5 := Lib.hid (K4.out.over hb5)
  have X5 := Lib.hid (X4.out.over hb5)
  have kd5 := fun o => K5.out.cell o
  have kx5 := fun o => X5.out.cell o
  clear hb5 kd4 kx4
  go_wp2_with fail
  go_ret
  exact ⟨rfl, B5.out⟩
theorem aft_in {x : Xp} {t r e : Int} (h0 : 0 ≤ t) (h1 : t < 13569465600) (h : AftIs x t r e) : NextIs x t r e := by
  rcases h with ⟨-, -, h⟩ | ⟨h, -, -⟩
  · exact h
  · omega
set_option maxHeartbeats 4000000 in
theorem walk_ok (A : Option Addr) (cA : Nat) (B : Option Addr) (cB : Nat) (k : Nat) (off on : List Int) (mode t : Int) (x : Xp) (hx : x.Ok) (w : World) (h : CalAt w (.agg #[.int .u8 k, .slice A off.length cA, .slice B on.length cB]) k off on) (h1 : off.length ≤ 30) (h2 : on.length ≤ 30) (hm : mayC k off on = true) (hmx : mayX x = true) (hmode : 1 ≤ mode ∧ mode ≤ 3) (ht0 : 0 ≤ t) (ht1 : t < 13569465600) (hT : TabZ w) :
    Calls Tryd.prog 4 #[.agg #[.int .u8 k, .slice A off.length cA, .slice B on.length cB], .int .u8 mode, .agg #[.int .u64 x.b0, .bool x.s0, .int .u64 x.b1, .bool x.s1, .int .u64 x.b2, .bool x.s2, .int .u64 x.b3, .bool x.s3, .int .u64 x.b4, .bool x.s4], .int .i64 t] w fun e w' => e = .returned (.bool true) ∧ Below w.heap.size w w' := by
  have KN := Lib.hid known_any
  have CH := Lib.hid (fun W (hW : Below w.heap.size w W) => heavy_any _ k off on W (h.over hW))
  have CO := Lib.hid (fun W (hW : Below w.heap.size w W) => ofC_any _ k off on W (h.over hW))
  have CR := Lib.hid (fun W (hW : Below w.heap.size w W) => refCMay_any _ k off on W (h.over hW))
  have CX := Lib.hid (fun W (hW : Below w.heap.size w W) => refMayX_any x hx W)
  rw [show (decide (30 < (off.length : Int)) || decide (30 < (on.length : Int))) = false by simp; omega] at CH
  dsimp only [xpV] at CX
  have d1 : decide (mode < 1) = false := decide_eq_false (by omega)
  have d2 : decide (3 < mode) = false := decide_eq_false (by omega)
  have d3 : decide (t < 0) = false := decide_eq_false (by omega)
  have d4 : decide (13569465600 ≤ t) = false := decide_eq_false (by omega)
  rw [hm] at CR
  rw [hmx] at CX
  have CA := Lib.hid (fun mo (hmo : 1 ≤ mo ∧ mo ≤ 3) u (h0 : 0 ≤ u) (h1 : u < 13569465600) W (hW : Below w.heap.size w W) => after_ok _ k off on mo x hx u W (h.over hW) hm hmo hmx h0 h1)
  have CE := Lib.hid (fun W (hW : Below w.heap.size w W) => after_ok (cV 0) 0 [] [] mode x hx t W (calNone 0 (by decide) W) (by decide) hmode hmx ht0 ht1)
  have CN := Lib.hid (fun u W (hW : Below w.heap.size w W) => nafter_any x hx u hmx W (hT.over hW))
  have CL := Lib.hid (fun u (h0 : 0 ≤ u) (h1 : u < 13569465600) W (hW : Below w.heap.size w W) => nlast_any x hx u h0 h1 hmx W)
  have CW := Lib.hid (fun n W (hW : Below w.heap.size w W) => refWorks_any _ k off on n W (h.over hW))
  rw [hm] at CW
  dsimp only [xpV, cV] at CA CE CN CL
  clear h h1 h2 hm hmx hx hT
  obtain ⟨WB, hWB⟩ : ∃ WB, (w.alloc (.cells #[.int .u8 k, .slice A off.length cA, .slice B on.length cB] 24)).alloc (.cells #[.int .u64 x.b0, .bool x.s0, .int .u64 x.b1, .bool x.s1, .int .u64 x.b2, .bool x.s2, .int .u64 x.b3, .bool x.s3, .int .u64 x.b4, .bool x.s4] 29) = WB := ⟨_, rfl⟩
  have T2 := two rfl hWB
  have K := Lib.hid T2.1
  have KX := Lib.hid T2.2.1
  have Q0 := Lib.hid T2.2.2.1
  have HW := Lib.hid hWB
  clear hWB T2
  go_enter Tryd.func4, Tryd.ntmps4
  go_upto_region 1 with fail
  rw [HW.out]
  go_wp2_with fail
  refine (KN.out _).mono ?_
  rintro e w1 ⟨rfl, hb1⟩
  have B1 := Lib.hid (nextC Q0.out hb1)
  have K1 := Lib.hid (K.out.over hb1)
  have X1 := Lib.hid (KX.out.over hb1)
  have kd1 := fun o => K1.out.cell o
  have kx1 := fun o => X1.out.cell o
  clear hb1
  go_wp2_with fail
  refine (CH.out _ B1.out).mono ?_
  rintro e w2 ⟨rfl, hb2⟩
  have B2 := Lib.hid (nextC B1.out hb2)
  have K2 := Lib.hid (K1.out.over hb2)
  have X2 := Lib.hid (X1.out.over hb2)
  have kd2 := fun o => K2.out.cell o
  have kx2 := fun o => X2.out.cell o
  clear hb2 kd1 kx1
  go_wp2_with fail
  refine (CO.out _ B2.out).mono ?_
  rintro e w3 ⟨rfl, hb3⟩
  have B3 := Lib.hid (nextC B2.out hb3)
  have K3 := Lib.hid (K2.out.over hb3)
  have X3 := Lib.hid (X2.out.over hb3)
  have kd3 := fun o => K3.out.cell o
  have kx3 := fun o => X3.out.cell o
  clear hb3 kd2 kx2
  go_wp2_with fail
  refine (CR.out _ B3.out).mono ?_
  rintro e w4 ⟨rfl, hb4⟩
  have B4 := Lib.hid (nextC B3.out hb4)
  have K4 := Lib.hid (K3.out.over hb4)
  have X4 := Lib.hid (X3.out.over hb4)
  have kd4 := fun o => K4.out.cell o
  have kx4 := fun o => X4.out.cell o
  clear hb4 kd3 kx3
  go_wp2_with fail
  refine (CX.out _ B4.out).mono ?_
  rintro e w5 ⟨rfl, hb5⟩
  have B5 := Lib.hid (nextC B4.out hb5)
  have K5 := Lib.hid (K4.out.over hb5)
  have X5 := Lib.hid (X4.out.over hb5)
  have kd5 := fun o => K5.out.cell o
  have kx5 := fun o => X5.out.cell o
  clear hb5 kd4 kx4
  go_upto_block 0 with fail
  go_cut [9, 10, 11] (fun a b c wx => Row wx w.heap.size 24 #[.int .u8 k, .slice A off.length cA, .slice B on.length cB] ∧ Row wx (w.heap.size + 1) 29 #[.int .u64 x.b0, .bool x.s0, .int .u64 x.b1, .bool x.s1, .int .u64 x.b2, .bool x.s2, .int .u64 x.b3, .bool x.s3, .int .u64 x.b4, .bool x.s4] ∧ Below w.heap.size w wx)
  case first =>
    as_aux_lemma =>
      clear kd5 kx5
      go_wp2_with fail
      go_loopw [55, 9] (fun a b wr => ∃ i at_ : Int, a = .int .i64 i ∧ b = .int .i64 at_ ∧ 0 ≤ i ∧ i ≤ 20 ∧ 0 ≤ at_ ∧ at_ < 13569465600 ∧ Row wr w.heap.size 24 #[.int .u8 k, .slice A off.length cA, .slice B on.length cB] ∧ Row wr (w.heap.size + 1) 29 #[.int .u64 x.b0, .bool x.s0, .int .u64 x.b1, .bool x.s1, .int .u64 x.b2, .bool x.s2, .int .u64 x.b3, .bool x.s3, .int .u64 x.b4, .bool x.s4] ∧ Below w.heap.size w wr) (fun a _ _ => (20 - intOf a).toNat)
      case atStart => exact ⟨0, t, rfl, rfl, by omega, by omega, ht0, ht1, K5.out, X5.out, B5.out⟩
      case round =>
        obtain ⟨i, at_, rfl, rfl, i0, i1, t0, t1, rk, rx, rb⟩ := hrel
        have B6 := Lib.hid rb
        have K6 := Lib.hid rk
        have X6 := Lib.hid rx
        have kd6 := fun o => K6.out.cell o
        have kx6 := fun o => X6.out.cell o
        clear rk rx rb
        by_cases hi : i < 20
        · go_wp2_with fail
          refine (CA.out mode hmode at_ t0 t1 _ B6.out).mono ?_
          rintro e w7 ⟨⟨r, er, rfl, hr⟩, hb7⟩
          have HR := Lib.hid (after_char t0 t1 hr)
          have B7 := Lib.hid (nextC B6.out hb7)
          have K7 := Lib.hid (K6.out.over hb7)
          have X7 := Lib.hid (X6.out.over hb7)
          have kd7 := fun o => K7.out.cell o
          have kx7 := fun o => X7.out.cell o
          clear hb7 hr kd6 kx6
          rcases HR.out with ⟨rfl, a1, -, a2, -, a3, -⟩ | ⟨rfl, rfl, -⟩
          · have hle : decide (r ≤ at_) = false := decide_eq_false (by omega)
            have hr0 : 0 ≤ r := by omega
            have CW1 := Lib.hid (CW.out (r / 86400))
            rw [show inB (r / 86400) = true from inB_iff.2 ⟨by omega, by omega⟩, a3.1] at CW1
            clear a3 HR
            go_wp2_with fail
            refine (CO.out _ B7.out).mono ?_
            rintro e w8 ⟨rfl, hb8⟩
            have B8 := Lib.hid (nextC B7.out hb8)
            have K8 := Lib.hid (K7.out.over hb8)
            have X8 := Lib.hid (X7.out.over hb8)
            clear hb8 kd7 kx7
            go_wp2_with fail
            refine (CW1.out _ B8.out).mono ?_
            rintro e w9 ⟨rfl, hb9⟩
            have B9 := Lib.hid (nextC B8.out hb9)
            have K9 := Lib.hid (K8.out.over hb9)
            have X9 := Lib.hid (X8.out.over hb9)
            clear hb9
            go_wp2_with fail
            go_roundw
            case rel => exact ⟨i + 1, r, by go_num, rfl, by omega, by omega, hr0, a2, K9.out, X9.out, B9.out⟩
            case measure => simp [intOf]; omega
          · clear HR
            go_wp2_with fail
            go_meet
            exact ⟨K7.out, X7.out, B7.out⟩
        · go_wp2_with fail
          go_meet
          exact ⟨K6.out, X6.out, B6.out⟩
  case rest =>
    obtain ⟨rk, rx, rb⟩ := hcut
    have B6 := Lib.hid rb
    have K6 := Lib.hid rk
    have X6 := Lib.hid rx
    have kd6 := fun o => K6.out.cell o
    have kx6 := fun o => X6.out.cell o
    clear rk rx rb kd5 kx5
    go_wp2_with fail
    refine (CA.out 1 (by decide) t ht0 ht1 _ B6.out).mono ?_
    rintro e w7 ⟨⟨r, er, rfl, hr⟩, hb7⟩
    have HS := Lib.hid hr
    clear hr
    have B7 := Lib.hid (nextC B6.out hb7)
    have K7 := Lib.hid (K6.out.over hb7)
    have X7 := Lib.hid (X6.out.over hb7)
    have kd7 := fun o => K7.out.cell o
    have kx7 := fun o => X7.out.cell o
    clear hb7 kd6 kx6
    go_wp2_with fail
    refine (CN.out t _ B7.out).mono ?_
    rintro e w8 ⟨⟨pv0, fv0, rfl, hr⟩, hb8⟩
    have HP := Lib.hid (skip_start (k := k) (off := off) (on := on) (aft_in ht0 ht1 hr))
    clear hr
    have B8 := Lib.hid (nextC B7.out hb8)
    have K8 := Lib.hid (K7.out.over hb8)
    have X8 := Lib.hid (X7.out.over hb8)
    have kd8 := fun o => K8.out.cell o
    have kx8 := fun o => X8.out.cell o
    clear hb8 kd7 kx7
    go_upto_block 2 with fail
    go_cut [14, 15] (fun p f wx => ∃ pv fv : Int, p = .int .i64 pv ∧ f = .int .i64 fv ∧ SkipInv k off on x t pv fv ∧ (fv = 5 ∨ worksC k off on (pv / 86400) = true ∨ t + 319680000 ≤ pv) ∧ Row wx w.heap.size 24 #[.int .u8 k, .slice A off.length cA, .slice B on.length cB] ∧ Row wx (w.heap.size + 1) 29 #[.int .u64 x.b0, .bool x.s0, .int .u64 x.b1, .bool x.s1, .int .u64 x.b2, .bool x.s2, .int .u64 x.b3, .bool x.s3, .int .u64 x.b4, .bool x.s4] ∧ Below w.heap.size w wx)
    case first =>
      as_aux_lemma =>
        clear kd8 kx8
        go_wp2_with fail
        go_loopg [14, 15] (13569465601 - pv0).toNat (fun gk p f wr => ∃ pv fv : Int, p = .int .i64 pv ∧ f = .int .i64 fv ∧ SkipInv k off on x t pv fv ∧ (fv = 5 ∨ (gk : Int) + pv = 13569465601) ∧ Row wr w.heap.size 24 #[.int .u8 k, .slice A off.length cA, .slice B on.length cB] ∧ Row wr (w.heap.size + 1) 29 #[.int .u64 x.b0, .bool x.s0, .int .u64 x.b1, .bool x.s1, .int .u64 x.b2, .bool x.s2, .int .u64 x.b3, .bool x.s3, .int .u64 x.b4, .bool x.s4] ∧ Below w.heap.size w wr)
        case atStart => exact ⟨pv0, fv0, rfl, rfl, HP.out, by rcases HP.out with ⟨h0, h1, h2, -⟩ | ⟨h0, -⟩ <;> omega, K8.out, X8.out, B8.out⟩
        case round =>
          obtain ⟨pv, fv, rfl, rfl, hinv, hgk, rk, rx, rb⟩ := hrel
          have B9 := Lib.hid rb
          have K9 := Lib.hid rk
          have X9 := Lib.hid rx
          have kd9 := fun o => K9.out.cell o
          have kx9 := fun o => X9.out.cell o
          clear rk rx rb
          have HI := Lib.hid hinv
          rcases hinv with ⟨rfl, p1, p2, p3, p4, p5⟩ | ⟨rfl, p1⟩
          · clear p4 p5
            have hp0 : 0 ≤ pv := by omega
            have CW1 := Lib.hid (CW.out (pv / 86400))
            rw [show inB (pv / 86400) = true from inB_iff.2 ⟨by omega, by omega⟩] at CW1
            go_wp2_with fail
            refine (CO.out _ B9.out).mono ?_
            rintro e w10 ⟨rfl, hb10⟩
            have B10 := Lib.hid (nextC B9.out hb10)
            have K10 := Lib.hid (K9.out.over hb10)
            have X10 := Lib.hid (X9.out.over hb10)
            clear hb10 kd9 kx9
            cases hw : worksC k off on (pv / 86400)
            · rw [hw] at CW1
              have HWK := Lib.hid hw
              clear hw
              go_wp2_with fail
              refine (CW1.out _ B10.out).mono ?_
              rintro e w11 ⟨rfl, hb11⟩
              have B11 := Lib.hid (nextC B10.out hb11)
              have K11 := Lib.hid (K10.out.over hb11)
              have X11 := Lib.hid (X10.out.over hb11)
              have kd11 := fun o => K11.out.cell o
              have kx11 := fun o => X11.out.cell o
              clear hb11
              by_cases hfar : pv < t + 319680000
              · have CL1 := Lib.hid (CL.out ((pv / 86400 + 1) * 86400 - 1) (by omega) (by omega))
                go_wp2_with fail
                refine (CL1.out _ B11.out).mono ?_
                rintro e w12 ⟨⟨q, e2, rfl, hq⟩, hb12⟩
                have B12 := Lib.hid (nextC B11.out hb12)
                have K12 := Lib.hid (K11.out.over hb12)
                have X12 := Lib.hid (X11.out.over hb12)
                have kd12 := fun o => K12.out.cell o
                have kx12 := fun o => X12.out.cell o
                have HQ := Lib.hid hq
                clear hb12 kd11 kx11 hq
                obtain ⟨rfl, q1, q2, q3, q4⟩ := skip_last ht0 HI.out HQ.out
                have CN1 := Lib.hid (CN.out q)
                go_wp2_with fail
                refine (CN1.out _ B12.out).mono ?_
                rintro e w13 ⟨⟨p', f', rfl, hn⟩, hb13⟩
                have B13 := Lib.hid (nextC B12.out hb13)
                have K13 := Lib.hid (K12.out.over hb13)
                have X13 := Lib.hid (X12.out.over hb13)
                have HN := Lib.hid (aft_in q3 q4 hn)
                clear hb13 kd12 kx12 hn
                go_wp2_with fail
                rcases (show f' = 5 ∨ (q < p' ∧ p' < 13569465600) by rcases HN.out with ⟨n0, n1, n2, -⟩ | ⟨n0, -⟩ <;> omega) with h5 | ⟨h6, h7⟩
                · go_roundg 0
                  case measure => omega
                  case rel => exact ⟨p', f', rfl, rfl, skip_step ht0 HI.out HWK.out HQ.out HN.out, .inl h5, K13.out, X13.out, B13.out⟩
                · go_roundg (13569465601 - p').toNat
                  case measure => omega
                  case rel => exact ⟨p', f', rfl, rfl, skip_step ht0 HI.out HWK.out HQ.out HN.out, .inr (by omega), K13.out, X13.out, B13.out⟩
              · have d5 : decide (pv < t + 319680000) = false := decide_eq_false hfar
                go_wp2_with fail
                go_meet
                exact ⟨pv, 0, rfl, rfl, HI.out, .inr (.inr (by omega)), K11.out, X11.out, B11.out⟩
            · rw [hw] at CW1
              have HWK := Lib.hid hw
              clear hw
              go_wp2_with fail
              refine (CW1.out _ B10.out).mono ?_
              rintro e w11 ⟨rfl, hb11⟩
              have B11 := Lib.hid (nextC B10.out hb11)
              have K11 := Lib.hid (K10.out.over hb11)
              have X11 := Lib.hid (X10.out.over hb11)
              clear hb11
              go_wp2_with fail
              go_meet
              exact ⟨pv, 0, rfl, rfl, HI.out, .inr (.inl HWK.out), K11.out, X11.out, B11.out⟩
          · clear p1 hgk
            go_wp2_with fail
            go_meet
            exact ⟨pv, 5, rfl, rfl, HI.out, .inl rfl, K9.out, X9.out, B9.out⟩
    case rest =>
      obtain ⟨pv, fv, rfl, rfl, hinv, hstop, rk, rx, rb⟩ := hcut
      have hsame := skip_same ht0 ht1 HS.out hinv hstop
      have B9 := Lib.hid rb
      have K9 := Lib.hid rk
      have X9 := Lib.hid rx
      have kd9 := fun o => K9.out.cell o
      have kx9 := fun o => X9.out.cell o
      clear rk rx rb kd8 kx8 hinv hstop HS HP
      rcases hsame with ⟨rfl, rfl, g0, rfl⟩ | ⟨rfl, rfl, g0⟩ | ⟨rfl, rfl⟩
      · as_aux_lemma =>
          go_upto_region 24 with fail
          go_wp2_with fail
          refine (CE.out _ B9.out).mono ?_
          rintro e w10 ⟨⟨r2, e2, rfl, hr2⟩, hb10⟩
          have HE := Lib.hid hr2
          clear hr2
          have B10 := Lib.hid (nextC B9.out hb10)
          have K10 := Lib.hid (K9.out.over hb10)
          have X10 := Lib.hid (X9.out.over hb10)
          have kd10 := fun o => K10.out.cell o
          have kx10 := fun o => X10.out.cell o
          clear hb10 kd9 kx9
          go_wp2_with fail
          refine (CN.out t _ B10.out).mono ?_
          rintro e w11 ⟨⟨p2, f2, rfl, hr2⟩, hb11⟩
          have HF := Lib.hid (every_same hmode ht0 ht1 HE.out (aft_in ht0 ht1 hr2))
          clear hr2
          have B11 := Lib.hid (nextC B10.out hb11)
          have K11 := Lib.hid (K10.out.over hb11)
          have X11 := Lib.hid (X10.out.over hb11)
          have kd11 := fun o => K11.out.cell o
          have kx11 := fun o => X11.out.cell o
          clear hb11 kd10 kx10
          clear kd11 kx11 HE
          rcases HF.out with ⟨rfl, rfl, g1, rfl⟩ | ⟨rfl, rfl, g1⟩ | ⟨rfl, rfl⟩
          · clear HF
            go_wp2_with fail
            go_ret
            exact ⟨rfl, B11.out⟩
          · have g2 : decide (p2 < ((t / 86400 + 3700) * 86400)) = false := decide_eq_false (by omega)
            clear HF
            go_wp2_with fail
            go_ret
            exact ⟨rfl, B11.out⟩
          · clear HF
            go_wp2_with fail
            go_ret
            exact ⟨rfl, B11.out⟩
      · as_aux_lemma =>
          have g0' : decide (pv < (t / 86400 + 3700) * 86400) = false := decide_eq_false (by omega)
          go_upto_region 24 with fail
          go_wp2_with fail
          refine (CE.out _ B9.out).mono ?_
          rintro e w10 ⟨⟨r2, e2, rfl, hr2⟩, hb10⟩
          have HE := Lib.hid hr2
          clear hr2
          have B10 := Lib.hid (nextC B9.out hb10)
          have K10 := Lib.hid (K9.out.over hb10)
          have X10 := Lib.hid (X9.out.over hb10)
          have kd10 := fun o => K10.out.cell o
          have kx10 := fun o => X10.out.cell o
          clear hb10 kd9 kx9
          go_wp2_with fail
          refine (CN.out t _ B10.out).mono ?_
          rintro e w11 ⟨⟨p2, f2, rfl, hr2⟩, hb11⟩
          have HF := Lib.hid (every_same hmode ht0 ht1 HE.out (aft_in ht0 ht1 hr2))
          clear hr2
          have B11 := Lib.hid (nextC B10.out hb11)
          have K11 := Lib.hid (K10.out.over hb11)
          have X11 := Lib.hid (X10.out.over hb11)
          have kd11 := fun o => K11.out.cell o
          have kx11 := fun o => X11.out.cell o
          clear hb11 kd10 kx10
          clear kd11 kx11 HE
          rcases HF.out with ⟨rfl, rfl, g1, rfl⟩ | ⟨rfl, rfl, g1⟩ | ⟨rfl, rfl⟩
          · clear HF
            go_wp2_with fail
            go_ret
            exact ⟨rfl, B11.out⟩
          · have g2 : decide (p2 < ((t / 86400 + 3700) * 86400)) = false := decide_eq_false (by omega)
            clear HF
            go_wp2_with fail
            go_ret
            exact ⟨rfl, B11.out⟩
          · clear HF
            go_wp2_with fail
            go_ret
            exact ⟨rfl, B11.out⟩
      · as_aux_lemma =>
          go_upto_region 24 with fail
          go_wp2_with fail
          refine (CE.out _ B9.out).mono ?_
          rintro e w10 ⟨⟨r2, e2, rfl, hr2⟩, hb10⟩
          have HE := Lib.hid hr2
          clear hr2
          have B10 := Lib.hid (nextC B9.out hb10)
          have K10 := Lib.hid (K9.out.over hb10)
          have X10 := Lib.hid (X9.out.over hb10)
          have kd10 := fun o => K10.out.cell o
          have kx10 := fun o => X10.out.cell o
          clear hb10 kd9 kx9
          go_wp2_with fail
          refine (CN.out t _ B10.out).mono ?_
          rintro e w11 ⟨⟨p2, f2, rfl, hr2⟩, hb11⟩
          have HF := Lib.hid (every_same hmode ht0 ht1 HE.out (aft_in ht0 ht1 hr2))
          clear hr2
          have B11 := Lib.hid (nextC B10.out hb11)
          have K11 := Lib.hid (K10.out.over hb11)
          have X11 := Lib.hid (X10.out.over hb11)
          have kd11 := fun o => K11.out.cell o
          have kx11 := fun o => X11.out.cell o
          clear hb11 kd10 kx10
          clear kd11 kx11 HE
          rcases HF.out with ⟨rfl, rfl, g1, rfl⟩ | ⟨rfl, rfl, g1⟩ | ⟨rfl, rfl⟩
          · clear HF
            go_wp2_with fail
            go_ret
            exact ⟨rfl, B11.out⟩
          · have g2 : decide (p2 < ((t / 86400 + 3700) * 86400)) = false := decide_eq_false (by omega)
            clear HF
            go_wp2_with fail
            go_ret
            exact ⟨rfl, B11.out⟩
          · clear HF
            go_wp2_with fail
            go_ret
            exact ⟨rfl, B11.out⟩
theorem walk (A : Option Addr) (cA : Nat) (B : Option Addr) (cB : Nat) (k : Nat) (off on : List Int) (mode t : Int) (x : Xp) (hx : x.Ok) (w : World) (hk : k < 256) (ha : Sl w .i64 A off) (hb : Sl w .i64 B on) (hT : TabZ w) :
    Calls Tryd.prog 4 #[.agg #[.int .u8 k, .slice A off.length cA, .slice B on.length cB], .int .u8 mode, xpV x, .int .i64 t] w fun e w' => e = .returned (.bool true) ∧ Below w.heap.size w w' := by
  by_cases hh : 30 < off.length ∨ 30 < on.length
  · exact walk_heavy A cA B cB k off on mode t x w hh
  · have h : CalAt w (.agg #[.int .u8 k, .slice A off.length cA, .slice B on.length cB]) k off on := ⟨⟨A, cA, B, cB, rfl, ha, hb⟩, hk, by omega, by omega⟩
    have h1 : off.length ≤ 30 := by omega
    have h2 : on.length ≤ 30 := by omega
    cases hm : mayC k off on
    · exact walk_nocal A cA B cB k off on mode t x hx w h h1 h2 hm
    · cases hmx : mayX x
      · exact walk_noexpr A cA B cB k off on mode t x hx w h h1 h2 hm hmx
      · by_cases m1 : mode < 1
        · exact walk_low A cA B cB k off on mode t x hx w h h1 h2 hm hmx m1
        · by_cases m3 : 3 < mode
          · exact walk_high A cA B cB k off on mode t x hx w h h1 h2 hm hmx m3
          · have hmode : 1 ≤ mode ∧ mode ≤ 3 := ⟨by omega, by omega⟩
            by_cases t0 : t < 0
            · exact walk_early A cA B cB k off on mode t x hx w h h1 h2 hm hmx hmode t0
            · by_cases t1 : 13569465600 ≤ t
              · exact walk_late A cA B cB k off on mode t x hx w h h1 h2 hm hmx hmode t1
              · exact walk_ok A cA B cB k off on mode t x hx w h h1 h2 hm hmx hmode (by omega) (by omega) hT

theorem opened (H : Type) (enc : TypeId × Value → H) (W : World) (base : Nat) (args : Array Value) (ds gs : List (DataW H)) (before : List MemPlace)
    (hval : ∀ (j : Nat) t v, Tryd.f4.params[j]? = some t → args[j]? = some v → Value.okWide Tryd.prog W .any base t v)
    (hW : DataW.Whole enc Tryd.prog Tryd.f4.params.toList Rows.calendarPlainSpec.vars false W args.toList ds gs before)
    (hsz : (DataW.weightsEach Tryd.prog (Tryd.f4.params.toList ++ Rows.calendarPlainSpec.plain.varTypes Tryd.prog) (ds ++ gs)).all (· ≤ reachBytes) = true)
    (hL : laidMetH Tryd.prog Rows.calendarPlainRow.laid W) :
    Calls Tryd.prog 4 args W fun e w' => e = .returned (.bool true) ∧ Below W.heap.size W w' := by
  obtain ⟨p, q, hA, hV, rfl, hfz, hnd⟩ := hW
  rw [Tryd.params4] at hA hval
  obtain ⟨v0, vs0, d0, ds0, p0, q0, hargs, rfl, rfl, h0, r0⟩ := trodAll_cons hA
  obtain ⟨v1, vs1, d1, ds1, p1, q1, rfl, rfl, rfl, h1, r1⟩ := trodAll_cons r0
  obtain ⟨v2, vs2, d2, ds2, p2, q2, rfl, rfl, rfl, h2, r2⟩ := trodAll_cons r1
  obtain ⟨v3, vs3, d3, ds3, p3, q3, rfl, rfl, rfl, h3, r3⟩ := trodAll_cons r2
  obtain ⟨rfl, rfl, rfl⟩ := trodAll_nil r3
  obtain rfl : args = #[v0, v1, v2, v3] := by cases args; simp_all
  obtain ⟨k, A, cA, off, B, cB, on, rfl, hk, s0, s1, w0, w1⟩ := open_cal (hval 0 24 v0 rfl rfl) h0
  obtain ⟨mo, rfl, _, _, wm⟩ := open_int Tryd.underlying5 (hval 1 5 v1 rfl rfl) h1
  obtain ⟨x, rfl, hx⟩ := open_expr (hval 2 29 v2 rfl rfl) h2
  obtain ⟨t, rfl, _, _, wt⟩ := open_int Tryd.underlying2 (hval 3 2 v3 rfl rfl) h3
  exact walk A cA B cB k off on mo t x hx W hk s0 s1 (tabZ_of_laid hL)

theorem door_met (os : Os) (args : Array Value) : laidMetH Tryd.prog Rows.calendarPlainRow.laid ((World.doorLaid Tryd.prog 14 os).forCall (fun _ _ => 0) ⟨#[], args, []⟩).memory :=
  laidMetH_of_parts3 (fuel := 8) (laidMet_of_run' 8 (by kernel_rfl) (by kernel_rfl)) (by kernel_rfl) (by kernel_rfl)

set_option maxRecDepth 100000 in
theorem lifted (os : Os) (started : os.Started) (H : Type) (enc : TypeId × Value → H) :
    ReturnsInHanded {} Tryd.checked os 4 .any (fun w args => (Rows.calendarPlainSpec.pre enc Tryd.prog Tryd.f4 [] false w args ∧ laidMetH Tryd.prog Rows.calendarPlainRow.laid w) ∧ sizedMet enc Tryd.prog Tryd.f4 (OpenSpec.ofChange Rows.calendarPlainSpec) false w args)
      (Rows.calendarPlainSpec.post enc Tryd.prog Tryd.f4 false true false false) := by
  refine returnsInHanded_of_change_and (C := Tryd.checked) (X := fun w _ => laidMetH Tryd.prog Rows.calendarPlainRow.laid w) (fun _ _ _ hh h => h.of_heap hh) own started (by kernel_rfl) Tryd.func4
    (ChangeSpec.witness_shaped (enc := enc) (C := Tryd.checked) (os := os) (X := fun w _ => laidMetH Tryd.prog Rows.calendarPlainRow.laid w) false (World.doorLaid Tryd.prog 14 os) #[.agg #[.int .u8 0, .slice none 0 0, .slice none 0 0], .int .u8 0, .agg #[.int .u64 0, .bool false, .int .u64 0, .bool false, .int .u64 0, .bool false, .int .u64 0, .bool false, .int .u64 0, .bool false], .int .i64 0] 8 rfl (World.shaped_of_RefB (by kernel_rfl) (by kernel_rfl)) (by kernel_rfl) (by kernel_rfl) (by kernel_rfl) (door_met os _)) ?_
  intro W base args ds gs before hval hW _ hsz hL _
  refine (opened H enc W base args ds gs before hval hW hsz hL).mono fun e W' ⟨he, hg⟩ => ?_
  subst he
  exact ⟨_, rfl, law_post hW rfl laidOut (by kernel_rfl) rfl Tryd.underlying4 (fun l hl => by match l, hl with | [d0, d1, d2, d3], _ => rfl) hg⟩

theorem over : Rows.calendarPlainRow.holds Tryd.pinned (OpenSpec.ofChange Rows.calendarPlainSpec) :=
  OpenClaim.holds_of_wide 4 Tryd.f4 rfl rfl rfl rfl rfl rfl rfl ⟨rfl, rfl, rfl, rfl, rfl⟩ rfl rfl rfl rfl rfl (by kernel_rfl) Tryd.func4 (by kernel_rfl)
    (of_decide_eq_true (by kernel_rfl)) (by unfold Func.isWrapper; first | (rw [if_pos (by decide +kernel)]; kernel_rfl) | (rw [if_neg (by decide +kernel)]; exact ⟨rfl, rfl⟩))
    (fun os started H enc _ => lifted os started H enc)

theorem own_func {f : FuncId} {fn : Func} (hf : Tryd.prog.funcNamed "ringer/ringerlaw41.CalendarPlain" = some f) (hfn : Tryd.prog.funcs[f]? = some fn) : f = 4 ∧ fn = Tryd.f4 := by
  obtain rfl : f = 4 := Option.some.inj ((show Tryd.prog.funcNamed "ringer/ringerlaw41.CalendarPlain" = some 4 by kernel_rfl).symm.trans hf) |>.symm
  exact ⟨rfl, (Option.some.inj (Tryd.func4.symm.trans hfn)).symm⟩

/-- THE STATEMENT: THE CARD. -/
theorem proved : Rows.CalendarPlainCardSaid := by
  unfold Rows.CalendarPlainCardSaid Rows.calendarPlainCard
  exact Claim7.holds_tied_plain_at .later [] _ true _ _
    over (fun _ h => by cases h) (by kernel_rfl) (fun _ h => by cases h) calendarPlain_row_tie rfl ⟨rfl, rfl⟩ (by kernel_rfl) rfl
    (fun f fn hf hfn => by
      obtain ⟨rfl, rfl⟩ := own_func hf hfn
      exact ⟨by kernel_rfl, fun j t ht => by
        have hall : (Tryd.f4.params.toList.all fun u => !Tryd.prog.wantsStandIn u) = true := by kernel_rfl
        have hm : t ∈ Tryd.f4.params.toList := by simpa using Array.mem_of_getElem? ht
        exact (show Tryd.prog.wantsStandIn t = false by simpa using List.all_eq_true.1 hall t hm)⟩)
    (by kernel_rfl)
#print axioms proved
end Go.Proofs.YthigmjjafilbcaaDoor.calendarPlain
