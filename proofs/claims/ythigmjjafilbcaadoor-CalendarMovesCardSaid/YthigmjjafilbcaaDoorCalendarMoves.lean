/- CalendarMoves. -/
import Derived.Test.YthigmjjafilbcaaDoorCbQ
import Derived.Test.YthigmjjafilbcaaDoorMd
import Derived.Test.YthigmjjafilbcaaDoorMvTie
import Derived.Test.YthigmjjafilbcaaDoorMb
namespace Go.Proofs.YthigmjjafilbcaaDoor.calendarMoves
open Go.ChangeShapes Go.WideShapes Go.ChangeAt Go.RowKit
set_option linter.unusedVariables false
set_option maxRecDepth 100000

theorem heavy_raw (A : Option Addr) (cA : Nat) (B : Option Addr) (cB : Nat) (k : Nat) (off on : List Int) (w : World) (hh : 30 < off.length ∨ 30 < on.length) :
    Calls Tryd.prog 6 #[.agg #[.int .u8 k, .slice A off.length cA, .slice B on.length cB]] w fun e w' => e = .returned (.bool true) ∧ Below w.heap.size w w' := by
  obtain ⟨WB, hWB⟩ : ∃ WB, w.alloc (.cells #[.int .u8 k, .slice A off.length cA, .slice B on.length cB] 24) = WB := ⟨_, rfl⟩
  have K := Lib.hid (show Row WB w.heap.size _ _ by rw [← hWB]; exact Row.new _ _ _)
  have Q0 := Lib.hid (show Below w.heap.size w WB by rw [← hWB]; exact nextB (Below.refl _ _))
  have HW := Lib.hid hWB
  clear hWB
  have hh' : (30 : Int) < (off.length : Int) ∨ decide ((30 : Int) < (off.length : Int)) = false ∧ (30 : Int) < (on.length : Int) := by
    by_cases h : 30 < off.length
    · exact .inl (by omega)
    · exact .inr ⟨decide_eq_false (by omega), by omega⟩
  clear hh
  go_enter Tryd.func6, Tryd.ntmps6
  go_upto_region 1 with fail
  rw [HW.out]
  have kd0 := fun o => K.out.cell o
  rcases hh' with h1 | ⟨h1, h2⟩
  · go_wp2_with fail
    go_ret
    exact ⟨rfl, Q0.out⟩
  · have h1' : decide (30 < off.length) = false := decide_eq_false (by have := of_decide_eq_false h1; omega)
    go_wp2_with fail
    go_ret
    exact ⟨rfl, Q0.out⟩
theorem near_lt {k : Nat} {off on : List Int} {a s n : Int} (h : NearIs k off on a s n) (h0 : 0 ≤ n) : n < 157054 := by
  rcases h with ⟨i, -, h1, -, rfl⟩ | ⟨i, -, -, rfl⟩
  · exact (inB_iff.1 h1).2
  · omega
set_option maxHeartbeats 2000000 in
theorem walk_heavy (A : Option Addr) (cA : Nat) (B : Option Addr) (cB : Nat) (k : Nat) (off on : List Int) (t : Int) (x : Xp) (w : World) (hh : 30 < off.length ∨ 30 < on.length) :
    Calls Tryd.prog 3 #[.agg #[.int .u8 k, .slice A off.length cA, .slice B on.length cB], .agg #[.int .u64 x.b0, .bool x.s0, .int .u64 x.b1, .bool x.s1, .int .u64 x.b2, .bool x.s2, .int .u64 x.b3, .bool x.s3, .int .u64 x.b4, .bool x.s4], .int .i64 t] w fun e w' => e = .returned (.bool true) ∧ Below w.heap.size w w' := by
  have KN := Lib.hid known_any
  have CH := Lib.hid (fun W (h : Below w.heap.size w W) => heavy_raw A cA B cB k off on W hh)
  clear hh
  obtain ⟨WB, hWB⟩ : ∃ WB, (w.alloc (.cells #[.int .u8 k, .slice A off.length cA, .slice B on.length cB] 24)).alloc (.cells #[.int .u64 x.b0, .bool x.s0, .int .u64 x.b1, .bool x.s1, .int .u64 x.b2, .bool x.s2, .int .u64 x.b3, .bool x.s3, .int .u64 x.b4, .bool x.s4] 29) = WB := ⟨_, rfl⟩
  have T2 := two rfl hWB
  have K := Lib.hid T2.1
  have KX := Lib.hid T2.2.1
  have Q0 := Lib.hid T2.2.2.1
  have HW := Lib.hid hWB
  clear hWB T2
  go_enter Tryd.func3, Tryd.ntmps3
  go_upto_region 1 with fail
  rw [HW.out]
  go_wp2_with fail
  refine (KN.out _).mono ?_
  rintro e w1 ⟨rfl, hb1⟩
  have B1 := Lib.hid (nextC Q0.out hb1)
  have K1 := Lib.hid (K.out.over hb1)
  have X1 := Lib.hid (KX.out.over hb1)
  have kd1 := fun o => K1.out.cell o
  have kx1 := fun o => X1.out.cell o
  clear hb1
  go_wp2_with fail
  refine (CH.out _ B1.out).mono ?_
  rintro e w2 ⟨rfl, hb2⟩
  have B2 := Lib.hid (nextC B1.out hb2)
  have K2 := Lib.hid (K1.out.over hb2)
  have X2 := Lib.hid (X1.out.over hb2)
  have kd2 := fun o => K2.out.cell o
  have kx2 := fun o => X2.out.cell o
  clear hb2 kd1 kx1
  go_wp2_with fail
  go_ret
  exact ⟨rfl, B2.out⟩
set_option maxHeartbeats 4000000 in
theorem walk_nocal (A : Option Addr) (cA : Nat) (B : Option Addr) (cB : Nat) (k : Nat) (off on : List Int) (t : Int) (x : Xp) (hx : x.Ok) (w : World) (h : CalAt w (.agg #[.int .u8 k, .slice A off.length cA, .slice B on.length cB]) k off on) (h1 : off.length ≤ 30) (h2 : on.length ≤ 30) (hm : mayC k off on = false) :
    Calls Tryd.prog 3 #[.agg #[.int .u8 k, .slice A off.length cA, .slice B on.length cB], .agg #[.int .u64 x.b0, .bool x.s0, .int .u64 x.b1, .bool x.s1, .int .u64 x.b2, .bool x.s2, .int .u64 x.b3, .bool x.s3, .int .u64 x.b4, .bool x.s4], .int .i64 t] w fun e w' => e = .returned (.bool true) ∧ Below w.heap.size w w' := by
  have KN := Lib.hid known_any
  have CH := Lib.hid (fun W (hW : Below w.heap.size w W) => heavy_any _ k off on W (h.over hW))
  have CO := Lib.hid (fun W (hW : Below w.heap.size w W) => ofC_any _ k off on W (h.over hW))
  have CR := Lib.hid (fun W (hW : Below w.heap.size w W) => refCMay_any _ k off on W (h.over hW))
  have CX := Lib.hid (fun W (hW : Below w.heap.size w W) => refMayX_any x hx W)
  rw [show (decide (30 < (off.length : Int)) || decide (30 < (on.length : Int))) = false by simp; omega] at CH
  dsimp only [xpV] at CX
  rw [hm] at CR
  clear h h1 h2 hm
  obtain ⟨WB, hWB⟩ : ∃ WB, (w.alloc (.cells #[.int .u8 k, .slice A off.length cA, .slice B on.length cB] 24)).alloc (.cells #[.int .u64 x.b0, .bool x.s0, .int .u64 x.b1, .bool x.s1, .int .u64 x.b2, .bool x.s2, .int .u64 x.b3, .bool x.s3, .int .u64 x.b4, .bool x.s4] 29) = WB := ⟨_, rfl⟩
  have T2 := two rfl hWB
  have K := Lib.hid T2.1
  have KX := Lib.hid T2.2.1
  have Q0 := Lib.hid T2.2.2.1
  have HW := Lib.hid hWB
  clear hWB T2
  go_enter Tryd.func3, Tryd.ntmps3
  go_upto_region 1 with fail
  rw [HW.out]
  go_wp2_with fail
  refine (KN.out _).mono ?_
  rintro e w1 ⟨rfl, hb1⟩
  have B1 := Lib.hid (nextC Q0.out hb1)
  have K1 := Lib.hid (K.out.over hb1)
  have X1 := Lib.hid (KX.out.over hb1)
  have kd1 := fun o => K1.out.cell o
  have kx1 := fun o => X1.out.cell o
  clear hb1
  go_wp2_with fail
  refine (CH.out _ B1.out).mono ?_
  rintro e w2 ⟨rfl, hb2⟩
  have B2 := Lib.hid (nextC B1.out hb2)
  have K2 := Lib.hid (K1.out.over hb2)
  have X2 := Lib.hid (X1.out.over hb2)
  have kd2 := fun o => K2.out.cell o
  have kx2 := fun o => X2.out.cell o
  clear hb2 kd1 kx1
  go_wp2_with fail
  refine (CO.out _ B2.out).mono ?_
  rintro e w3 ⟨rfl, hb3⟩
  have B3 := Lib.hid (nextC B2.out hb3)
  have K3 := Lib.hid (K2.out.over hb3)
  have X3 := Lib.hid (X2.out.over hb3)
  have kd3 := fun o => K3.out.cell o
  have kx3 := fun o => X3.out.cell o
  clear hb3 kd2 kx2
  go_wp2_with fail
  refine (CR.out _ B3.out).mono ?_
  rintro e w4 ⟨rfl, hb4⟩
  have B4 := Lib.hid (nextC B3.out hb4)
  have K4 := Lib.hid (K3.out.over hb4)
  have X4 := Lib.hid (X3.out.over hb4)
  have kd4 := fun o => K4.out.cell o
  have kx4 := fun o => X4.out.cell o
  clear hb4 kd3 kx3
  go_wp2_with fail
  go_ret
  exact ⟨rfl, B4.out⟩
set_option maxHeartbeats 4000000 in
theorem walk_noexpr (A : Option Addr) (cA : Nat) (B : Option Addr) (cB : Nat) (k : Nat) (off on : List Int) (t : Int) (x : Xp) (hx : x.Ok) (w : World) (h : CalAt w (.agg #[.int .u8 k, .slice A off.length cA, .slice B on.length cB]) k off on) (h1 : off.length ≤ 30) (h2 : on.length ≤ 30) (hm : mayC k off on = true) (hmx : mayX x = false) :
    Calls Tryd.prog 3 #[.agg #[.int .u8 k, .slice A off.length cA, .slice B on.length cB], .agg #[.int .u64 x.b0, .bool x.s0, .int .u64 x.b1, .bool x.s1, .int .u64 x.b2, .bool x.s2, .int .u64 x.b3, .bool x.s3, .int .u64 x.b4, .bool x.s4], .int .i64 t] w fun e w' => e = .returned (.bool true) ∧ Below w.heap.size w w' := by
  have KN := Lib.hid known_any
  have CH := Lib.hid (fun W (hW : Below w.heap.size w W) => heavy_any _ k off on W (h.over hW))
  have CO := Lib.hid (fun W (hW : Below w.heap.size w W) => ofC_any _ k off on W (h.over hW))
  have CR := Lib.hid (fun W (hW : Below w.heap.size w W) => refCMay_any _ k off on W (h.over hW))
  have CX := Lib.hid (fun W (hW : Below w.heap.size w W) => refMayX_any x hx W)
  rw [show (decide (30 < (off.length : Int)) || decide (30 < (on.length : Int))) = false by simp; omega] at CH
  dsimp only [xpV] at CX
  rw [hm] at CR
  rw [hmx] at CX
  clear h h1 h2 hm hmx
  obtain ⟨WB, hWB⟩ : ∃ WB, (w.alloc (.cells #[.int .u8 k, .slice A off.length cA, .slice B on.length cB] 24)).alloc (.cells #[.int .u64 x.b0, .bool x.s0, .int .u64 x.b1, .bool x.s1, .int .u64 x.b2, .bool x.s2, .int .u64 x.b3, .bool x.s3, .int .u64 x.b4, .bool x.s4] 29) = WB := ⟨_, rfl⟩
  have T2 := two rfl hWB
  have K := Lib.hid T2.1
  have KX := Lib.hid T2.2.1
  have Q0 := Lib.hid T2.2.2.1
  have HW := Lib.hid hWB
  clear hWB T2
  go_enter Tryd.func3, Tryd.ntmps3
  go_upto_region 1 with fail
  rw [HW.out]
  go_wp2_with fail
  refine (KN.out _).mono ?_
  rintro e w1 ⟨rfl, hb1⟩
  have B1 := Lib.hid (nextC Q0.out hb1)
  have K1 := Lib.hid (K.out.over hb1)
  have X1 := Lib.hid (KX.out.over hb1)
  have kd1 := fun o => K1.out.cell o
  have kx1 := fun o => X1.out.cell o
  clear hb1
  go_wp2_with fail
  refine (CH.out _ B1.out).mono ?_
  rintro e w2 ⟨rfl, hb2⟩
  have B2 := Lib.hid (nextC B1.out hb2)
  have K2 := Lib.hid (K1.out.over hb2)
  have X2 := Lib.hid (X1.out.over hb2)
  have kd2 := fun o => K2.out.cell o
  have kx2 := fun o => X2.out.cell o
  clear hb2 kd1 kx1
  go_wp2_with fail
  refine (CO.out _ B2.out).mono ?_
  rintro e w3 ⟨rfl, hb3⟩
  have B3 := Lib.hid (nextC B2.out hb3)
  have K3 := Lib.hid (K2.out.over hb3)
  have X3 := Lib.hid (X2.out.over hb3)
  have kd3 := fun o => K3.out.cell o
  have kx3 := fun o => X3.out.cell o
  clear hb3 kd2 kx2
  go_wp2_with fail
  refine (CR.out _ B3.out).mono ?_
  rintro e w4 ⟨rfl, hb4⟩
  have B4 := Lib.hid (nextC B3.out hb4)
  have K4 := Lib.hid (K3.out.over hb4)
  have X4 := Lib.hid (X3.out.over hb4)
  have kd4 := fun o => K4.out.cell o
  have kx4 := fun o => X4.out.cell o
  clear hb4 kd3 kx3
  go_wp2_with fail
  refine (CX.out _ B4.out).mono ?_
  rintro e w5 ⟨rfl, hb5⟩
  have B5 := Lib.hid (nextC B4.out hb5)
  have K5 := Lib.hid (K4.out.over hb5)
  have X5 := Lib.hid (X4.out.over hb5)
  have kd5 := fun o => K5.out.cell o
  have kx5 := fun o => X5.out.cell o
  clear hb5 kd4 kx4
  go_wp2_with fail
  go_ret
  exact ⟨rfl, B5.out⟩
set_option maxHeartbeats 4000000 in
theorem walk_ok (A : Option Addr) (cA : Nat) (B : Option Addr) (cB : Nat) (k : Nat) (off on : List Int) (t : Int) (x : Xp) (hx : x.Ok) (w : World) (h : CalAt w (.agg #[.int .u8 k, .slice A off.length cA, .slice B on.length cB]) k off on) (h1 : off.length ≤ 30) (h2 : on.length ≤ 30) (hm : mayC k off on = true) (hmx : mayX x = true) (hT : TabZ w) :
    Calls Tryd.prog 3 #[.agg #[.int .u8 k, .slice A off.length cA, .slice B on.length cB], .agg #[.int .u64 x.b0, .bool x.s0, .int .u64 x.b1, .bool x.s1, .int .u64 x.b2, .bool x.s2, .int .u64 x.b3, .bool x.s3, .int .u64 x.b4, .bool x.s4], .int .i64 t] w fun e w' => e = .returned (.bool true) ∧ Below w.heap.size w w' := by
  have KN := Lib.hid known_any
  have CH := Lib.hid (fun W (hW : Below w.heap.size w W) => heavy_any _ k off on W (h.over hW))
  have CO := Lib.hid (fun W (hW : Below w.heap.size w W) => ofC_any _ k off on W (h.over hW))
  have CR := Lib.hid (fun W (hW : Below w.heap.size w W) => refCMay_any _ k off on W (h.over hW))
  have CX := Lib.hid (fun W (hW : Below w.heap.size w W) => refMayX_any x hx W)
  rw [show (decide (30 < (off.length : Int)) || decide (30 < (on.length : Int))) = false by simp; omega] at CH
  dsimp only [xpV] at CX
  rw [hm] at CR
  rw [hmx] at CX
  have CA := Lib.hid (fun W (hW : Below w.heap.size w W) => nafter_any x hx t hmx W (hT.over hW))
  have CS := Lib.hid (fun (a : Int) (h0 : 0 ≤ a) (h1 : a < 13569465600) (h2 : a % 60 = 0) W => show Calls Tryd.prog 11 #[.int .i64 a] W fun e w' => e = .returned (.tuple #[.agg (clkA (a / 86400) (a % 86400 / 60)), .int .i64 0]) ∧ Below W.heap.size W w' from by
    have := refSplit_min (a / 86400) (a % 86400 / 60) (by omega) (by omega) (by omega) (by omega) W
    rw [show a / 86400 * 86400 + a % 86400 / 60 * 60 = a by omega] at this
    exact this)
  have CF := Lib.hid (fun (d m : Int) (h0 : 0 ≤ d) (h1 : d < 157054) (m0 : 0 ≤ m) (m1 : m < 1440) W => by
    have := refFits_any x hx (ofY d) (ofM d) (ofD d) (m / 60) (m % 60) 0 ((d + 4) % 7) W
    rw [fitsC_at x h0 h1 m0 m1] at this
    exact this)
  have CN := Lib.hid (fun d s (h0 : -1 ≤ d) (h1 : d ≤ 157054) (hs : s = 1 ∨ s = -1) W (hW : Below w.heap.size w W) => near_any _ k off on d s h0 h1 hs W (h.over hW) hm)
  have CG := Lib.hid (fun mo (hmo : 1 ≤ mo ∧ mo ≤ 3) u (h0 : 0 ≤ u) (h1 : u < 13569465600) W (hW : Below w.heap.size w W) => after_ok _ k off on mo x hx u W (h.over hW) hm hmo hmx h0 h1)
  dsimp only [xpV] at CA CF CG
  clear h h1 h2 hm hmx hx hT
  obtain ⟨WB, hWB⟩ : ∃ WB, (w.alloc (.cells #[.int .u8 k, .slice A off.length cA, .slice B on.length cB] 24)).alloc (.cells #[.int .u64 x.b0, .bool x.s0, .int .u64 x.b1, .bool x.s1, .int .u64 x.b2, .bool x.s2, .int .u64 x.b3, .bool x.s3, .int .u64 x.b4, .bool x.s4] 29) = WB := ⟨_, rfl⟩
  have T2 := two rfl hWB
  have K := Lib.hid T2.1
  have KX := Lib.hid T2.2.1
  have Q0 := Lib.hid T2.2.2.1
  have HW := Lib.hid hWB
  clear hWB T2
  go_enter Tryd.func3, Tryd.ntmps3
  go_upto_region 1 with fail
  rw [HW.out]
  go_wp2_with fail
  refine (KN.out _).mono ?_
  rintro e w1 ⟨rfl, hb1⟩
  have B1 := Lib.hid (nextC Q0.out hb1)
  have K1 := Lib.hid (K.out.over hb1)
  have X1 := Lib.hid (KX.out.over hb1)
  have kd1 := fun o => K1.out.cell o
  have kx1 := fun o => X1.out.cell o
  clear hb1
  go_wp2_with fail
  refine (CH.out _ B1.out).mono ?_
  rintro e w2 ⟨rfl, hb2⟩
  have B2 := Lib.hid (nextC B1.out hb2)
  have K2 := Lib.hid (K1.out.over hb2)
  have X2 := Lib.hid (X1.out.over hb2)
  have kd2 := fun o => K2.out.cell o
  have kx2 := fun o => X2.out.cell o
  clear hb2 kd1 kx1
  go_wp2_with fail
  refine (CO.out _ B2.out).mono ?_
  rintro e w3 ⟨rfl, hb3⟩
  have B3 := Lib.hid (nextC B2.out hb3)
  have K3 := Lib.hid (K2.out.over hb3)
  have X3 := Lib.hid (X2.out.over hb3)
  have kd3 := fun o => K3.out.cell o
  have kx3 := fun o => X3.out.cell o
  clear hb3 kd2 kx2
  go_wp2_with fail
  refine (CR.out _ B3.out).mono ?_
  rintro e w4 ⟨rfl, hb4⟩
  have B4 := Lib.hid (nextC B3.out hb4)
  have K4 := Lib.hid (K3.out.over hb4)
  have X4 := Lib.hid (X3.out.over hb4)
  have kd4 := fun o => K4.out.cell o
  have kx4 := fun o => X4.out.cell o
  clear hb4 kd3 kx3
  go_wp2_with fail
  refine (CX.out _ B4.out).mono ?_
  rintro e w5 ⟨rfl, hb5⟩
  have B5 := Lib.hid (nextC B4.out hb5)
  have K5 := Lib.hid (K4.out.over hb5)
  have X5 := Lib.hid (X4.out.over hb5)
  have kd5 := fun o => K5.out.cell o
  have kx5 := fun o => X5.out.cell o
  clear hb5 kd4 kx4
  go_wp2_with fail
  refine (CA.out _ B5.out).mono ?_
  rintro e w6 ⟨⟨at_, er, rfl, hr⟩, hb6⟩
  have B6 := Lib.hid (nextC B5.out hb6)
  have K6 := Lib.hid (K5.out.over hb6)
  have X6 := Lib.hid (X5.out.over hb6)
  have kd6 := fun o => K6.out.cell o
  have kx6 := fun o => X6.out.cell o
  clear hb6 kd5 kx5
  rcases hr with ⟨t0, t1, hr⟩ | ⟨ht, rfl, rfl⟩
  · rcases hr with ⟨rfl, a1, a2, a3, a4, a5⟩ | ⟨rfl, rfl, -⟩
    · have HFit := Lib.hid a4
      clear a4 a5
      have CS1 := Lib.hid (CS.out at_ (by omega) a2 a3)
      have CF1 := Lib.hid (CF.out (at_ / 86400) (at_ % 86400 / 60) (by omega) (by omega) (by omega) (by omega))
      rw [show minFit x (at_ / 86400) (at_ % 86400 / 60) = true from HFit.out] at CF1
      have CN1 := Lib.hid (fun s hs => CN.out (at_ / 86400) s (by omega) (by omega) hs)
      unfold clkA at CS1
      generalize ofY (at_ / 86400) = cy at *
      generalize ofM (at_ / 86400) = cm at *
      generalize ofD (at_ / 86400) = cd at *
      generalize at_ % 86400 / 60 / 60 = ch at *
      generalize at_ % 86400 / 60 % 60 = ci at *
      generalize (at_ / 86400 + 4) % 7 = cw at *
      go_wp2_with fail
      refine (CS1.out _).mono ?_
      rintro e w7 ⟨rfl, hb7⟩
      have B7 := Lib.hid (nextC B6.out hb7)
      have K7 := Lib.hid (K6.out.over hb7)
      have X7 := Lib.hid (X6.out.over hb7)
      clear hb7 kd6 kx6
      go_upto_region 9 with fail
      have rx := Row.new w7 42 #[.int .i64 cy, .int .i64 cm, .int .i64 cd, .int .i64 ch, .int .i64 ci, .int .i64 0, .int .i64 cw]
      have q8 := Lib.hid (nextB (o := .cells #[.int .i64 cy, .int .i64 cm, .int .i64 cd, .int .i64 ch, .int .i64 ci, .int .i64 0, .int .i64 cw] 42) B7.out)
      have ra := Lib.hid (K7.out.alloc (.cells #[.int .i64 cy, .int .i64 cm, .int .i64 cd, .int .i64 ch, .int .i64 ci, .int .i64 0, .int .i64 cw] 42))
      have rb := Lib.hid (X7.out.alloc (.cells #[.int .i64 cy, .int .i64 cm, .int .i64 cd, .int .i64 ch, .int .i64 ci, .int .i64 0, .int .i64 cw] 42))
      generalize w7.alloc _ = V at rx q8 ra rb ⊢
      have k1 := fun o => rx.cell o
      have k2 := fun o => rb.out.cell o
      go_wp2_with fail
      refine (CF1.out _).mono ?_
      rintro e w9 ⟨rfl, hb9⟩
      have B9 := Lib.hid (nextC q8.out hb9)
      have K9 := Lib.hid (ra.out.over hb9)
      have X9 := Lib.hid (rb.out.over hb9)
      clear hb9 k1 k2 rx CF1 CS1 CS CF
      go_upto_region 11 with fail
      go_wp2_with fail
      obtain ⟨g, hg⟩ : ∃ g, w9.heap.size = g := ⟨_, rfl⟩
      have RR := Lib.hid (Row.new w9 3 #[.int .i64 0, .int .i64 0, .int .i64 1, .int .i64 (-1)])
      have BV := Lib.hid (nextB (o := .cells #[.int .i64 0, .int .i64 0, .int .i64 1, .int .i64 (-1)] 3) B9.out)
      have KV := Lib.hid (K9.out.alloc (.cells #[.int .i64 0, .int .i64 0, .int .i64 1, .int .i64 (-1)] 3))
      have XV := Lib.hid (X9.out.alloc (.cells #[.int .i64 0, .int .i64 0, .int .i64 1, .int .i64 (-1)] 3))
      rw [hg] at RR ⊢
      generalize w9.alloc _ = V2 at RR BV KV XV ⊢
      go_loopw [55] (fun c wr => ∃ i : Int, c = .int .i64 i ∧ 0 ≤ i ∧ i ≤ 4 ∧ Below V2.heap.size V2 wr ∧ Below w.heap.size w wr) (fun c _ => (4 - intOf c).toNat)
      case atStart => exact ⟨0, rfl, by omega, by omega, Below.refl _ _, BV.out⟩
      case round =>
        obtain ⟨i, rfl, i0, i1, hv, hw⟩ := hrel
        have VB := Lib.hid hv
        have BB := Lib.hid hw
        have KB := Lib.hid (KV.out.over hv)
        have XB := Lib.hid (XV.out.over hv)
        have kr := fun o => (RR.out.over hv).cell o
        have kd := fun o => KB.out.cell o
        have kx := fun o => XB.out.cell o
        clear hv hw
        have hi : i = 0 ∨ i = 1 ∨ i = 2 ∨ i = 3 ∨ i = 4 := by omega
        clear i0 i1
        rcases hi with rfl | rfl | rfl | rfl | rfl
        · go_wp2_with fail
          go_roundw
          case rel => exact ⟨1, by go_num, by omega, by omega, VB.out, BB.out⟩
          case measure => simp [intOf]
        · go_wp2_with fail
          go_roundw
          case rel => exact ⟨2, by go_num, by omega, by omega, VB.out, BB.out⟩
          case measure => simp [intOf]
        · as_aux_lemma =>
            go_wp2_with fail
            refine (CO.out _ BB.out).mono ?_
            rintro e w11 ⟨rfl, hb11⟩
            have B11 := Lib.hid (nextC BB.out hb11)
            have K11 := Lib.hid (KB.out.over hb11)
            have X11 := Lib.hid (XB.out.over hb11)
            have V11 := Lib.hid (nextC VB.out hb11)
            clear hb11 kr kd kx
            have CN2 := Lib.hid (CN1.out (1) (by decide))
            go_wp2_with fail
            refine (CN2.out _ B11.out).mono ?_
            rintro e w12 ⟨⟨n, rfl, hn⟩, hb12⟩
            have B12 := Lib.hid (nextC B11.out hb12)
            have K12 := Lib.hid (K11.out.over hb12)
            have X12 := Lib.hid (X11.out.over hb12)
            have V12 := Lib.hid (nextC V11.out hb12)
            have HN := Lib.hid hn
            clear hb12 hn
            have kd12 := fun o => K12.out.cell o
            have kx12 := fun o => X12.out.cell o
            by_cases hneg : n < 0
            · go_wp2_with fail
              go_roundw
              case rel => exact ⟨3, by go_num, by omega, by omega, V12.out, B12.out⟩
              case measure => simp [intOf]
            · have d0 : decide (n < 0) = false := decide_eq_false hneg
              have hn1 : n < 157054 := near_lt HN.out (by omega)
              go_upto_region 18 with fail
              obtain ⟨zt, hzt⟩ : ∃ zt, n * 86400 + at_ % 86400 = zt := ⟨_, rfl⟩
              have hz0 : 0 ≤ zt := by omega
              have hz1 : zt < 13569465600 := by omega
              rw [hzt]
              have HZ := Lib.hid hzt.symm
              clear hzt
              by_cases hz : zt = 0
              · go_wp2_with fail
                go_roundw
                case rel => exact ⟨3, by go_num, by omega, by omega, V12.out, B12.out⟩
                case measure => simp [intOf]
              · have CG1 := Lib.hid (CG.out 2 (by decide) (zt - 1) (by omega) (by omega))
                have hz' : (zt == 0) = false := by simpa using hz
                go_wp2_with fail
                refine (CG1.out _ B12.out).mono ?_
                rintro e w13 ⟨⟨r, er, rfl, hr⟩, hb13⟩
                have B13 := Lib.hid (nextC B12.out hb13)
                have V13 := Lib.hid (nextC V12.out hb13)
                obtain ⟨rfl, rfl, -⟩ := moves_same (.inl ⟨rfl, rfl⟩) (by omega) a2 a3 HFit.out HN.out (by omega) HZ.out (by omega) hr
                clear hb13 hr kd12 kx12
                go_wp2_with fail
                go_roundw
                case rel => exact ⟨3, by go_num, by omega, by omega, V13.out, B13.out⟩
                case measure => simp [intOf]
        · as_aux_lemma =>
            go_wp2_with fail
            refine (CO.out _ BB.out).mono ?_
            rintro e w11 ⟨rfl, hb11⟩
            have B11 := Lib.hid (nextC BB.out hb11)
            have K11 := Lib.hid (KB.out.over hb11)
            have X11 := Lib.hid (XB.out.over hb11)
            have V11 := Lib.hid (nextC VB.out hb11)
            clear hb11 kr kd kx
            have CN2 := Lib.hid (CN1.out (-1) (by decide))
            go_wp2_with fail
            refine (CN2.out _ B11.out).mono ?_
            rintro e w12 ⟨⟨n, rfl, hn⟩, hb12⟩
            have B12 := Lib.hid (nextC B11.out hb12)
            have K12 := Lib.hid (K11.out.over hb12)
            have X12 := Lib.hid (X11.out.over hb12)
            have V12 := Lib.hid (nextC V11.out hb12)
            have HN := Lib.hid hn
            clear hb12 hn
            have kd12 := fun o => K12.out.cell o
            have kx12 := fun o => X12.out.cell o
            by_cases hneg : n < 0
            · go_wp2_with fail
              go_roundw
              case rel => exact ⟨4, by go_num, by omega, by omega, V12.out, B12.out⟩
              case measure => simp [intOf]
            · have d0 : decide (n < 0) = false := decide_eq_false hneg
              have hn1 : n < 157054 := near_lt HN.out (by omega)
              go_upto_region 18 with fail
              obtain ⟨zt, hzt⟩ : ∃ zt, n * 86400 + at_ % 86400 = zt := ⟨_, rfl⟩
              have hz0 : 0 ≤ zt := by omega
              have hz1 : zt < 13569465600 := by omega
              rw [hzt]
              have HZ := Lib.hid hzt.symm
              clear hzt
              by_cases hz : zt = 0
              · go_wp2_with fail
                go_roundw
                case rel => exact ⟨4, by go_num, by omega, by omega, V12.out, B12.out⟩
                case measure => simp [intOf]
              · have CG1 := Lib.hid (CG.out 3 (by decide) (zt - 1) (by omega) (by omega))
                have hz' : (zt == 0) = false := by simpa using hz
                go_wp2_with fail
                refine (CG1.out _ B12.out).mono ?_
                rintro e w13 ⟨⟨r, er, rfl, hr⟩, hb13⟩
                have B13 := Lib.hid (nextC B12.out hb13)
                have V13 := Lib.hid (nextC V12.out hb13)
                obtain ⟨rfl, rfl, -⟩ := moves_same (.inr ⟨rfl, rfl⟩) (by omega) a2 a3 HFit.out HN.out (by omega) HZ.out (by omega) hr
                clear hb13 hr kd12 kx12
                go_wp2_with fail
                go_roundw
                case rel => exact ⟨4, by go_num, by omega, by omega, V13.out, B13.out⟩
                case measure => simp [intOf]
        · go_wp2_with fail
          go_ret
          exact ⟨rfl, BB.out⟩
    · go_wp2_with fail
      go_ret
      exact ⟨rfl, B6.out⟩
  · go_wp2_with fail
    go_ret
    exact ⟨rfl, B6.out⟩
theorem walk (A : Option Addr) (cA : Nat) (B : Option Addr) (cB : Nat) (k : Nat) (off on : List Int) (t : Int) (x : Xp) (hx : x.Ok) (w : World) (hk : k < 256) (ha : Sl w .i64 A off) (hb : Sl w .i64 B on) (hT : TabZ w) :
    Calls Tryd.prog 3 #[.agg #[.int .u8 k, .slice A off.length cA, .slice B on.length cB], xpV x, .int .i64 t] w fun e w' => e = .returned (.bool true) ∧ Below w.heap.size w w' := by
  by_cases hh : 30 < off.length ∨ 30 < on.length
  · exact walk_heavy A cA B cB k off on t x w hh
  · have h : CalAt w (.agg #[.int .u8 k, .slice A off.length cA, .slice B on.length cB]) k off on := ⟨⟨A, cA, B, cB, rfl, ha, hb⟩, hk, by omega, by omega⟩
    have h1 : off.length ≤ 30 := by omega
    have h2 : on.length ≤ 30 := by omega
    cases hm : mayC k off on
    · exact walk_nocal A cA B cB k off on t x hx w h h1 h2 hm
    · cases hmx : mayX x
      · exact walk_noexpr A cA B cB k off on t x hx w h h1 h2 hm hmx
      · exact walk_ok A cA B cB k off on t x hx w h h1 h2 hm hmx hT

theorem opened (H : Type) (enc : TypeId × Value → H) (W : World) (base : Nat) (args : Array Value) (ds gs : List (DataW H)) (before : List MemPlace)
    (hval : ∀ (j : Nat) t v, Tryd.f3.params[j]? = some t → args[j]? = some v → Value.okWide Tryd.prog W .any base t v)
    (hW : DataW.Whole enc Tryd.prog Tryd.f3.params.toList Rows.calendarMovesSpec.vars false W args.toList ds gs before)
    (hsz : (DataW.weightsEach Tryd.prog (Tryd.f3.params.toList ++ Rows.calendarMovesSpec.plain.varTypes Tryd.prog) (ds ++ gs)).all (· ≤ reachBytes) = true)
    (hL : laidMetH Tryd.prog Rows.calendarMovesRow.laid W) :
    Calls Tryd.prog 3 args W fun e w' => e = .returned (.bool true) ∧ Below W.heap.size W w' := by
  obtain ⟨p, q, hA, hV, rfl, hfz, hnd⟩ := hW
  rw [Tryd.params3] at hA hval
  obtain ⟨v0, vs0, d0, ds0, p0, q0, hargs, rfl, rfl, h0, r0⟩ := trodAll_cons hA
  obtain ⟨v1, vs1, d1, ds1, p1, q1, rfl, rfl, rfl, h1, r1⟩ := trodAll_cons r0
  obtain ⟨v2, vs2, d2, ds2, p2, q2, rfl, rfl, rfl, h2, r2⟩ := trodAll_cons r1
  obtain ⟨rfl, rfl, rfl⟩ := trodAll_nil r2
  obtain rfl : args = #[v0, v1, v2] := by cases args; simp_all
  obtain ⟨k, A, cA, off, B, cB, on, rfl, hk, s0, s1, w0, w1⟩ := open_cal (hval 0 24 v0 rfl rfl) h0
  obtain ⟨x, rfl, hx⟩ := open_expr (hval 1 29 v1 rfl rfl) h1
  obtain ⟨t, rfl, _, _, wt⟩ := open_int Tryd.underlying2 (hval 2 2 v2 rfl rfl) h2
  exact walk A cA B cB k off on t x hx W hk s0 s1 (tabZ_of_laid hL)

theorem door_met (os : Os) (args : Array Value) : laidMetH Tryd.prog Rows.calendarMovesRow.laid ((World.doorLaid Tryd.prog 14 os).forCall (fun _ _ => 0) ⟨#[], args, []⟩).memory :=
  laidMetH_of_parts3 (fuel := 8) (laidMet_of_run' 8 (by kernel_rfl) (by kernel_rfl)) (by kernel_rfl) (by kernel_rfl)

set_option maxRecDepth 100000 in
theorem lifted (os : Os) (started : os.Started) (H : Type) (enc : TypeId × Value → H) :
    ReturnsInHanded {} Tryd.checked os 3 .any (fun w args => (Rows.calendarMovesSpec.pre enc Tryd.prog Tryd.f3 [] false w args ∧ laidMetH Tryd.prog Rows.calendarMovesRow.laid w) ∧ sizedMet enc Tryd.prog Tryd.f3 (OpenSpec.ofChange Rows.calendarMovesSpec) false w args)
      (Rows.calendarMovesSpec.post enc Tryd.prog Tryd.f3 false true false false) := by
  refine returnsInHanded_of_change_and (C := Tryd.checked) (X := fun w _ => laidMetH Tryd.prog Rows.calendarMovesRow.laid w) (fun _ _ _ hh h => h.of_heap hh) own started (by kernel_rfl) Tryd.func3
    (ChangeSpec.witness_shaped (enc := enc) (C := Tryd.checked) (os := os) (X := fun w _ => laidMetH Tryd.prog Rows.calendarMovesRow.laid w) false (World.doorLaid Tryd.prog 14 os) #[.agg #[.int .u8 0, .slice none 0 0, .slice none 0 0], .agg #[.int .u64 0, .bool false, .int .u64 0, .bool false, .int .u64 0, .bool false, .int .u64 0, .bool false, .int .u64 0, .bool false], .int .i64 0] 8 rfl (World.shaped_of_RefB (by kernel_rfl) (by kernel_rfl)) (by kernel_rfl) (by kernel_rfl) (by kernel_rfl) (door_met os _)) ?_
  intro W base args ds gs before hval hW _ hsz hL _
  refine (opened H enc W base args ds gs before hval hW hsz hL).mono fun e W' ⟨he, hg⟩ => ?_
  subst he
  exact ⟨_, rfl, law_post hW rfl laidOut (by kernel_rfl) rfl Tryd.underlying4 (fun l hl => by match l, hl with | [d0, d1, d2], _ => rfl) hg⟩

theorem over : Rows.calendarMovesRow.holds Tryd.pinned (OpenSpec.ofChange Rows.calendarMovesSpec) :=
  OpenClaim.holds_of_wide 3 Tryd.f3 rfl rfl rfl rfl rfl rfl rfl ⟨rfl, rfl, rfl, rfl, rfl⟩ rfl rfl rfl rfl rfl (by kernel_rfl) Tryd.func3 (by kernel_rfl)
    (of_decide_eq_true (by kernel_rfl)) (by unfold Func.isWrapper; first | (rw [if_pos (by decide +kernel)]; kernel_rfl) | (rw [if_neg (by decide +kernel)]; exact ⟨rfl, rfl⟩))
    (fun os started H enc _ => lifted os started H enc)

theorem own_func {f : FuncId} {fn : Func} (hf : Tryd.prog.funcNamed "ringer/ringerlaw41.CalendarMoves" = some f) (hfn : Tryd.prog.funcs[f]? = some fn) : f = 3 ∧ fn = Tryd.f3 := by
  obtain rfl : f = 3 := Option.some.inj ((show Tryd.prog.funcNamed "ringer/ringerlaw41.CalendarMoves" = some 3 by kernel_rfl).symm.trans hf) |>.symm
  exact ⟨rfl, (Option.some.inj (Tryd.func3.symm.trans hfn)).symm⟩

/-- THE STATEMENT: THE CARD. -/
theorem proved : Rows.CalendarMovesCardSaid := by
  unfold Rows.CalendarMovesCardSaid Rows.calendarMovesCard
  exact Claim7.holds_tied_plain_at .later [] _ true _ _
    over (fun _ h => by cases h) (by kernel_rfl) (fun _ h => by cases h) calendarMoves_row_tie rfl ⟨rfl, rfl⟩ (by kernel_rfl) rfl
    (fun f fn hf hfn => by
      obtain ⟨rfl, rfl⟩ := own_func hf hfn
      exact ⟨by kernel_rfl, fun j t ht => by
        have hall : (Tryd.f3.params.toList.all fun u => !Tryd.prog.wantsStandIn u) = true := by kernel_rfl
        have hm : t ∈ Tryd.f3.params.toList := by simpa using Array.mem_of_getElem? ht
        exact (show Tryd.prog.wantsStandIn t = false by simpa using List.all_eq_true.1 hall t hm)⟩)
    (by kernel_rfl)
#print axioms proved
end Go.Proofs.YthigmjjafilbcaaDoor.calendarMoves
