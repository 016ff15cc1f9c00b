/- CalendarFires. -/
import Derived.Test.YthigmjjafilbcaaCbQ
import Derived.Test.YthigmjjafilbcaaCbR
import Derived.Test.YthigmjjafilbcaaOpC
import Derived.Test.YthigmjjafilbcaaOpX
import Derived.Test.YthigmjjafilbcaaPost
namespace Go.Proofs.Ythigmjjafilbcaa.calendarFires
open Go.ChangeShapes Go.WideShapes Go.ChangeAt Go.RowKit
set_option linter.unusedVariables false
set_option maxRecDepth 100000

theorem laidOut : laidOutB Try.prog = true := by kernel_rfl
theorem own : ownKnob Try.prog.godebug = none := by kernel_rfl
theorem cls2 {w : World} {g g2 : Nat} {t t2 : TypeId} {cs cs2 : Array Value} {T : Type} {F : T → World} (hF : ∀ n, Row (F n) g t cs ∧ Row (F n) g2 t2 cs2 ∧ Below w.heap.size w (F n)) (hG : ∀ v, Row v g t cs ∧ Row v g2 t2 cs2 ∧ Below w.heap.size w v → ∃ n, v = F n) {P : Program} {f : FuncId} {args : Array Value} {r : Value}
    (C : ∀ W, Below w.heap.size w W → Calls P f args W fun e w' => e = .returned r ∧ Below W.heap.size W w') : ∀ n, Calls P f args (F n) fun e w' => e = .returned r ∧ ∃ m, w' = F m :=
  fun n => (C _ (hF n).2.2).mono fun e w' ⟨he, hb⟩ => ⟨he, hG w' ⟨(hF n).1.over hb, (hF n).2.1.over hb, nextC (hF n).2.2 hb⟩⟩
theorem fires_at (b : Bool) (mode : Int) (hmode : 1 ≤ mode ∧ mode ≤ 3) (v : Value) (k : Nat) (off on : List Int) (x : Xp) (hx : x.Ok) (z : Int) (h0 : 0 ≤ z) (h1 : z < 13569465600) (w : World) (h : CalAt w v k off on) (hm : mayC k off on = true) (ho : off.length ≤ 30)
    (hf : FireAt k off on mode x (z / 86400) (z % 86400 / 60) ↔ b = true) :
    Calls Try.prog 16 #[v, .int .u8 mode, xpV x, .int .i64 (z / 86400), .int .i64 (z % 86400 / 60)] w fun e w' => e = .returned (.bool b) ∧ Below w.heap.size w w' := by
  refine (fires_any mode hmode v k off on x hx (z / 86400) (z % 86400 / 60) (by omega) (by omega) (by omega) (by omega) w h hm).mono fun e w' ⟨⟨r, he, hr⟩, hb⟩ => ⟨?_, hb⟩
  rw [← fire_hit mode x (z / 86400) (z % 86400 / 60) hmode (mayC_parts hm).1 ho (inB_iff.2 ⟨by omega, by omega⟩)] at hr
  rw [he, show r = b from Bool.eq_iff_iff.2 (hr.trans hf)]
/-- What After says, by minutes. -/
theorem after_quiet {k : Nat} {off on : List Int} {mode : Int} {x : Xp} {t r e : Int} (h0 : 0 ≤ t) (h1 : t < 13569465600) (h : AfterIs k off on mode x t r e) :
    (e = 0 ∧ t < r ∧ r < 13569465600 ∧ r % 60 = 0 ∧ FireAt k off on mode x (r / 86400) (r % 86400 / 60) ∧ ∀ z, t < z → z ≤ r - 1 → z % 60 = 0 → ¬ FireAt k off on mode x (z / 86400) (z % 86400 / 60)) ∨
    (e = 5 ∧ r = 0 ∧ ∀ z, t < z → z ≤ t + 259200 → z ≤ 13569465599 → z % 60 = 0 → ¬ FireAt k off on mode x (z / 86400) (z % 86400 / 60)) := by
  rcases h with ⟨n, m, hin, n0, n1, m0, m1, ht, hf, rfl, rfl, hq, hq'⟩ | ⟨rfl, rfl, hq⟩
  · have hb := inB_iff.1 hin
    have e1 : (n * 86400 + m * 60) / 86400 = n := by omega
    have e2 : (n * 86400 + m * 60) % 86400 / 60 = m := by omega
    refine .inl ⟨rfl, ht, by omega, by omega, by rw [e1, e2]; exact hf, fun z z0 z1 z2 => ?_⟩
    obtain ⟨d, hd⟩ : ∃ d, z / 86400 = d := ⟨_, rfl⟩
    obtain ⟨mm, hmm⟩ : ∃ mm, z % 86400 / 60 = mm := ⟨_, rfl⟩
    rw [hd, hmm]
    have hz : z = d * 86400 + mm * 60 := by omega
    by_cases hlt : d < n
    · exact hq d (by omega) hlt mm (by omega) (by omega) (by omega)
    · have : d = n := by omega
      subst this
      exact hq' mm (by omega) (by omega) (by omega)
  · refine .inr ⟨rfl, rfl, fun z z0 z1 z2 z3 => ?_⟩
    exact hq (z / 86400) (by omega) (by omega) (inB_iff.2 ⟨by omega, by omega⟩) (z % 86400 / 60) (by omega) (by omega) (by omega)
theorem heavy_raw (A : Option Addr) (cA : Nat) (B : Option Addr) (cB : Nat) (k : Nat) (off on : List Int) (w : World) (hh : 30 < off.length ∨ 30 < on.length) :
    Calls Try.prog 7 #[.agg #[.int .u8 k, .slice A off.length cA, .slice B on.length cB]] w fun e w' => e = .returned (.bool true) ∧ Below w.heap.size w w' := by
  obtain ⟨WB, hWB⟩ : ∃ WB, w.alloc (.cells #[.int .u8 k, .slice A off.length cA, .slice B on.length cB] 24) = WB := ⟨_, rfl⟩
  have K := Lib.hid (show Row WB w.heap.size _ _ by rw [← hWB]; exact Row.new _ _ _)
  have Q0 := Lib.hid (show Below w.heap.size w WB by rw [← hWB]; exact nextB (Below.refl _ _))
  have HW := Lib.hid hWB
  clear hWB
  have hh' : (30 : Int) < (off.length : Int) ∨ decide ((30 : Int) < (off.length : Int)) = false ∧ (30 : Int) < (on.length : Int) := by
    by_cases h : 30 < off.length
    · exact .inl (by omega)
    · exact .inr ⟨decide_eq_false (by omega), by omega⟩
  clear hh
  go_enter Try.func7, Try.ntmps7
  go_upto_region 1 with fail
  rw [HW.out]
  have kd0 := fun o => K.out.cell o
  rcases hh' with h1 | ⟨h1, h2⟩
  · go_wp2_with fail
    go_ret
    exact ⟨rfl, Q0.out⟩
  · have h1' : decide (30 < off.length) = false := decide_eq_false (by have := of_decide_eq_false h1; omega)
    go_wp2_with fail
    go_ret
    exact ⟨rfl, Q0.out⟩
set_option maxHeartbeats 2000000 in
theorem walk_heavy (A : Option Addr) (cA : Nat) (B : Option Addr) (cB : Nat) (k : Nat) (off on : List Int) (mode t : Int) (x : Xp) (w : World) (hh : 30 < off.length ∨ 30 < on.length) :
    Calls Try.prog 4 #[.agg #[.int .u8 k, .slice A off.length cA, .slice B on.length cB], .int .u8 mode, .agg #[.int .u64 x.b0, .bool x.s0, .int .u64 x.b1, .bool x.s1, .int .u64 x.b2, .bool x.s2, .int .u64 x.b3, .bool x.s3, .int .u64 x.b4, .bool x.s4], .int .i64 t] w fun e w' => e = .returned (.bool true) ∧ Below w.heap.size w w' := by
  have KN := Lib.hid known_any
  have CH := Lib.hid (fun W (h : Below w.heap.size w W) => heavy_raw A cA B cB k off on W hh)
  clear hh
  obtain ⟨WB, hWB⟩ : ∃ WB, (w.alloc (.cells #[.int .u8 k, .slice A off.length cA, .slice B on.length cB] 24)).alloc (.cells #[.int .u64 x.b0, .bool x.s0, .int .u64 x.b1, .bool x.s1, .int .u64 x.b2, .bool x.s2, .int .u64 x.b3, .bool x.s3, .int .u64 x.b4, .bool x.s4] 40) = WB := ⟨_, rfl⟩
  have T2 := two rfl hWB
  have K := Lib.hid T2.1
  have KX := Lib.hid T2.2.1
  have Q0 := Lib.hid T2.2.2.1
  have HW := Lib.hid hWB
  clear hWB T2
  go_enter Try.func4, Try.ntmps4
  go_upto_region 1 with fail
  rw [HW.out]
  go_wp2_with fail
  refine (KN.out _).mono ?_
  rintro e w1 ⟨rfl, hb1⟩
  have B1 := Lib.hid (nextC Q0.out hb1)
  have K1 := Lib.hid (K.out.over hb1)
  have X1 := Lib.hid (KX.out.over hb1)
  have kd1 := fun o => K1.out.cell o
  have kx1 := fun o => X1.out.cell o
  clear hb1
  go_wp2_with fail
  refine (CH.out _ B1.out).mono ?_
  rintro e w2 ⟨rfl, hb2⟩
  have B2 := Lib.hid (nextC B1.out hb2)
  have K2 := Lib.hid (K1.out.over hb2)
  have X2 := Lib.hid (X1.out.over hb2)
  have kd2 := fun o => K2.out.cell o
  have kx2 := fun o => X2.out.cell o
  clear hb2 kd1 kx1
  go_wp2_with fail
  go_ret
  exact ⟨rfl, B2.out⟩
set_option maxHeartbeats 4000000 in
theorem walk_nocal (A : Option Addr) (cA : Nat) (B : Option Addr) (cB : Nat) (k : Nat) (off on : List Int) (mode t : Int) (x : Xp) (hx : x.Ok) (w : World) (h : CalAt w (.agg #[.int .u8 k, .slice A off.length cA, .slice B on.length cB]) k off on) (h1 : off.length ≤ 30) (h2 : on.length ≤ 30) (hm : mayC k off on = false) :
    Calls Try.prog 4 #[.agg #[.int .u8 k, .slice A off.length cA, .slice B on.length cB], .int .u8 mode, .agg #[.int .u64 x.b0, .bool x.s0, .int .u64 x.b1, .bool x.s1, .int .u64 x.b2, .bool x.s2, .int .u64 x.b3, .bool x.s3, .int .u64 x.b4, .bool x.s4], .int .i64 t] w fun e w' => e = .returned (.bool true) ∧ Below w.heap.size w w' := by
  have KN := Lib.hid known_any
  have CH := Lib.hid (fun W (hW : Below w.heap.size w W) => heavy_any _ k off on W (h.over hW))
  have CO := Lib.hid (fun W (hW : Below w.heap.size w W) => ofC_any _ k off on W (h.over hW))
  have CR := Lib.hid (fun W (hW : Below w.heap.size w W) => refCMay_any _ k off on W (h.over hW))
  have CX := Lib.hid (fun W (hW : Below w.heap.size w W) => refMayX_any x hx W)
  rw [show (decide (30 < (off.length : Int)) || decide (30 < (on.length : Int))) = false by simp; omega] at CH
  dsimp only [xpV] at CX
  have CA := Lib.hid (fun W (hW : Below w.heap.size w W) => after_nocal _ k off on mode x hx t W (h.over hW) hm)
  dsimp only [xpV] at CA
  rw [hm] at CR
  clear hm
  clear h h1 h2
  obtain ⟨WB, hWB⟩ : ∃ WB, (w.alloc (.cells #[.int .u8 k, .slice A off.length cA, .slice B on.length cB] 24)).alloc (.cells #[.int .u64 x.b0, .bool x.s0, .int .u64 x.b1, .bool x.s1, .int .u64 x.b2, .bool x.s2, .int .u64 x.b3, .bool x.s3, .int .u64 x.b4, .bool x.s4] 40) = WB := ⟨_, rfl⟩
  have T2 := two rfl hWB
  have K := Lib.hid T2.1
  have KX := Lib.hid T2.2.1
  have Q0 := Lib.hid T2.2.2.1
  have HW := Lib.hid hWB
  clear hWB T2
  go_enter Try.func4, Try.ntmps4
  go_upto_region 1 with fail
  rw [HW.out]
  go_wp2_with fail
  refine (KN.out _).mono ?_
  rintro e w1 ⟨rfl, hb1⟩
  have B1 := Lib.hid (nextC Q0.out hb1)
  have K1 := Lib.hid (K.out.over hb1)
  have X1 := Lib.hid (KX.out.over hb1)
  have kd1 := fun o => K1.out.cell o
  have kx1 := fun o => X1.out.cell o
  clear hb1
  go_wp2_with fail
  refine (CH.out _ B1.out).mono ?_
  rintro e w2 ⟨rfl, hb2⟩
  have B2 := Lib.hid (nextC B1.out hb2)
  have K2 := Lib.hid (K1.out.over hb2)
  have X2 := Lib.hid (X1.out.over hb2)
  have kd2 := fun o => K2.out.cell o
  have kx2 := fun o => X2.out.cell o
  clear hb2 kd1 kx1
  go_wp2_with fail
  refine (CA.out _ B2.out).mono ?_
  rintro e w3 ⟨rfl, hb3⟩
  have B3 := Lib.hid (nextC B2.out hb3)
  have K3 := Lib.hid (K2.out.over hb3)
  have X3 := Lib.hid (X2.out.over hb3)
  have kd3 := fun o => K3.out.cell o
  have kx3 := fun o => X3.out.cell o
  clear hb3 kd2 kx2
  go_wp2_with fail
  refine (CO.out _ B3.out).mono ?_
  rintro e w4 ⟨rfl, hb4⟩
  have B4 := Lib.hid (nextC B3.out hb4)
  have K4 := Lib.hid (K3.out.over hb4)
  have X4 := Lib.hid (X3.out.over hb4)
  have kd4 := fun o => K4.out.cell o
  have kx4 := fun o => X4.out.cell o
  clear hb4 kd3 kx3
  go_wp2_with fail
  refine (CR.out _ B4.out).mono ?_
  rintro e w5 ⟨rfl, hb5⟩
  have B5 := Lib.hid (nextC B4.out hb5)
  have K5 := Lib.hid (K4.out.over hb5)
  have X5 := Lib.hid (X4.out.over hb5)
  have kd5 := fun o => K5.out.cell o
  have kx5 := fun o => X5.out.cell o
  clear hb5 kd4 kx4
  go_wp2_with fail
  go_ret
  exact ⟨rfl, B5.out⟩
set_option maxHeartbeats 4000000 in
theorem walk_low (A : Option Addr) (cA : Nat) (B : Option Addr) (cB : Nat) (k : Nat) (off on : List Int) (mode t : Int) (x : Xp) (hx : x.Ok) (w : World) (h : CalAt w (.agg #[.int .u8 k, .slice A off.length cA, .slice B on.length cB]) k off on) (h1 : off.length ≤ 30) (h2 : on.length ≤ 30) (hm : mayC k off on = true) (hmo : mode < 1) :
    Calls Try.prog 4 #[.agg #[.int .u8 k, .slice A off.length cA, .slice B on.length cB], .int .u8 mode, .agg #[.int .u64 x.b0, .bool x.s0, .int .u64 x.b1, .bool x.s1, .int .u64 x.b2, .bool x.s2, .int .u64 x.b3, .bool x.s3, .int .u64 x.b4, .bool x.s4], .int .i64 t] w fun e w' => e = .returned (.bool true) ∧ Below w.heap.size w w' := by
  have KN := Lib.hid known_any
  have CH := Lib.hid (fun W (hW : Below w.heap.size w W) => heavy_any _ k off on W (h.over hW))
  have CO := Lib.hid (fun W (hW : Below w.heap.size w W) => ofC_any _ k off on W (h.over hW))
  have CR := Lib.hid (fun W (hW : Below w.heap.size w W) => refCMay_any _ k off on W (h.over hW))
  have CX := Lib.hid (fun W (hW : Below w.heap.size w W) => refMayX_any x hx W)
  rw [show (decide (30 < (off.length : Int)) || decide (30 < (on.length : Int))) = false by simp; omega] at CH
  dsimp only [xpV] at CX
  have CA := Lib.hid (fun W (hW : Below w.heap.size w W) => after_nomode _ k off on mode x hx t W (h.over hW) hm (.inl hmo))
  dsimp only [xpV] at CA
  rw [hm] at CR
  clear hm
  clear h h1 h2
  obtain ⟨WB, hWB⟩ : ∃ WB, (w.alloc (.cells #[.int .u8 k, .slice A off.length cA, .slice B on.length cB] 24)).alloc (.cells #[.int .u64 x.b0, .bool x.s0, .int .u64 x.b1, .bool x.s1, .int .u64 x.b2, .bool x.s2, .int .u64 x.b3, .bool x.s3, .int .u64 x.b4, .bool x.s4] 40) = WB := ⟨_, rfl⟩
  have T2 := two rfl hWB
  have K := Lib.hid T2.1
  have KX := Lib.hid T2.2.1
  have Q0 := Lib.hid T2.2.2.1
  have HW := Lib.hid hWB
  clear hWB T2
  go_enter Try.func4, Try.ntmps4
  go_upto_region 1 with fail
  rw [HW.out]
  go_wp2_with fail
  refine (KN.out _).mono ?_
  rintro e w1 ⟨rfl, hb1⟩
  have B1 := Lib.hid (nextC Q0.out hb1)
  have K1 := Lib.hid (K.out.over hb1)
  have X1 := Lib.hid (KX.out.over hb1)
  have kd1 := fun o => K1.out.cell o
  have kx1 := fun o => X1.out.cell o
  clear hb1
  go_wp2_with fail
  refine (CH.out _ B1.out).mono ?_
  rintro e w2 ⟨rfl, hb2⟩
  have B2 := Lib.hid (nextC B1.out hb2)
  have K2 := Lib.hid (K1.out.over hb2)
  have X2 := Lib.hid (X1.out.over hb2)
  have kd2 := fun o => K2.out.cell o
  have kx2 := fun o => X2.out.cell o
  clear hb2 kd1 kx1
  go_wp2_with fail
  refine (CA.out _ B2.out).mono ?_
  rintro e w3 ⟨rfl, hb3⟩
  have B3 := Lib.hid (nextC B2.out hb3)
  have K3 := Lib.hid (K2.out.over hb3)
  have X3 := Lib.hid (X2.out.over hb3)
  have kd3 := fun o => K3.out.cell o
  have kx3 := fun o => X3.out.cell o
  clear hb3 kd2 kx2
  go_wp2_with fail
  refine (CO.out _ B3.out).mono ?_
  rintro e w4 ⟨rfl, hb4⟩
  have B4 := Lib.hid (nextC B3.out hb4)
  have K4 := Lib.hid (K3.out.over hb4)
  have X4 := Lib.hid (X3.out.over hb4)
  have kd4 := fun o => K4.out.cell o
  have kx4 := fun o => X4.out.cell o
  clear hb4 kd3 kx3
  go_wp2_with fail
  refine (CR.out _ B4.out).mono ?_
  rintro e w5 ⟨rfl, hb5⟩
  have B5 := Lib.hid (nextC B4.out hb5)
  have K5 := Lib.hid (K4.out.over hb5)
  have X5 := Lib.hid (X4.out.over hb5)
  have kd5 := fun o => K5.out.cell o
  have kx5 := fun o => X5.out.cell o
  clear hb5 kd4 kx4
  go_wp2_with fail
  go_ret
  exact ⟨rfl, B5.out⟩
set_option maxHeartbeats 4000000 in
theorem walk_high (A : Option Addr) (cA : Nat) (B : Option Addr) (cB : Nat) (k : Nat) (off on : List Int) (mode t : Int) (x : Xp) (hx : x.Ok) (w : World) (h : CalAt w (.agg #[.int .u8 k, .slice A off.length cA, .slice B on.length cB]) k off on) (h1 : off.length ≤ 30) (h2 : on.length ≤ 30) (hm : mayC k off on = true) (hmo : 3 < mode) :
    Calls Try.prog 4 #[.agg #[.int .u8 k, .slice A off.length cA, .slice B on.length cB], .int .u8 mode, .agg #[.int .u64 x.b0, .bool x.s0, .int .u64 x.b1, .bool x.s1, .int .u64 x.b2, .bool x.s2, .int .u64 x.b3, .bool x.s3, .int .u64 x.b4, .bool x.s4], .int .i64 t] w fun e w' => e = .returned (.bool true) ∧ Below w.heap.size w w' := by
  have KN := Lib.hid known_any
  have CH := Lib.hid (fun W (hW : Below w.heap.size w W) => heavy_any _ k off on W (h.over hW))
  have CO := Lib.hid (fun W (hW : Below w.heap.size w W) => ofC_any _ k off on W (h.over hW))
  have CR := Lib.hid (fun W (hW : Below w.heap.size w W) => refCMay_any _ k off on W (h.over hW))
  have CX := Lib.hid (fun W (hW : Below w.heap.size w W) => refMayX_any x hx W)
  rw [show (decide (30 < (off.length : Int)) || decide (30 < (on.length : Int))) = false by simp; omega] at CH
  dsimp only [xpV] at CX
  have CA := Lib.hid (fun W (hW : Below w.heap.size w W) => after_nomode _ k off on mode x hx t W (h.over hW) hm (.inr hmo))
  dsimp only [xpV] at CA
  rw [hm] at CR
  have d1 : decide (mode < 1) = false := decide_eq_false (by omega)
  clear hm
  clear h h1 h2
  obtain ⟨WB, hWB⟩ : ∃ WB, (w.alloc (.cells #[.int .u8 k, .slice A off.length cA, .slice B on.length cB] 24)).alloc (.cells #[.int .u64 x.b0, .bool x.s0, .int .u64 x.b1, .bool x.s1, .int .u64 x.b2, .bool x.s2, .int .u64 x.b3, .bool x.s3, .int .u64 x.b4, .bool x.s4] 40) = WB := ⟨_, rfl⟩
  have T2 := two rfl hWB
  have K := Lib.hid T2.1
  have KX := Lib.hid T2.2.1
  have Q0 := Lib.hid T2.2.2.1
  have HW := Lib.hid hWB
  clear hWB T2
  go_enter Try.func4, Try.ntmps4
  go_upto_region 1 with fail
  rw [HW.out]
  go_wp2_with fail
  refine (KN.out _).mono ?_
  rintro e w1 ⟨rfl, hb1⟩
  have B1 := Lib.hid (nextC Q0.out hb1)
  have K1 := Lib.hid (K.out.over hb1)
  have X1 := Lib.hid (KX.out.over hb1)
  have kd1 := fun o => K1.out.cell o
  have kx1 := fun o => X1.out.cell o
  clear hb1
  go_wp2_with fail
  refine (CH.out _ B1.out).mono ?_
  rintro e w2 ⟨rfl, hb2⟩
  have B2 := Lib.hid (nextC B1.out hb2)
  have K2 := Lib.hid (K1.out.over hb2)
  have X2 := Lib.hid (X1.out.over hb2)
  have kd2 := fun o => K2.out.cell o
  have kx2 := fun o => X2.out.cell o
  clear hb2 kd1 kx1
  go_wp2_with fail
  refine (CA.out _ B2.out).mono ?_
  rintro e w3 ⟨rfl, hb3⟩
  have B3 := Lib.hid (nextC B2.out hb3)
  have K3 := Lib.hid (K2.out.over hb3)
  have X3 := Lib.hid (X2.out.over hb3)
  have kd3 := fun o => K3.out.cell o
  have kx3 := fun o => X3.out.cell o
  clear hb3 kd2 kx2
  go_wp2_with fail
  refine (CO.out _ B3.out).mono ?_
  rintro e w4 ⟨rfl, hb4⟩
  have B4 := Lib.hid (nextC B3.out hb4)
  have K4 := Lib.hid (K3.out.over hb4)
  have X4 := Lib.hid (X3.out.over hb4)
  have kd4 := fun o => K4.out.cell o
  have kx4 := fun o => X4.out.cell o
  clear hb4 kd3 kx3
  go_wp2_with fail
  refine (CR.out _ B4.out).mono ?_
  rintro e w5 ⟨rfl, hb5⟩
  have B5 := Lib.hid (nextC B4.out hb5)
  have K5 := Lib.hid (K4.out.over hb5)
  have X5 := Lib.hid (X4.out.over hb5)
  have kd5 := fun o => K5.out.cell o
  have kx5 := fun o => X5.out.cell o
  clear hb5 kd4 kx4
  go_wp2_with fail
  go_ret
  exact ⟨rfl, B5.out⟩
set_option maxHeartbeats 4000000 in
theorem walk_noexpr (A : Option Addr) (cA : Nat) (B : Option Addr) (cB : Nat) (k : Nat) (off on : List Int) (mode t : Int) (x : Xp) (hx : x.Ok) (w : World) (h : CalAt w (.agg #[.int .u8 k, .slice A off.length cA, .slice B on.length cB]) k off on) (h1 : off.length ≤ 30) (h2 : on.length ≤ 30) (hm : mayC k off on = true) (hmode : 1 ≤ mode ∧ mode ≤ 3) (hmx : mayX x = false) :
    Calls Try.prog 4 #[.agg #[.int .u8 k, .slice A off.length cA, .slice B on.length cB], .int .u8 mode, .agg #[.int .u64 x.b0, .bool x.s0, .int .u64 x.b1, .bool x.s1, .int .u64 x.b2, .bool x.s2, .int .u64 x.b3, .bool x.s3, .int .u64 x.b4, .bool x.s4], .int .i64 t] w fun e w' => e = .returned (.bool true) ∧ Below w.heap.size w w' := by
  have KN := Lib.hid known_any
  have CH := Lib.hid (fun W (hW : Below w.heap.size w W) => heavy_any _ k off on W (h.over hW))
  have CO := Lib.hid (fun W (hW : Below w.heap.size w W) => ofC_any _ k off on W (h.over hW))
  have CR := Lib.hid (fun W (hW : Below w.heap.size w W) => refCMay_any _ k off on W (h.over hW))
  have CX := Lib.hid (fun W (hW : Below w.heap.size w W) => refMayX_any x hx W)
  rw [show (decide (30 < (off.length : Int)) || decide (30 < (on.length : Int))) = false by simp; omega] at CH
  dsimp only [xpV] at CX
  have CA := Lib.hid (fun W (hW : Below w.heap.size w W) => after_noexpr _ k off on mode x hx t W (h.over hW) hm hmode hmx)
  dsimp only [xpV] at CA
  rw [hm] at CR
  rw [hmx] at CX
  have d1 : decide (mode < 1) = false := decide_eq_false (by omega)
  have d2 : decide (3 < mode) = false := decide_eq_false (by omega)
  clear hm hmode hmx
  clear h h1 h2
  obtain ⟨WB, hWB⟩ : ∃ WB, (w.alloc (.cells #[.int .u8 k, .slice A off.length cA, .slice B on.length cB] 24)).alloc (.cells #[.int .u64 x.b0, .bool x.s0, .int .u64 x.b1, .bool x.s1, .int .u64 x.b2, .bool x.s2, .int .u64 x.b3, .bool x.s3, .int .u64 x.b4, .bool x.s4] 40) = WB := ⟨_, rfl⟩
  have T2 := two rfl hWB
  have K := Lib.hid T2.1
  have KX := Lib.hid T2.2.1
  have Q0 := Lib.hid T2.2.2.1
  have HW := Lib.hid hWB
  clear hWB T2
  go_enter Try.func4, Try.ntmps4
  go_upto_region 1 with fail
  rw [HW.out]
  go_wp2_with fail
  refine (KN.out _).mono ?_
  rintro e w1 ⟨rfl, hb1⟩
  have B1 := Lib.hid (nextC Q0.out hb1)
  have K1 := Lib.hid (K.out.over hb1)
  have X1 := Lib.hid (KX.out.over hb1)
  have kd1 := fun o => K1.out.cell o
  have kx1 := fun o => X1.out.cell o
  clear hb1
  go_wp2_with fail
  refine (CH.out _ B1.out).mono ?_
  rintro e w2 ⟨rfl, hb2⟩
  have B2 := Lib.hid (nextC B1.out hb2)
  have K2 := Lib.hid (K1.out.over hb2)
  have X2 := Lib.hid (X1.out.over hb2)
  have kd2 := fun o => K2.out.cell o
  have kx2 := fun o => X2.out.cell o
  clear hb2 kd1 kx1
  go_wp2_with fail
  refine (CA.out _ B2.out).mono ?_
  rintro e w3 ⟨rfl, hb3⟩
  have B3 := Lib.hid (nextC B2.out hb3)
  have K3 := Lib.hid (K2.out.over hb3)
  have X3 := Lib.hid (X2.out.over hb3)
  have kd3 := fun o => K3.out.cell o
  have kx3 := fun o => X3.out.cell o
  clear hb3 kd2 kx2
  go_wp2_with fail
  refine (CO.out _ B3.out).mono ?_
  rintro e w4 ⟨rfl, hb4⟩
  have B4 := Lib.hid (nextC B3.out hb4)
  have K4 := Lib.hid (K3.out.over hb4)
  have X4 := Lib.hid (X3.out.over hb4)
  have kd4 := fun o => K4.out.cell o
  have kx4 := fun o => X4.out.cell o
  clear hb4 kd3 kx3
  go_wp2_with fail
  refine (CR.out _ B4.out).mono ?_
  rintro e w5 ⟨rfl, hb5⟩
  have B5 := Lib.hid (nextC B4.out hb5)
  have K5 := Lib.hid (K4.out.over hb5)
  have X5 := Lib.hid (X4.out.over hb5)
  have kd5 := fun o => K5.out.cell o
  have kx5 := fun o => X5.out.cell o
  clear hb5 kd4 kx4
  go_wp2_with fail
  refine (CX.out _ B5.out).mono ?_
  rintro e w6 ⟨rfl, hb6⟩
  have B6 := Lib.hid (nextC B5.out hb6)
  have K6 := Lib.hid (K5.out.over hb6)
  have X6 := Lib.hid (X5.out.over hb6)
  have kd6 := fun o => K6.out.cell o
  have kx6 := fun o => X6.out.cell o
  clear hb6 kd5 kx5
  go_wp2_with fail
  go_ret
  exact ⟨rfl, B6.out⟩
set_option maxHeartbeats 4000000 in
theorem walk_early (A : Option Addr) (cA : Nat) (B : Option Addr) (cB : Nat) (k : Nat) (off on : List Int) (mode t : Int) (x : Xp) (hx : x.Ok) (w : World) (h : CalAt w (.agg #[.int .u8 k, .slice A off.length cA, .slice B on.length cB]) k off on) (h1 : off.length ≤ 30) (h2 : on.length ≤ 30) (hm : mayC k off on = true) (hmode : 1 ≤ mode ∧ mode ≤ 3) (hmx : mayX x = true) (ht : t < 0) :
    Calls Try.prog 4 #[.agg #[.int .u8 k, .slice A off.length cA, .slice B on.length cB], .int .u8 mode, .agg #[.int .u64 x.b0, .bool x.s0, .int .u64 x.b1, .bool x.s1, .int .u64 x.b2, .bool x.s2, .int .u64 x.b3, .bool x.s3, .int .u64 x.b4, .bool x.s4], .int .i64 t] w fun e w' => e = .returned (.bool true) ∧ Below w.heap.size w w' := by
  have KN := Lib.hid known_any
  have CH := Lib.hid (fun W (hW : Below w.heap.size w W) => heavy_any _ k off on W (h.over hW))
  have CO := Lib.hid (fun W (hW : Below w.heap.size w W) => ofC_any _ k off on W (h.over hW))
  have CR := Lib.hid (fun W (hW : Below w.heap.size w W) => refCMay_any _ k off on W (h.over hW))
  have CX := Lib.hid (fun W (hW : Below w.heap.size w W) => refMayX_any x hx W)
  rw [show (decide (30 < (off.length : Int)) || decide (30 < (on.length : Int))) = false by simp; omega] at CH
  dsimp only [xpV] at CX
  have CA := Lib.hid (fun W (hW : Below w.heap.size w W) => after_range _ k off on mode x hx t W (h.over hW) hm hmode hmx (.inl ht))
  dsimp only [xpV] at CA
  rw [hm] at CR
  rw [hmx] at CX
  have d1 : decide (mode < 1) = false := decide_eq_false (by omega)
  have d2 : decide (3 < mode) = false := decide_eq_false (by omega)
  clear hm hmode hmx
  clear h h1 h2
  obtain ⟨WB, hWB⟩ : ∃ WB, (w.alloc (.cells #[.int .u8 k, .slice A off.length cA, .slice B on.length cB] 24)).alloc (.cells #[.int .u64 x.b0, .bool x.s0, .int .u64 x.b1, .bool x.s1, .int .u64 x.b2, .bool x.s2, .int .u64 x.b3, .bool x.s3, .int .u64 x.b4, .bool x.s4] 40) = WB := ⟨_, rfl⟩
  have T2 := two rfl hWB
  have K := Lib.hid T2.1
  have KX := Lib.hid T2.2.1
  have Q0 := Lib.hid T2.2.2.1
  have HW := Lib.hid hWB
  clear hWB T2
  go_enter Try.func4, Try.ntmps4
  go_upto_region 1 with fail
  rw [HW.out]
  go_wp2_with fail
  refine (KN.out _).mono ?_
  rintro e w1 ⟨rfl, hb1⟩
  have B1 := Lib.hid (nextC Q0.out hb1)
  have K1 := Lib.hid (K.out.over hb1)
  have X1 := Lib.hid (KX.out.over hb1)
  have kd1 := fun o => K1.out.cell o
  have kx1 := fun o => X1.out.cell o
  clear hb1
  go_wp2_with fail
  refine (CH.out _ B1.out).mono ?_
  rintro e w2 ⟨rfl, hb2⟩
  have B2 := Lib.hid (nextC B1.out hb2)
  have K2 := Lib.hid (K1.out.over hb2)
  have X2 := Lib.hid (X1.out.over hb2)
  have kd2 := fun o => K2.out.cell o
  have kx2 := fun o => X2.out.cell o
  clear hb2 kd1 kx1
  go_wp2_with fail
  refine (CA.out _ B2.out).mono ?_
  rintro e w3 ⟨rfl, hb3⟩
  have B3 := Lib.hid (nextC B2.out hb3)
  have K3 := Lib.hid (K2.out.over hb3)
  have X3 := Lib.hid (X2.out.over hb3)
  have kd3 := fun o => K3.out.cell o
  have kx3 := fun o => X3.out.cell o
  clear hb3 kd2 kx2
  go_wp2_with fail
  refine (CO.out _ B3.out).mono ?_
  rintro e w4 ⟨rfl, hb4⟩
  have B4 := Lib.hid (nextC B3.out hb4)
  have K4 := Lib.hid (K3.out.over hb4)
  have X4 := Lib.hid (X3.out.over hb4)
  have kd4 := fun o => K4.out.cell o
  have kx4 := fun o => X4.out.cell o
  clear hb4 kd3 kx3
  go_wp2_with fail
  refine (CR.out _ B4.out).mono ?_
  rintro e w5 ⟨rfl, hb5⟩
  have B5 := Lib.hid (nextC B4.out hb5)
  have K5 := Lib.hid (K4.out.over hb5)
  have X5 := Lib.hid (X4.out.over hb5)
  have kd5 := fun o => K5.out.cell o
  have kx5 := fun o => X5.out.cell o
  clear hb5 kd4 kx4
  go_wp2_with fail
  refine (CX.out _ B5.out).mono ?_
  rintro e w6 ⟨rfl, hb6⟩
  have B6 := Lib.hid (nextC B5.out hb6)
  have K6 := Lib.hid (K5.out.over hb6)
  have X6 := Lib.hid (X5.out.over hb6)
  have kd6 := fun o => K6.out.cell o
  have kx6 := fun o => X6.out.cell o
  clear hb6 kd5 kx5
  go_wp2_with fail
  go_ret
  exact ⟨rfl, B6.out⟩
set_option maxHeartbeats 4000000 in
theorem walk_late (A : Option Addr) (cA : Nat) (B : Option Addr) (cB : Nat) (k : Nat) (off on : List Int) (mode t : Int) (x : Xp) (hx : x.Ok) (w : World) (h : CalAt w (.agg #[.int .u8 k, .slice A off.length cA, .slice B on.length cB]) k off on) (h1 : off.length ≤ 30) (h2 : on.length ≤ 30) (hm : mayC k off on = true) (hmode : 1 ≤ mode ∧ mode ≤ 3) (hmx : mayX x = true) (ht : 13569465600 ≤ t) :
    Calls Try.prog 4 #[.agg #[.int .u8 k, .slice A off.length cA, .slice B on.length cB], .int .u8 mode, .agg #[.int .u64 x.b0, .bool x.s0, .int .u64 x.b1, .bool x.s1, .int .u64 x.b2, .bool x.s2, .int .u64 x.b3, .bool x.s3, .int .u64 x.b4, .bool x.s4], .int .i64 t] w fun e w' => e = .returned (.bool true) ∧ Below w.heap.size w w' := by
  have KN := Lib.hid known_any
  have CH := Lib.hid (fun W (hW : Below w.heap.size w W) => heavy_any _ k off on W (h.over hW))
  have CO := Lib.hid (fun W (hW : Below w.heap.size w W) => ofC_any _ k off on W (h.over hW))
  have CR := Lib.hid (fun W (hW : Below w.heap.size w W) => refCMay_any _ k off on W (h.over hW))
  have CX := Lib.hid (fun W (hW : Below w.heap.size w W) => refMayX_any x hx W)
  rw [show (decide (30 < (off.length : Int)) || decide (30 < (on.length : Int))) = false by simp; omega] at CH
  dsimp only [xpV] at CX
  have CA := Lib.hid (fun W (hW : Below w.heap.size w W) => after_range _ k off on mode x hx t W (h.over hW) hm hmode hmx (.inr ht))
  dsimp only [xpV] at CA
  rw [hm] at CR
  rw [hmx] at CX
  have d1 : decide (mode < 1) = false := decide_eq_false (by omega)
  have d2 : decide (3 < mode) = false := decide_eq_false (by omega)
  have d3 : decide (t < 0) = false := decide_eq_false (by omega)
  clear hm hmode hmx
  clear h h1 h2
  obtain ⟨WB, hWB⟩ : ∃ WB, (w.alloc (.cells #[.int .u8 k, .slice A off.length cA, .slice B on.length cB] 24)).alloc (.cells #[.int .u64 x.b0, .bool x.s0, .int .u64 x.b1, .bool x.s1, .int .u64 x.b2, .bool x.s2, .int .u64 x.b3, .bool x.s3, .int .u64 x.b4, .bool x.s4] 40) = WB := ⟨_, rfl⟩
  have T2 := two rfl hWB
  have K := Lib.hid T2.1
  have KX := Lib.hid T2.2.1
  have Q0 := Lib.hid T2.2.2.1
  have HW := Lib.hid hWB
  clear hWB T2
  go_enter Try.func4, Try.ntmps4
  go_upto_region 1 with fail
  rw [HW.out]
  go_wp2_with fail
  refine (KN.out _).mono ?_
  rintro e w1 ⟨rfl, hb1⟩
  have B1 := Lib.hid (nextC Q0.out hb1)
  have K1 := Lib.hid (K.out.over hb1)
  have X1 := Lib.hid (KX.out.over hb1)
  have kd1 := fun o => K1.out.cell o
  have kx1 := fun o => X1.out.cell o
  clear hb1
  go_wp2_with fail
  refine (CH.out _ B1.out).mono ?_
  rintro e w2 ⟨rfl, hb2⟩
  have B2 := Lib.hid (nextC B1.out hb2)
  have K2 := Lib.hid (K1.out.over hb2)
  have X2 := Lib.hid (X1.out.over hb2)
  have kd2 := fun o => K2.out.cell o
  have kx2 := fun o => X2.out.cell o
  clear hb2 kd1 kx1
  go_wp2_with fail
  refine (CA.out _ B2.out).mono ?_
  rintro e w3 ⟨rfl, hb3⟩
  have B3 := Lib.hid (nextC B2.out hb3)
  have K3 := Lib.hid (K2.out.over hb3)
  have X3 := Lib.hid (X2.out.over hb3)
  have kd3 := fun o => K3.out.cell o
  have kx3 := fun o => X3.out.cell o
  clear hb3 kd2 kx2
  go_wp2_with fail
  refine (CO.out _ B3.out).mono ?_
  rintro e w4 ⟨rfl, hb4⟩
  have B4 := Lib.hid (nextC B3.out hb4)
  have K4 := Lib.hid (K3.out.over hb4)
  have X4 := Lib.hid (X3.out.over hb4)
  have kd4 := fun o => K4.out.cell o
  have kx4 := fun o => X4.out.cell o
  clear hb4 kd3 kx3
  go_wp2_with fail
  refine (CR.out _ B4.out).mono ?_
  rintro e w5 ⟨rfl, hb5⟩
  have B5 := Lib.hid (nextC B4.out hb5)
  have K5 := Lib.hid (K4.out.over hb5)
  have X5 := Lib.hid (X4.out.over hb5)
  have kd5 := fun o => K5.out.cell o
  have kx5 := fun o => X5.out.cell o
  clear hb5 kd4 kx4
  go_wp2_with fail
  refine (CX.out _ B5.out).mono ?_
  rintro e w6 ⟨rfl, hb6⟩
  have B6 := Lib.hid (nextC B5.out hb6)
  have K6 := Lib.hid (K5.out.over hb6)
  have X6 := Lib.hid (X5.out.over hb6)
  have kd6 := fun o => K6.out.cell o
  have kx6 := fun o => X6.out.cell o
  clear hb6 kd5 kx5
  go_wp2_with fail
  go_ret
  exact ⟨rfl, B6.out⟩
set_option maxHeartbeats 4000000 in
theorem walk_ok (A : Option Addr) (cA : Nat) (B : Option Addr) (cB : Nat) (k : Nat) (off on : List Int) (mode t : Int) (x : Xp) (hx : x.Ok) (w : World) (h : CalAt w (.agg #[.int .u8 k, .slice A off.length cA, .slice B on.length cB]) k off on) (h1 : off.length ≤ 30) (h2 : on.length ≤ 30) (hm : mayC k off on = true) (hmode : 1 ≤ mode ∧ mode ≤ 3) (hmx : mayX x = true) (ht0 : 0 ≤ t) (ht1 : t < 13569465600) :
    Calls Try.prog 4 #[.agg #[.int .u8 k, .slice A off.length cA, .slice B on.length cB], .int .u8 mode, .agg #[.int .u64 x.b0, .bool x.s0, .int .u64 x.b1, .bool x.s1, .int .u64 x.b2, .bool x.s2, .int .u64 x.b3, .bool x.s3, .int .u64 x.b4, .bool x.s4], .int .i64 t] w fun e w' => e = .returned (.bool true) ∧ Below w.heap.size w w' := by
  have KN := Lib.hid known_any
  have CH := Lib.hid (fun W (hW : Below w.heap.size w W) => heavy_any _ k off on W (h.over hW))
  have CO := Lib.hid (fun W (hW : Below w.heap.size w W) => ofC_any _ k off on W (h.over hW))
  have CR := Lib.hid (fun W (hW : Below w.heap.size w W) => refCMay_any _ k off on W (h.over hW))
  have CX := Lib.hid (fun W (hW : Below w.heap.size w W) => refMayX_any x hx W)
  rw [show (decide (30 < (off.length : Int)) || decide (30 < (on.length : Int))) = false by simp; omega] at CH
  dsimp only [xpV] at CX
  have CA := Lib.hid (fun W (hW : Below w.heap.size w W) => after_ok _ k off on mode x hx t W (h.over hW) hm hmode hmx ht0 ht1)
  have CF := Lib.hid (fun (b : Bool) (z : Int) (h0 : 0 ≤ z) (h3 : z < 13569465600) (hf : FireAt k off on mode x (z / 86400) (z % 86400 / 60) ↔ b = true) W (hW : Below w.heap.size w W) => fires_at b mode hmode _ k off on x hx z h0 h3 W (h.over hW) hm h1 hf)
  dsimp only [xpV] at CA CF
  rw [hm] at CR
  rw [hmx] at CX
  have d1 : decide (mode < 1) = false := decide_eq_false (by omega)
  have d2 : decide (3 < mode) = false := decide_eq_false (by omega)
  have d3 : decide (t < 0) = false := decide_eq_false (by omega)
  have d4 : decide (13569465600 ≤ t) = false := decide_eq_false (by omega)
  clear hm hmx h h1 h2
  obtain ⟨WB, hWB⟩ : ∃ WB, (w.alloc (.cells #[.int .u8 k, .slice A off.length cA, .slice B on.length cB] 24)).alloc (.cells #[.int .u64 x.b0, .bool x.s0, .int .u64 x.b1, .bool x.s1, .int .u64 x.b2, .bool x.s2, .int .u64 x.b3, .bool x.s3, .int .u64 x.b4, .bool x.s4] 40) = WB := ⟨_, rfl⟩
  have T2 := two rfl hWB
  have K := Lib.hid T2.1
  have KX := Lib.hid T2.2.1
  have Q0 := Lib.hid T2.2.2.1
  have HW := Lib.hid hWB
  clear hWB T2
  go_enter Try.func4, Try.ntmps4
  go_upto_region 1 with fail
  rw [HW.out]
  go_wp2_with fail
  refine (KN.out _).mono ?_
  rintro e w1 ⟨rfl, hb1⟩
  have B1 := Lib.hid (nextC Q0.out hb1)
  have K1 := Lib.hid (K.out.over hb1)
  have X1 := Lib.hid (KX.out.over hb1)
  have kd1 := fun o => K1.out.cell o
  have kx1 := fun o => X1.out.cell o
  clear hb1
  go_wp2_with fail
  refine (CH.out _ B1.out).mono ?_
  rintro e w2 ⟨rfl, hb2⟩
  have B2 := Lib.hid (nextC B1.out hb2)
  have K2 := Lib.hid (K1.out.over hb2)
  have X2 := Lib.hid (X1.out.over hb2)
  have kd2 := fun o => K2.out.cell o
  have kx2 := fun o => X2.out.cell o
  clear hb2 kd1 kx1
  go_wp2_with fail
  refine (CA.out _ B2.out).mono ?_
  rintro e w3 ⟨⟨r, er, rfl, hr⟩, hb3⟩
  have HR := Lib.hid (after_quiet ht0 ht1 hr)
  clear hr
  have B3 := Lib.hid (nextC B2.out hb3)
  have K3 := Lib.hid (K2.out.over hb3)
  have X3 := Lib.hid (X2.out.over hb3)
  have kd3 := fun o => K3.out.cell o
  have kx3 := fun o => X3.out.cell o
  clear hb3 kd2 kx2
  go_wp2_with fail
  refine (CO.out _ B3.out).mono ?_
  rintro e w4 ⟨rfl, hb4⟩
  have B4 := Lib.hid (nextC B3.out hb4)
  have K4 := Lib.hid (K3.out.over hb4)
  have X4 := Lib.hid (X3.out.over hb4)
  have kd4 := fun o => K4.out.cell o
  have kx4 := fun o => X4.out.cell o
  clear hb4 kd3 kx3
  go_wp2_with fail
  refine (CR.out _ B4.out).mono ?_
  rintro e w5 ⟨rfl, hb5⟩
  have B5 := Lib.hid (nextC B4.out hb5)
  have K5 := Lib.hid (K4.out.over hb5)
  have X5 := Lib.hid (X4.out.over hb5)
  have kd5 := fun o => K5.out.cell o
  have kx5 := fun o => X5.out.cell o
  clear hb5 kd4 kx4
  go_wp2_with fail
  refine (CX.out _ B5.out).mono ?_
  rintro e w6 ⟨rfl, hb6⟩
  have B6 := Lib.hid (nextC B5.out hb6)
  have K6 := Lib.hid (K5.out.over hb6)
  have X6 := Lib.hid (X5.out.over hb6)
  have kd6 := fun o => K6.out.cell o
  have kx6 := fun o => X6.out.cell o
  clear hb6 kd5 kx5
  go_upto_region 11 with fail
  obtain ⟨en, hen⟩ : ∃ en : Int, min (t + 259200) 13569465599 = en := ⟨_, rfl⟩
  have he1 : en ≤ t + 259200 := by omega
  have he2 : en ≤ 13569465599 := by omega
  rw [hen]
  clear hen
  rcases HR.out with ⟨rfl, r1, r2, r3, r4, r5⟩ | ⟨rfl, rfl, r5⟩
  · have CFT := Lib.hid (CF.out true r (by omega) r2 (iff_of_true r4 rfl))
    have HQ0 := Lib.hid r5
    have l1 : decide (r ≤ t) = false := decide_eq_false (by omega)
    have l2 : decide (13569465600 ≤ r) = false := decide_eq_false (by omega)
    have l3 : 0 ≤ r := by omega
    clear r4 r5 HR
    go_upto_region 12 with fail
    obtain ⟨TT, F, hTT, hF, hG⟩ := class_of (fun v => Row v w.heap.size 24 #[.int .u8 k, .slice A off.length cA, .slice B on.length cB] ∧ Row v (w.heap.size + 1) 40 #[.int .u64 x.b0, .bool x.s0, .int .u64 x.b1, .bool x.s1, .int .u64 x.b2, .bool x.s2, .int .u64 x.b3, .bool x.s3, .int .u64 x.b4, .bool x.s4] ∧ Below w.heap.size w v) w6.drew ⟨K6.out.drew, X6.out.drew, below_drewN B6.out 1⟩
    have q1 := fun n o => (hF n).1.cell o
    have q2 := fun n o => (hF n).2.1.cell o
    have QC := Lib.hid (hG _ ⟨K6.out.drew, X6.out.drew, below_drewN B6.out 1⟩)
    have D1 := Lib.hid (cls2 hF hG CO.out)
    have D2 := Lib.hid (cls2 hF hG CFT.out)
    have HF := Lib.hid hF
    clear hF hG
    refine wp_region_class F (by kernel_rfl) (by kernel_rfl) QC.out ?_
    repeat (go_big_quiet_step ((first | (go_at_call 11; with_reducible exact D1.out _) | (go_at_call 16; with_reducible exact D2.out _))))
    refine wpQuiet_nil ?_
    rintro _ ⟨nq, rfl⟩
    have B7 := Lib.hid (HF.out nq).2.2
    have K7 := Lib.hid (HF.out nq).1
    have X7 := Lib.hid (HF.out nq).2.1
    clear q1 q2 D1 D2 HF QC
    have kd7 := fun o => K7.out.cell o
    have kx7 := fun o => X7.out.cell o
    clear kd6 kx6
    go_upto_region 17 with fail
    obtain ⟨en', hen⟩ : ∃ en' : Int, min en (r - 1) = en' := ⟨_, rfl⟩
    have he3 : en' ≤ t + 259200 := by omega
    have he4 : en' ≤ 13569465599 := by omega
    have he5 : en' ≤ r - 1 := by omega
    rw [hen]
    clear hen he1 he2
    have HQ := Lib.hid (fun z (h1 : t < z) (h2 : z ≤ en') (h3 : z % 60 = 0) => HQ0.out z h1 (by omega) h3)
    go_upto_region 18 with fail
    clear kd7 kx7
    go_loopw [12] (fun c wr => ∃ mv : Int, c = .int .i64 mv ∧ mv % 60 = 0 ∧ t < mv ∧ mv ≤ 13569466499 ∧ Row wr w.heap.size 24 #[.int .u8 k, .slice A off.length cA, .slice B on.length cB] ∧ Row wr (w.heap.size + 1) 40 #[.int .u64 x.b0, .bool x.s0, .int .u64 x.b1, .bool x.s1, .int .u64 x.b2, .bool x.s2, .int .u64 x.b3, .bool x.s3, .int .u64 x.b4, .bool x.s4] ∧ Below w.heap.size w wr) (fun c _ => (en' + 900 - intOf c).toNat)
    case atStart => exact ⟨t - t % 60 + 60, by go_num, by omega, by omega, by omega, K7.out, X7.out, B7.out⟩
    case round =>
      obtain ⟨mv, rfl, m0, m1, m2, rk, rx, rb⟩ := hrel
      have BB := Lib.hid rb
      have KB := Lib.hid rk
      have XB := Lib.hid rx
      clear rk rx rb
      by_cases hle : mv ≤ en'
      · go_upto_region 21 with fail
        obtain ⟨q, hq⟩ : ∃ q, t * 7 % 15 = q := ⟨_, rfl⟩
        obtain ⟨n, hn⟩ : ∃ n, mv + q * 60 = n := ⟨_, rfl⟩
        have hq0 : 0 ≤ q := by omega
        have hq1 : q ≤ 14 := by omega
        have hn0 : t < n := by omega
        have hn1 : n % 60 = 0 := by omega
        rw [hq, hn]
        clear hq hn hq0 hq1
        by_cases hgt : en' < n
        · as_aux_lemma =>
            go_wp2_with fail
            go_ret
            exact ⟨rfl, BB.out⟩
        · as_aux_lemma =>
            have CFF := Lib.hid (CF.out false n (by omega) (by omega) (iff_of_false (HQ.out n hn0 (by omega) hn1) (by decide)))
            go_upto_region 22 with fail
            obtain ⟨TT, F, hTT, hF, hG⟩ := class_of (fun v => Row v w.heap.size 24 #[.int .u8 k, .slice A off.length cA, .slice B on.length cB] ∧ Row v (w.heap.size + 1) 40 #[.int .u64 x.b0, .bool x.s0, .int .u64 x.b1, .bool x.s1, .int .u64 x.b2, .bool x.s2, .int .u64 x.b3, .bool x.s3, .int .u64 x.b4, .bool x.s4] ∧ Below w.heap.size w v) wr.drew ⟨KB.out.drew, XB.out.drew, below_drewN BB.out 1⟩
            have q1 := fun n o => (hF n).1.cell o
            have q2 := fun n o => (hF n).2.1.cell o
            have QC := Lib.hid (hG _ ⟨KB.out.drew, XB.out.drew, below_drewN BB.out 1⟩)
            have D1 := Lib.hid (cls2 hF hG CO.out)
            have D2 := Lib.hid (cls2 hF hG CFF.out)
            have HF := Lib.hid hF
            clear hF hG
            refine wp_region_class F (by kernel_rfl) (by kernel_rfl) QC.out ?_
            repeat (go_big_quiet_step ((first | (go_at_call 11; with_reducible exact D1.out _) | (go_at_call 16; with_reducible exact D2.out _))))
            refine wpQuiet_nil ?_
            rintro _ ⟨nq, rfl⟩
            have B9 := Lib.hid (HF.out nq).2.2
            have K9 := Lib.hid (HF.out nq).1
            have X9 := Lib.hid (HF.out nq).2.1
            clear q1 q2 D1 D2 HF QC
            go_wp2_with fail
            go_roundw
            case rel => exact ⟨mv + 900, by go_num, by omega, by omega, by omega, K9.out, X9.out, B9.out⟩
            case measure => simp [intOf]; omega
      · as_aux_lemma =>
          go_wp2_with fail
          go_ret
          exact ⟨rfl, BB.out⟩
  · have HQ := Lib.hid (fun z (h1 : t < z) (h2 : z ≤ en) (h3 : z % 60 = 0) => r5 z h1 (by omega) (by omega) h3)
    clear r5 HR
    go_upto_region 17 with fail
    go_upto_region 18 with fail
    clear kd6 kx6
    go_loopw [12] (fun c wr => ∃ mv : Int, c = .int .i64 mv ∧ mv % 60 = 0 ∧ t < mv ∧ mv ≤ 13569466499 ∧ Row wr w.heap.size 24 #[.int .u8 k, .slice A off.length cA, .slice B on.length cB] ∧ Row wr (w.heap.size + 1) 40 #[.int .u64 x.b0, .bool x.s0, .int .u64 x.b1, .bool x.s1, .int .u64 x.b2, .bool x.s2, .int .u64 x.b3, .bool x.s3, .int .u64 x.b4, .bool x.s4] ∧ Below w.heap.size w wr) (fun c _ => (en + 900 - intOf c).toNat)
    case atStart => exact ⟨t - t % 60 + 60, by go_num, by omega, by omega, by omega, K6.out, X6.out, B6.out⟩
    case round =>
      obtain ⟨mv, rfl, m0, m1, m2, rk, rx, rb⟩ := hrel
      have BB := Lib.hid rb
      have KB := Lib.hid rk
      have XB := Lib.hid rx
      clear rk rx rb
      by_cases hle : mv ≤ en
      · go_upto_region 21 with fail
        obtain ⟨q, hq⟩ : ∃ q, t * 7 % 15 = q := ⟨_, rfl⟩
        obtain ⟨n, hn⟩ : ∃ n, mv + q * 60 = n := ⟨_, rfl⟩
        have hq0 : 0 ≤ q := by omega
        have hq1 : q ≤ 14 := by omega
        have hn0 : t < n := by omega
        have hn1 : n % 60 = 0 := by omega
        rw [hq, hn]
        clear hq hn hq0 hq1
        by_cases hgt : en < n
        · as_aux_lemma =>
            go_wp2_with fail
            go_ret
            exact ⟨rfl, BB.out⟩
        · as_aux_lemma =>
            have CFF := Lib.hid (CF.out false n (by omega) (by omega) (iff_of_false (HQ.out n hn0 (by omega) hn1) (by decide)))
            go_upto_region 22 with fail
            obtain ⟨TT, F, hTT, hF, hG⟩ := class_of (fun v => Row v w.heap.size 24 #[.int .u8 k, .slice A off.length cA, .slice B on.length cB] ∧ Row v (w.heap.size + 1) 40 #[.int .u64 x.b0, .bool x.s0, .int .u64 x.b1, .bool x.s1, .int .u64 x.b2, .bool x.s2, .int .u64 x.b3, .bool x.s3, .int .u64 x.b4, .bool x.s4] ∧ Below w.heap.size w v) wr.drew ⟨KB.out.drew, XB.out.drew, below_drewN BB.out 1⟩
            have q1 := fun n o => (hF n).1.cell o
            have q2 := fun n o => (hF n).2.1.cell o
            have QC := Lib.hid (hG _ ⟨KB.out.drew, XB.out.drew, below_drewN BB.out 1⟩)
            have D1 := Lib.hid (cls2 hF hG CO.out)
            have D2 := Lib.hid (cls2 hF hG CFF.out)
            have HF := Lib.hid hF
            clear hF hG
            refine wp_region_class F (by kernel_rfl) (by kernel_rfl) QC.out ?_
            repeat (go_big_quiet_step ((first | (go_at_call 11; with_reducible exact D1.out _) | (go_at_call 16; with_reducible exact D2.out _))))
            refine wpQuiet_nil ?_
            rintro _ ⟨nq, rfl⟩
            have B9 := Lib.hid (HF.out nq).2.2
            have K9 := Lib.hid (HF.out nq).1
            have X9 := Lib.hid (HF.out nq).2.1
            clear q1 q2 D1 D2 HF QC
            go_wp2_with fail
            go_roundw
            case rel => exact ⟨mv + 900, by go_num, by omega, by omega, by omega, K9.out, X9.out, B9.out⟩
            case measure => simp [intOf]; omega
      · as_aux_lemma =>
          go_wp2_with fail
          go_ret
          exact ⟨rfl, BB.out⟩
theorem walk (A : Option Addr) (cA : Nat) (B : Option Addr) (cB : Nat) (k : Nat) (off on : List Int) (mode t : Int) (x : Xp) (hx : x.Ok) (w : World) (hk : k < 256) (ha : Sl w .i64 A off) (hb : Sl w .i64 B on) :
    Calls Try.prog 4 #[.agg #[.int .u8 k, .slice A off.length cA, .slice B on.length cB], .int .u8 mode, xpV x, .int .i64 t] w fun e w' => e = .returned (.bool true) ∧ Below w.heap.size w w' := by
  by_cases hh : 30 < off.length ∨ 30 < on.length
  · exact walk_heavy A cA B cB k off on mode t x w hh
  · have h : CalAt w (.agg #[.int .u8 k, .slice A off.length cA, .slice B on.length cB]) k off on := ⟨⟨A, cA, B, cB, rfl, ha, hb⟩, hk, by omega, by omega⟩
    have h1 : off.length ≤ 30 := by omega
    have h2 : on.length ≤ 30 := by omega
    cases hm : mayC k off on
    · exact walk_nocal A cA B cB k off on mode t x hx w h h1 h2 hm
    · by_cases m1 : mode < 1
      · exact walk_low A cA B cB k off on mode t x hx w h h1 h2 hm m1
      · by_cases m3 : 3 < mode
        · exact walk_high A cA B cB k off on mode t x hx w h h1 h2 hm m3
        · have hmode : 1 ≤ mode ∧ mode ≤ 3 := ⟨by omega, by omega⟩
          cases hmx : mayX x
          · exact walk_noexpr A cA B cB k off on mode t x hx w h h1 h2 hm hmode hmx
          · by_cases t0 : t < 0
            · exact walk_early A cA B cB k off on mode t x hx w h h1 h2 hm hmode hmx t0
            · by_cases t1 : 13569465600 ≤ t
              · exact walk_late A cA B cB k off on mode t x hx w h h1 h2 hm hmode hmx t1
              · exact walk_ok A cA B cB k off on mode t x hx w h h1 h2 hm hmode hmx (by omega) (by omega)

theorem opened (H : Type) (enc : TypeId × Value → H) (W : World) (base : Nat) (args : Array Value) (ds gs : List (DataW H)) (before : List MemPlace)
    (hval : ∀ (j : Nat) t v, Try.f4.params[j]? = some t → args[j]? = some v → Value.okWide Try.prog W .any base t v)
    (hW : DataW.Whole enc Try.prog Try.f4.params.toList Rows.calendarFiresSpec.vars false W args.toList ds gs before) :
    Calls Try.prog 4 args W fun e w' => e = .returned (.bool true) ∧ Below W.heap.size W w' := by
  obtain ⟨p, q, hA, hV, rfl, hfz, hnd⟩ := hW
  rw [Try.params4] at hA hval
  obtain ⟨v0, vs0, d0, ds0, p0, q0, hargs, rfl, rfl, h0, r0⟩ := trodAll_cons hA
  obtain ⟨v1, vs1, d1, ds1, p1, q1, rfl, rfl, rfl, h1, r1⟩ := trodAll_cons r0
  obtain ⟨v2, vs2, d2, ds2, p2, q2, rfl, rfl, rfl, h2, r2⟩ := trodAll_cons r1
  obtain ⟨v3, vs3, d3, ds3, p3, q3, rfl, rfl, rfl, h3, r3⟩ := trodAll_cons r2
  obtain ⟨rfl, rfl, rfl⟩ := trodAll_nil r3
  obtain rfl : args = #[v0, v1, v2, v3] := by cases args; simp_all
  obtain ⟨k, A, cA, off, B, cB, on, rfl, hk, s0, s1, w0, w1⟩ := open_cal (hval 0 24 v0 rfl rfl) h0
  obtain ⟨mo, rfl, _, _, wm⟩ := open_int Try.underlying5 (hval 1 5 v1 rfl rfl) h1
  obtain ⟨x, rfl, hx⟩ := open_expr (hval 2 40 v2 rfl rfl) h2
  obtain ⟨t, rfl, _, _, wt⟩ := open_int Try.underlying2 (hval 3 2 v3 rfl rfl) h3
  exact walk A cA B cB k off on mo t x hx W hk s0 s1

set_option maxRecDepth 100000 in
theorem lifted (os : Os) (started : os.Started) (H : Type) (enc : TypeId × Value → H) :
    ReturnsInHanded {} Try.checked os 4 .any (Rows.calendarFiresSpec.pre6 enc Try.prog Try.f4 Rows.calendarFiresRow.domain false) (Rows.calendarFiresSpec.post enc Try.prog Try.f4 false true false false) := by
  refine returnsInHanded_of_change (C := Try.checked) own started (by kernel_rfl) Try.func4
    (ChangeSpec.witness6 (enc := enc) (C := Try.checked) false ⟨#[], #[.agg #[.int .u8 0, .slice none 0 0, .slice none 0 0], .int .u8 0, .agg #[.int .u64 0, .bool false, .int .u64 0, .bool false, .int .u64 0, .bool false, .int .u64 0, .bool false, .int .u64 0, .bool false], .int .i64 0], []⟩ 8 (by kernel_rfl) (by kernel_rfl) (by kernel_rfl) (by kernel_rfl)) ?_
  intro W base args ds gs before hval hW hcnd hh
  refine (opened H enc W base args ds gs before hval hW).mono fun e W' ⟨he, hg⟩ => ?_
  subst he
  exact ⟨_, rfl, law_post hW rfl laidOut (by kernel_rfl) rfl Try.underlying4 (fun l hl => by match l, hl with | [d0, d1, d2, d3], _ => rfl) hg⟩

theorem over : Rows.calendarFiresRow.holds Try.pinned (OpenSpec.ofChange Rows.calendarFiresSpec) :=
  OpenClaim.holds_of_wide 4 Try.f4 rfl rfl rfl rfl rfl rfl rfl ⟨rfl, rfl, rfl, rfl, rfl⟩ rfl rfl rfl rfl rfl (by kernel_rfl) Try.func4 (by kernel_rfl)
    (of_decide_eq_true (by kernel_rfl)) (by unfold Func.isWrapper; first | (rw [if_pos (by decide +kernel)]; kernel_rfl) | (rw [if_neg (by decide +kernel)]; exact ⟨rfl, rfl⟩))
    (fun os started H enc _ => lifted os started H enc)

/-- THE STATEMENT. -/
theorem proved : Rows.CalendarFiresSaid :=
  over
#print axioms proved
end Go.Proofs.Ythigmjjafilbcaa.calendarFires
