/- field.First, and the library's count of trailing zeros (its table laid). next.may, next.fits; a month's days. next.from, next.After. -/
import Derived.Test.YthigmjjafilbcaaDoorCaF
import Derived.Lib.LaidTab
import Derived.Lib.SmallJoins
import Derived.Lib.TrailingZeros
import Derived.Laws.Bits64b
import Derived.Test.YthigmjjafilbcaaDoorCaI
import Derived.Test.YthigmjjafilbcaaDoorCaV
import Derived.Test.YthigmjjafilbcaaDoorCaH
import Derived.WalkMore
import Derived.Deep.LoopGhost
namespace Go.Proofs.YthigmjjafilbcaaDoor
set_option linter.unusedVariables false
set_option maxRecDepth 100000
open Go.RowKit
/-- The library's table stands in its variable. -/
def TabZ (w : World) : Prop := Lib.TabIs Tryd.prog w "math/bits.deBruijn64tab" .u8 (Lib.deBruijn64tab.map Int.ofNat)
theorem gTabZ : Tryd.prog.globalNamed "math/bits.deBruijn64tab" = some 0 := by kernel_rfl
theorem TabZ.stays {w w' : World} {B : Nat} (h : TabZ w) (hb : Below B w w') (hB : w.heap.size ≤ B) : TabZ w' :=
  Joins.tab_stays gTabZ h hb hB
theorem TabZ.over {w w' : World} (h : TabZ w) (hb : Below w.heap.size w w') : TabZ w' := h.stays hb (Nat.le_refl _)
theorem tz_key (x a : Nat) (hx : x < 18446744073709551616) (hx0 : x ≠ 0) (hlow : x &&& (18446744073709551616 - x) = a) :
    IntKind.u64.wrap (bits BinOp.and IntKind.u64 (x : Int) (IntKind.u64.wrap (-(x : Int))) * 285870213051353865) / 288230376151711744 = ((a * 285870213051353865 % 18446744073709551616 / 288230376151711744 : Nat) : Int) := by
  have e1 : IntKind.u64.wrap (-(x : Int)) = ((18446744073709551616 - x : Nat) : Int) := by rw [IntKind.wrap_u64]; omega
  rw [e1, bits_and_u64_nat x _ hx (by omega), hlow, IntKind.wrap_u64]
  omega
set_option maxHeartbeats 1000000 in
theorem tz_core (x k idx : Nat) (w : World) (hx0 : ((x : Int) == 0) = false)
    (key : IntKind.u64.wrap (bits BinOp.and IntKind.u64 (x : Int) (IntKind.u64.wrap (-(x : Int))) * 285870213051353865) / 288230376151711744 = (idx : Int))
    (hi : idx < 64) (hk : k < 64) (hcell : w.cell? ⟨0, idx, none⟩ = some (.int .u8 k)) :
    Calls Tryd.prog 76 #[.int .u64 x] w fun e w' => e = .returned (.int .i64 k) ∧ w' = w := by
  go_enter Tryd.func76, Tryd.ntmps76
  go_wp2_with (simp only [key])
  go_ret
  exact ⟨rfl, rfl⟩
theorem getD_mapInt (l : List Nat) (i : Nat) : (l.map Int.ofNat).getD i 0 = ((l.getD i 0 : Nat) : Int) := by
  rw [List.getD_eq_getElem?_getD, List.getElem?_map, List.getD_eq_getElem?_getD]
  cases l[i]? <;> simp
theorem tz_any (x : Nat) (hx : x < 18446744073709551616) (hx0 : x ≠ 0) (w : World) (hT : TabZ w) :
    Calls Tryd.prog 76 #[.int .u64 x] w fun e w' => e = .returned (.int .i64 (Lib.ctz 64 x)) ∧ w' = w := by
  obtain ⟨hlow, hk⟩ := Lib.lowest_bit 64 x hx0 hx
  obtain ⟨hi, htab⟩ := Lib.deBruijn64_at _ hk
  have hlen : Lib.deBruijn64tab.length = 64 := by decide
  have hcell := hT.cell gTabZ _ (show 2 ^ Lib.ctz 64 x * 285870213051353865 % 18446744073709551616 / 288230376151711744 < (Lib.deBruijn64tab.map Int.ofNat).length by rw [List.length_map, hlen]; exact hi)
  rw [show (Lib.deBruijn64tab.map Int.ofNat).getD (2 ^ Lib.ctz 64 x * 285870213051353865 % 18446744073709551616 / 288230376151711744) 0 = ((Lib.ctz 64 x : Nat) : Int) by rw [getD_mapInt, htab]] at hcell
  exact tz_core x _ _ w (by simp; omega) (tz_key x _ hx hx0 hlow) hi hk hcell
/-- What the lowest bit of a shifted number tells. -/
theorem ctz_first {b n : Nat} (h : b / 2 ^ n ≠ 0) (hb : b < 18446744073709551616) : b.testBit (n + Lib.ctz 64 (b / 2 ^ n)) = true ∧ (∀ j, n ≤ j → j < n + Lib.ctz 64 (b / 2 ^ n) → b.testBit j = false) ∧ n + Lib.ctz 64 (b / 2 ^ n) < 64 := by
  have hlt : b / 2 ^ n < 2 ^ 64 := Nat.lt_of_le_of_lt (Nat.div_le_self _ _) hb
  have hc : Lib.ctz 64 (b / 2 ^ n) = Lib.ctzFrom 64 (b / 2 ^ n) := by unfold Lib.ctz; rw [if_neg h]
  obtain ⟨m, hm, hf⟩ := Lib.ctzFrom_spec 64 (b / 2 ^ n) (Nat.pos_of_ne_zero h) hlt
  rw [hc]
  obtain ⟨k, hk⟩ : ∃ k, Lib.ctzFrom 64 (b / 2 ^ n) = k := ⟨_, rfl⟩
  rw [hk] at hm ⊢
  have hbit : ∀ j, b.testBit (n + j) = (2 ^ k * (2 * m + 1)).testBit j := fun j => by rw [← hm, Nat.testBit_div_two_pow, Nat.add_comm]
  have h1 : b.testBit (n + k) = true := by
    rw [hbit, Nat.testBit_two_pow_mul]
    simp
  refine ⟨h1, fun j h2 h3 => ?_, ?_⟩
  · rw [show j = n + (j - n) by omega, hbit, Nat.testBit_two_pow_mul]
    simp
    omega
  · apply Nat.lt_of_not_le
    intro hle
    have := Nat.testBit_lt_two_pow (x := b) (i := n + k) (Nat.lt_of_lt_of_le hb (Nat.pow_le_pow_right (n := 2) (by decide) hle))
    rw [this] at h1
    cases h1
/-- What First answers: the least that is allowed from n on. -/
def FirstF (b : Nat) (n r : Int) (ok : Bool) : Prop :=
  (ok = true ∧ n ≤ r ∧ r ≤ 63 ∧ hasF b r = true ∧ ∀ j, n ≤ j → j < r → hasF b j = false) ∨ (ok = false ∧ r = 0 ∧ ∀ j, n ≤ j → hasF b j = false)
theorem cast_div (b k : Nat) : (b : Int) / 2 ^ k = ((b / 2 ^ k : Nat) : Int) := by simp
theorem hasF_big {b : Nat} {j : Int} (h : 63 < j) : hasF b j = false := by unfold hasF; simp; omega
theorem hasF_nat {b k : Nat} (h : k ≤ 63) : hasF b (k : Int) = b.testBit k := by unfold hasF; simp; omega
set_option maxHeartbeats 1000000 in
theorem ffirst_any (b : Nat) (s : Bool) (n : Int) (w : World) (hb : b < 18446744073709551616) (h0 : 0 ≤ n) (hT : TabZ w) :
    Calls Tryd.prog 58 #[.agg #[.int .u64 b, .bool s], .int .i64 n] w fun e w' => (∃ r ok, e = .returned (.tuple #[.int .i64 r, .bool ok]) ∧ FirstF b n r ok) ∧ Below w.heap.size w w' := by
  obtain ⟨k, rfl⟩ : ∃ k : Nat, n = k := ⟨n.toNat, by omega⟩
  obtain ⟨WB, hWB⟩ : ∃ WB, w.alloc (.cells #[.int .u64 b, .bool s] 27) = WB := ⟨_, rfl⟩
  have K := Lib.hid (show Row WB w.heap.size _ _ by rw [← hWB]; exact Row.new _ _ _)
  have Q0 := Lib.hid (show Below w.heap.size w WB by rw [← hWB]; exact nextB (Below.refl _ _))
  have HW := Lib.hid hWB
  have CT := Lib.hid (fun (hz : b / 2 ^ k ≠ 0) => tz_any (b / 2 ^ k) (Nat.lt_of_le_of_lt (Nat.div_le_self _ _) hb) hz WB (hT.over Q0.out))
  clear hWB hT h0
  go_enter Tryd.func58, Tryd.ntmps58
  go_upto_region 1 with fail
  rw [HW.out]
  go_cut [1, 7] (fun s q wx => s = .int .i64 (k : Int) ∧ wx = WB)
  case first =>
    go_wp2_with fail
    all_goals (go_meet; exact ⟨congrArg (Value.int .i64) (by omega), rfl⟩)
  obtain ⟨rfl, rfl⟩ := hcut
  have kd := fun o => K.out.cell o
  by_cases h63 : 63 < k
  · have h63' : (63 : Int) < (k : Int) := by omega
    go_wp2_with fail
    go_ret2
    exact ⟨⟨_, _, rfl, .inr ⟨rfl, rfl, fun j hj => hasF_big (by omega)⟩⟩, Q0.out⟩
  · have d1 : decide (63 < k) = false := decide_eq_false h63
    have d2 : decide ((63 : Int) < (k : Int)) = false := decide_eq_false (by omega)
    have HB := Lib.hid hb
    clear hb
    by_cases hz : b / 2 ^ k = 0
    · have hz' : ((b : Int) / 2 ^ k == 0) = true := by rw [cast_div, hz]; rfl
      go_wp2_with fail
      go_ret2
      refine ⟨⟨_, _, rfl, .inr ⟨rfl, rfl, fun j hj => ?_⟩⟩, Q0.out⟩
      by_cases hj63 : j ≤ 63
      · obtain ⟨i, rfl⟩ : ∃ i : Nat, j = i := ⟨j.toNat, by omega⟩
        rw [hasF_nat (by omega)]
        refine Nat.testBit_lt_two_pow (Nat.lt_of_lt_of_le ?_ (Nat.pow_le_pow_right (n := 2) (by decide) (show k ≤ i by omega)))
        exact (Nat.div_eq_zero_iff_lt (Nat.two_pow_pos k)).1 hz
      · exact hasF_big (by omega)
    · have hz' : ((b : Int) / 2 ^ k == 0) = false := by
        rw [cast_div]
        obtain ⟨q, hq⟩ : ∃ q, b / 2 ^ k = q := ⟨_, rfl⟩
        rw [hq] at hz ⊢
        simp only [beq_eq_false_iff_ne, ne_eq]
        omega
      have CT := Lib.hid (CT.out hz)
      rw [← cast_div] at CT
      have HZ := Lib.hid hz
      clear hz
      go_wp2_with fail
      refine (CT.out).mono ?_
      rintro e w1 ⟨rfl, rfl⟩
      obtain ⟨f1, f2, f3⟩ := ctz_first HZ.out HB.out
      obtain ⟨c, hc⟩ : ∃ c, Lib.ctz 64 (b / 2 ^ k) = c := ⟨_, rfl⟩
      rw [hc] at f1 f2 f3 ⊢
      have F2 := Lib.hid f2
      clear f2 hc CT
      go_wp2_with fail
      go_ret2
      refine ⟨⟨_, _, rfl, .inl ⟨rfl, by omega, by omega, ?_, fun j hj hj2 => ?_⟩⟩, Q0.out⟩
      · rw [show (k : Int) + (c : Int) = ((k + c : Nat) : Int) by simp, hasF_nat (by omega)]
        exact f1
      · obtain ⟨i, rfl⟩ : ∃ i : Nat, j = i := ⟨j.toNat, by omega⟩
        rw [hasF_nat (by omega)]
        exact F2.out i (by omega) (by omega)
end Go.Proofs.YthigmjjafilbcaaDoor
namespace Go.Proofs.YthigmjjafilbcaaDoor
set_option linter.unusedVariables false
set_option maxRecDepth 100000
open Go.RowKit
def okTN (t : Int) : Bool := decide (0 ≤ t) && decide (t < 13569465600)
theorem okTN_iff {t : Int} : okTN t = true ↔ 0 ≤ t ∧ t < 13569465600 := by unfold okTN; simp
def floorN (t : Int) : Int := if okTN t = true then t - t % 60 else 0
def floorE (t : Int) : Int := if okTN t = true then 0 else 50
theorem nfloor_any (t : Int) (w : World) :
    Calls Tryd.prog 56 #[.int .i64 t] w fun e w' => e = .returned (.tuple #[.int .i64 (floorN t), .int .i64 (floorE t)]) ∧ w' = w := by
  unfold floorN floorE
  have c := fun W => is_any t W
  change ∀ W, Calls _ _ _ _ fun e w' => e = .returned (.bool (okTN t)) ∧ _ at c
  cases hk : okTN t
  · rw [hk] at c
    have C := Lib.hid c; clear c
    go_enter Tryd.func56, Tryd.ntmps56
    go_wp2_with (go_at_call 74; refine (C.out _).mono ?_; rintro e w' ⟨rfl, rfl⟩)
    go_ret2
    exact ⟨rfl, rfl⟩
  · rw [hk] at c
    obtain ⟨t0, t1⟩ := okTN_iff.1 hk
    have C := Lib.hid c; clear c hk
    go_enter Tryd.func56, Tryd.ntmps56
    go_wp2_with (go_at_call 74; refine (C.out _).mono ?_; rintro e w' ⟨rfl, rfl⟩)
    go_ret2
    exact ⟨rfl, rfl⟩
def mayN (x : Xp) (t : Int) : Int := if mayX x = true then floorE t else 2
theorem nmay_any (x : Xp) (hx : x.Ok) (t : Int) (w : World) :
    Calls Tryd.prog 26 #[xpV x, .int .i64 t] w fun e w' => e = .returned (.int .i64 (mayN x t)) ∧ Below w.heap.size w w' := by
  have CX := Lib.hid (fun W => mayX_any x hx W)
  have CF := Lib.hid (nfloor_any t)
  unfold mayN
  generalize mayX x = b at *
  generalize floorE t = fe at *
  generalize floorN t = fv at *
  obtain ⟨b0, b1, b2, b3, b4, s0, s1, s2, s3, s4⟩ := x
  dsimp only [xpV, xpC] at *
  obtain ⟨WB, hWB⟩ : ∃ WB, w.alloc (.cells #[.int .u64 b0, .bool s0, .int .u64 b1, .bool s1, .int .u64 b2, .bool s2, .int .u64 b3, .bool s3, .int .u64 b4, .bool s4] 29) = WB := ⟨_, rfl⟩
  have K := Lib.hid (show Row WB w.heap.size _ _ by rw [← hWB]; exact Row.new _ _ _)
  have Q0 := Lib.hid (show Below w.heap.size w WB by rw [← hWB]; exact nextB (Below.refl _ _))
  have HW := Lib.hid hWB
  clear hWB hx
  go_enter Tryd.func26, Tryd.ntmps26
  go_upto_region 1 with fail
  rw [HW.out]
  have kd := fun o => K.out.cell o
  go_wp2_with fail
  refine (CX.out _).mono ?_
  rintro e w1 ⟨rfl, hb1⟩
  have B1 := Lib.hid (nextC Q0.out hb1)
  clear hb1 kd
  cases b
  · go_wp2_with fail
    go_ret
    exact ⟨rfl, B1.out⟩
  · go_wp2_with fail
    refine (CF.out _).mono ?_
    rintro e w2 ⟨rfl, rfl⟩
    go_wp2_with fail
    go_ret
    exact ⟨rfl, B1.out⟩
theorem nfits_any (x : Xp) (hx : x.Ok) (n : Int) (h0 : 0 ≤ n) (h1 : n < 157054) (w : World) :
    Calls Tryd.prog 45 #[xpV x, .int .i64 n] w fun e w' => e = .returned (.bool (dayFit x n)) ∧ Below w.heap.size w w' := by
  have CS := Lib.hid (fun W => by have := split_at_min n 0 h0 h1 (by omega) (by omega) W; rw [show n * 86400 + 0 * 60 = n * 86400 by omega] at this; exact this)
  have CD := Lib.hid (fun W => by
    have := dayFits_any x hx (ofY n) (ofM n) (ofD n) (0 / 60) (0 % 60) 0 ((n + 4) % 7) W
    rw [dayFitsC_at x h0 h1 (by omega) (by omega)] at this
    exact this)
  unfold clkA at CS
  generalize ofY n = y at *
  generalize ofM n = mo at *
  generalize ofD n = d at *
  generalize (0 : Int) / 60 = hh at *
  generalize (0 : Int) % 60 = mi at *
  generalize (n + 4) % 7 = wd at *
  generalize dayFit x n = r at *
  obtain ⟨b0, b1, b2, b3, b4, s0, s1, s2, s3, s4⟩ := x
  dsimp only [xpV, xpC] at *
  obtain ⟨WB, hWB⟩ : ∃ WB, w.alloc (.cells #[.int .u64 b0, .bool s0, .int .u64 b1, .bool s1, .int .u64 b2, .bool s2, .int .u64 b3, .bool s3, .int .u64 b4, .bool s4] 29) = WB := ⟨_, rfl⟩
  have K := Lib.hid (show Row WB w.heap.size _ _ by rw [← hWB]; exact Row.new _ _ _)
  have Q0 := Lib.hid (show Below w.heap.size w WB by rw [← hWB]; exact nextB (Below.refl _ _))
  have HW := Lib.hid hWB
  clear hWB hx
  go_enter Tryd.func45, Tryd.ntmps45
  go_upto_region 1 with fail
  rw [HW.out]
  go_wp2_with fail
  refine (CS.out _).mono ?_
  rintro e w1 ⟨rfl, hb1⟩
  have B1 := Lib.hid (nextC Q0.out hb1)
  have K1 := Lib.hid (K.out.over hb1)
  clear hb1
  go_upto_region 2 with fail
  have rx := Row.new w1 42 #[.int .i64 y, .int .i64 mo, .int .i64 d, .int .i64 hh, .int .i64 mi, .int .i64 0, .int .i64 wd]
  have q2 := Lib.hid (nextB (o := .cells #[.int .i64 y, .int .i64 mo, .int .i64 d, .int .i64 hh, .int .i64 mi, .int .i64 0, .int .i64 wd] 42) B1.out)
  have ra := K1.out.alloc (.cells #[.int .i64 y, .int .i64 mo, .int .i64 d, .int .i64 hh, .int .i64 mi, .int .i64 0, .int .i64 wd] 42)
  generalize w1.alloc _ = V at rx q2 ra ⊢
  have k1 := fun o => rx.cell o
  have k2 := fun o => ra.cell o
  go_wp2_with fail
  refine (CD.out _).mono ?_
  rintro e w3 ⟨rfl, hb3⟩
  have B3 := Lib.hid (nextC q2.out hb3)
  clear hb3 k1 k2
  go_wp2_with fail
  go_ret
  exact ⟨rfl, B3.out⟩
/-- The days of a month. -/
theorem same_month {n z : Int} (h0 : 0 ≤ n) (h1 : n < 157054) (hz : n ≤ z) (hz1 : z ≤ n + (longI (ofY n) (ofM n) - ofD n)) : z < 157054 ∧ ofY z = ofY n ∧ ofM z = ofM n ∧ ofD z = ofD n + (z - n) := by
  obtain ⟨hm, hd⟩ := of_num n h0 h1
  rw [daysA_num hm] at hd
  obtain ⟨k1, k2, k3, k4⟩ := mayB_iff.1 hm
  have hm' : mayB (ofY n) (ofM n) (ofD n + (z - n)) = true := mayB_iff.2 ⟨k1, k2, by omega, by omega⟩
  have he : numI (ofY n) (ofM n) (ofD n + (z - n)) = z := by unfold numI at *; omega
  have hr := num_range hm'
  rw [he] at hr
  exact ⟨hr.2, ofs_eq (by omega) hr.2 hm' he⟩
theorem month_back {n z : Int} (h0 : 0 ≤ n) (h1 : n < 157054) (hz : z ≤ n) (hz1 : n - (ofD n - 1) ≤ z) : 0 ≤ z ∧ ofY z = ofY n ∧ ofM z = ofM n ∧ ofD z = ofD n + (z - n) := by
  obtain ⟨hm, hd⟩ := of_num n h0 h1
  rw [daysA_num hm] at hd
  obtain ⟨k1, k2, k3, k4⟩ := mayB_iff.1 hm
  have hm' : mayB (ofY n) (ofM n) (ofD n + (z - n)) = true := mayB_iff.2 ⟨k1, k2, by omega, by omega⟩
  have he : numI (ofY n) (ofM n) (ofD n + (z - n)) = z := by unfold numI at *; omega
  have hr := num_range hm'
  rw [he] at hr
  exact ⟨hr.1, ofs_eq hr.1 (by omega) hm' he⟩
theorem month_end {n : Int} (h0 : 0 ≤ n) (h1 : n < 157054) : 0 ≤ longI (ofY n) (ofM n) - ofD n ∧ longI (ofY n) (ofM n) - ofD n ≤ 31 ∧ 1 ≤ ofD n ∧ n + (longI (ofY n) (ofM n) - ofD n) < 157054 ∧ 0 ≤ n - (ofD n - 1) ∧ ofD n ≤ 31 := by
  obtain ⟨hm, hd⟩ := of_num n h0 h1
  obtain ⟨k1, k2, k3, k4⟩ := mayB_iff.1 hm
  have := longI_bd (ofY n) (ofM n)
  have hs := same_month (z := n + (longI (ofY n) (ofM n) - ofD n)) h0 h1 (by omega) (by omega)
  have hb := month_back (z := n - (ofD n - 1)) h0 h1 (by omega) (by omega)
  omega
/-- No minute of a time fits. -/
def NoFit (x : Xp) (a b : Int) : Prop := ∀ z, a ≤ z → z < b → z % 60 = 0 → minFit x (z / 86400) (z % 86400 / 60) = false
theorem NoFit.more {x : Xp} {a b c : Int} (h : NoFit x a b) (h' : NoFit x b c) : NoFit x a c := fun z h1 h2 h3 => by
  by_cases hb : z < b
  · exact h z h1 hb h3
  · exact h' z (by omega) h2 h3
theorem minFit_month {x : Xp} {n m : Int} (h : hasF x.b3 (ofM n) = false) : minFit x n m = false := by
  unfold minFit dayFit dmw
  rw [h]; simp
theorem minFit_day {x : Xp} {n m : Int} (h : dayFit x n = false) : minFit x n m = false := by
  unfold minFit
  rw [h]; simp
theorem minFit_hour {x : Xp} {n m : Int} (h : hasF x.b1 (m / 60) = false) : minFit x n m = false := by
  unfold minFit
  rw [h]; simp
theorem minFit_min {x : Xp} {n m : Int} (h : hasF x.b0 (m % 60) = false) : minFit x n m = false := by
  unfold minFit
  rw [h]; simp
theorem noFit_month {x : Xp} {n a : Int} (h0 : 0 ≤ n) (h1 : n < 157054) (ha : n * 86400 ≤ a) (h : hasF x.b3 (ofM n) = false) : NoFit x a ((n + (longI (ofY n) (ofM n) - ofD n) + 1) * 86400) := fun z hz1 hz2 hz3 => by
  have := same_month (z := z / 86400) h0 h1 (by omega) (by omega)
  exact minFit_month (by rw [this.2.2.1]; exact h)
theorem noFit_day {x : Xp} {n a : Int} (ha : n * 86400 ≤ a) (h : dayFit x n = false) : NoFit x a ((n + 1) * 86400) := fun z hz1 hz2 hz3 => by
  rw [show z / 86400 = n by omega]
  exact minFit_day h
/-- From an hour on none is allowed, up to another one. -/
theorem noFit_hours {x : Xp} {n a hh r : Int} (ha : n * 86400 + hh * 3600 ≤ a) (h0 : 0 ≤ hh) (hr : r ≤ 24) (h : ∀ j, hh ≤ j → j < r → hasF x.b1 j = false) : NoFit x a (n * 86400 + r * 3600) := fun z hz1 hz2 hz3 => by
  obtain ⟨q, hq⟩ : ∃ q, z % 86400 / 60 / 60 = q := ⟨_, rfl⟩
  refine minFit_hour ?_
  rw [hq]
  exact h q (by omega) (by omega)
theorem noFit_mins {x : Xp} {n a hh m r : Int} (ha : n * 86400 + hh * 3600 + m * 60 ≤ a) (h0 : 0 ≤ hh) (h23 : hh ≤ 23) (m0 : 0 ≤ m) (hr : r ≤ 60) (h : ∀ j, m ≤ j → j < r → hasF x.b0 j = false) : NoFit x a (n * 86400 + hh * 3600 + r * 60) := fun z hz1 hz2 hz3 => by
  obtain ⟨q, hq⟩ : ∃ q, z % 86400 / 60 % 60 = q := ⟨_, rfl⟩
  refine minFit_min ?_
  rw [hq]
  exact h q (by omega) (by omega)
theorem mayX_parts {x : Xp} (h : mayX x = true) : mayF 0 x.b0 = true ∧ mayF 1 x.b1 = true := by
  unfold mayX at h
  simp only [Bool.and_eq_true] at h
  exact ⟨h.1, h.2.1⟩
theorem hasF_rng {b : Nat} {r : Int} (h : hasF b r = true) : 0 ≤ r ∧ r ≤ 63 := by
  unfold hasF at h
  simp at h
  omega
theorem hour_le {x : Xp} (hx : x.Ok) (h : mayX x = true) {r : Int} (hr : hasF x.b1 r = true) : r ≤ 23 := by
  have h1 := (mayF_iff (k := 1) (by decide) (by decide) hx.h1).1 (mayX_parts h).2
  obtain ⟨r0, r1⟩ := hasF_rng hr
  obtain ⟨j, rfl⟩ : ∃ j : Nat, r = j := ⟨r.toNat, by omega⟩
  have := (h1.2 j (by omega) hr).2
  unfold highK at this
  simp at this
  omega
theorem min_le {x : Xp} (hx : x.Ok) (h : mayX x = true) {r : Int} (hr : hasF x.b0 r = true) : r ≤ 59 := by
  have h1 := (mayF_iff (k := 0) (by decide) (by decide) hx.h0).1 (mayX_parts h).1
  obtain ⟨r0, r1⟩ := hasF_rng hr
  obtain ⟨j, rfl⟩ : ∃ j : Nat, r = j := ⟨r.toNat, by omega⟩
  have := (h1.2 j (by omega) hr).2
  unfold highK at this
  simp at this
  omega
end Go.Proofs.YthigmjjafilbcaaDoor
namespace Go.Proofs.YthigmjjafilbcaaDoor
set_option linter.unusedVariables false
set_option maxRecDepth 100000
open Go.RowKit
/-- What from answers: the first minute that fits from one on. -/
def FromIs (x : Xp) (t r : Int) (ok : Bool) : Prop :=
  (ok = true ∧ t ≤ r ∧ 0 ≤ r ∧ r < 13569465600 ∧ r % 60 = 0 ∧ minFit x (r / 86400) (r % 86400 / 60) = true ∧ NoFit x t r) ∨ (ok = false ∧ r = 0 ∧ NoFit x t 13569465600)
theorem first_cases {b : Nat} {n r : Int} {ok : Bool} (h : FirstF b n r ok) : (ok = true ∧ n ≤ r ∧ r ≤ 63 ∧ hasF b r = true ∧ ∀ j, n ≤ j → j < r → hasF b j = false) ∨ (ok = false ∧ r = 0 ∧ ∀ j, n ≤ j → hasF b j = false) := h
set_option maxHeartbeats 4000000 in
theorem nfrom_any (x : Xp) (hx : x.Ok) (t : Int) (ht0 : 0 ≤ t) (ht1 : t ≤ 13569465600) (ht2 : t % 60 = 0) (hm : mayX x = true) (w : World) (hT : TabZ w) :
    Calls Tryd.prog 27 #[xpV x, .int .i64 t] w fun e w' => (∃ r ok, e = .returned (.tuple #[.int .i64 r, .bool ok]) ∧ FromIs x t r ok) ∧ Below w.heap.size w w' := by
  have CO := Lib.hid (fun n h0 h1 W => of_yes n W h0 h1)
  have CL := Lib.hid long_any
  have CH := Lib.hid (fun n W => fhas_any x.b3 x.s3 n W hx.h3)
  have CF := Lib.hid (fun n h0 h1 W => nfits_any x hx n h0 h1 W)
  have C1 := Lib.hid (fun n h0 W hW => ffirst_any x.b1 x.s1 n W hx.h1 h0 (hT.over (w' := W) hW))
  have C0 := Lib.hid (fun n h0 W hW => ffirst_any x.b0 x.s0 n W hx.h0 h0 (hT.over (w' := W) hW))
  have HX := Lib.hid hx
  have HM := Lib.hid hm
  dsimp only [xpV] at CF
  obtain ⟨WB, hWB⟩ : ∃ WB, w.alloc (.cells #[.int .u64 x.b0, .bool x.s0, .int .u64 x.b1, .bool x.s1, .int .u64 x.b2, .bool x.s2, .int .u64 x.b3, .bool x.s3, .int .u64 x.b4, .bool x.s4] 29) = WB := ⟨_, rfl⟩
  have K := Lib.hid (show Row WB w.heap.size 29 #[.int .u64 x.b0, .bool x.s0, .int .u64 x.b1, .bool x.s1, .int .u64 x.b2, .bool x.s2, .int .u64 x.b3, .bool x.s3, .int .u64 x.b4, .bool x.s4] by rw [← hWB]; exact Row.new _ _ _)
  have Q0 := Lib.hid (show Below w.heap.size w WB by rw [← hWB]; exact nextB (Below.refl _ _))
  have HW := Lib.hid hWB
  clear hWB hT hx hm
  go_enter Tryd.func27, Tryd.ntmps27
  dsimp only [xpV]
  go_upto_region 1 with fail
  rw [HW.out]
  go_step3
  go_wp2_with fail
  go_step3
  go_wp2_with fail
  go_loopg [6, 7] (157055 - t / 86400).toNat (fun gk a b wr => ∃ dv mv : Int, a = .int .i64 dv ∧ b = .int .i64 mv ∧ (gk : Int) + dv = 157055 ∧ 0 ≤ dv ∧ dv ≤ 157054 ∧ 0 ≤ mv ∧ mv < 1440 ∧ NoFit x t (dv * 86400 + mv * 60) ∧ t ≤ dv * 86400 + mv * 60 ∧ Below WB.heap.size WB wr)
  case atStart => exact ⟨t / 86400, t % 86400 / 60, by go_num, by go_num, by omega, by omega, by omega, by omega, by omega, fun z h1 h2 h3 => by omega, by omega, Below.refl _ _⟩
  case round =>
    obtain ⟨dv, mv, rfl, rfl, hgk, d0, d1, m0, m1, hno, hle, hbw⟩ := hrel
    have HN := Lib.hid hno
    have KW := Lib.hid (K.out.over hbw)
    have QW := Lib.hid (nextC Q0.out hbw)
    have BW := Lib.hid hbw
    clear hno hbw
    by_cases hd : dv < 157054
    · go_wp2_with fail
      refine (CO.out dv d0 hd _).mono ?_
      rintro e w1 ⟨rfl, hb1⟩
      have Q1 := Lib.hid (nextC QW.out hb1)
      have R1 := Lib.hid (nextC BW.out hb1)
      have K1 := Lib.hid (K.out.over R1.out)
      have T1 := Lib.hid (fun W (hW : Below w1.heap.size w1 W) => nextC R1.out hW)
      clear hb1
      go_upto_region 5 with fail
      have rx := Row.new w1 40 #[.int .i64 (ofY dv), .int .i64 (ofM dv), .int .i64 (ofD dv)]
      have q2 := Lib.hid (nextB (o := .cells #[.int .i64 (ofY dv), .int .i64 (ofM dv), .int .i64 (ofD dv)] 40) R1.out)
      generalize w1.alloc _ = V at rx q2 ⊢
      have RX := Lib.hid rx
      obtain ⟨g, hg⟩ : ∃ g, w1.heap.size = g := ⟨_, rfl⟩
      rw [hg] at rx RX ⊢
      have k1 := fun o => rx.cell o
      have k2 := fun o => (K.out.over q2.out).cell o
      have hend := month_end d0 hd
      have HNM := Lib.hid (fun a ha h => noFit_month (x := x) (n := dv) (a := a) d0 hd ha h)
      have HND := Lib.hid (fun a ha h => noFit_day (x := x) (n := dv) (a := a) ha h)
      have CF1 := Lib.hid (CF.out dv d0 hd)
      have CH1 := Lib.hid (CH.out (ofM dv))
      have CL1 := Lib.hid (fun W => CL.out (ofY dv) (ofM dv) W)
      clear rx
      generalize ofY dv = y at *
      generalize ofM dv = mo at *
      generalize ofD dv = dd at *
      generalize longI y mo = L at *
      obtain ⟨e1, e2, e3, e4, -, -⟩ := hend
      cases hmo : hasF x.b3 mo
      · as_aux_lemma =>
          rw [hmo] at CH1
          have HMO := Lib.hid hmo
          clear hmo
          go_wp2_with fail
          refine (CH1.out _).mono ?_
          rintro e w2 ⟨rfl, hb2⟩
          have Q2 := Lib.hid (nextC q2.out hb2)
          have R2 := Lib.hid (RX.out.over hb2)
          clear hb2 k1 k2
          go_upto_region 6 with fail
          obtain ⟨TT, F, hTT, hF, hG⟩ := class_of (fun v => Row v g 40 #[.int .i64 y, .int .i64 mo, .int .i64 dd] ∧ Below WB.heap.size WB v) w2.drew ⟨R2.out.drew, below_drewN Q2.out 1⟩
          have q1 := fun n o => (hF n).1.cell o
          have QC := Lib.hid (hG _ ⟨R2.out.drew, below_drewN Q2.out 1⟩)
          have D1 := Lib.hid (fun n => show Calls Tryd.prog 57 #[.int .i64 y, .int .i64 mo] (F n) fun e w' => e = .returned (.int .i64 L) ∧ ∃ m, w' = F m from (CL1.out (F n)).mono fun e w' ⟨he, hb⟩ => ⟨he, hG w' ⟨(hF n).1.over hb, nextC (hF n).2 hb⟩⟩)
          have HF := Lib.hid hF
          clear hF hG
          refine wp_region_class F (by kernel_rfl) (by kernel_rfl) QC.out ?_
          repeat (go_big_quiet_step ((go_at_call 57; with_reducible exact D1.out _)))
          refine wpQuiet_nil ?_
          rintro _ ⟨nq, rfl⟩
          have Q3 := Lib.hid (HF.out nq).2
          clear q1 D1 HF QC
          go_wp2_with fail
          go_roundg (157055 - (dv + (L - dd) + 1)).toNat
          case measure => omega
          case rel =>
            have hnn := HNM.out (dv * 86400 + mv * 60) (by omega) HMO.out
            exact ⟨dv + (L - dd) + 1, 0, by go_num, rfl, by omega, by omega, by omega, by omega, by omega, by rw [show (dv + (L - dd) + 1) * 86400 + 0 * 60 = (dv + (L - dd) + 1) * 86400 by omega]; exact HN.out.more hnn, by omega, Q3.out⟩
      · rw [hmo] at CH1
        clear hmo HNM CL1
        go_wp2_with fail
        refine (CH1.out _).mono ?_
        rintro e w2 ⟨rfl, hb2⟩
        have Q2 := Lib.hid (nextC q2.out hb2)
        clear hb2 k1 k2
        have k3 := fun o => (K.out.over Q2.out).cell o
        cases hday : dayFit x dv
        · as_aux_lemma =>
            rw [hday] at CF1
            have HD := Lib.hid hday
            clear hday
            go_wp2_with fail
            refine (CF1.out _).mono ?_
            rintro e w3 ⟨rfl, hb3⟩
            have Q3 := Lib.hid (nextC Q2.out hb3)
            clear hb3 k3
            go_wp2_with fail
            go_roundg (157055 - (dv + 1)).toNat
            case measure => omega
            case rel =>
              have hnn := HND.out (dv * 86400 + mv * 60) (by omega) HD.out
              exact ⟨dv + 1, 0, by go_num, rfl, by omega, by omega, by omega, by omega, by omega, by rw [show (dv + 1) * 86400 + 0 * 60 = (dv + 1) * 86400 by omega]; exact HN.out.more hnn, by omega, Q3.out⟩
        · rw [hday] at CF1
          have HD := Lib.hid hday
          clear hday HND
          go_wp2_with fail
          refine (CF1.out _).mono ?_
          rintro e w3 ⟨rfl, hb3⟩
          have Q3 := Lib.hid (nextC Q2.out hb3)
          clear hb3 k3
          go_wp2_with fail
          go_loopg [10, 7] (24 - mv / 60).toNat (fun gi a b wr => ∃ hh mm : Int, a = .int .i64 hh ∧ b = .int .i64 mm ∧ (gi : Int) + hh = 24 ∧ 0 ≤ hh ∧ hh ≤ 24 ∧ 0 ≤ mm ∧ mm < 1440 ∧ NoFit x t (dv * 86400 + hh * 3600 + mm % 60 * 60) ∧ t ≤ dv * 86400 + hh * 3600 + mm % 60 * 60 ∧ Below WB.heap.size WB wr)
          case atStart => exact ⟨mv / 60, mv, by go_num, rfl, by omega, by omega, by omega, by omega, by omega, by rw [show dv * 86400 + mv / 60 * 3600 + mv % 60 * 60 = dv * 86400 + mv * 60 by omega]; exact HN.out, by omega, Q3.out⟩
          case round =>
            obtain ⟨hh, mm, rfl, rfl, hgi, i0, i1, n0, n1, hno, hle2, hbw⟩ := hrel
            have HN2 := Lib.hid hno
            have QI := Lib.hid hbw
            have kw := fun o => (K.out.over hbw).cell o
            clear hno hbw
            go_wp2_with fail
            refine (C1.out hh i0 _ (nextC Q0.out QI.out)).mono ?_
            rintro e w4 ⟨⟨r, ok, rfl, hr⟩, hb4⟩
            have Q4 := Lib.hid (nextC QI.out hb4)
            clear hb4 kw
            rcases hr with ⟨rfl, r1, r2, r3, r4⟩ | ⟨rfl, rfl, r4⟩
            · have r23 := hour_le HX.out HM.out r3
              have R3 := Lib.hid r3
              have R4 := Lib.hid r4
              clear r3 r4 r2
              go_upto_if 64 with fail
              go_cut [10, 7] (fun a b wx => ∃ m' : Int, a = .int .i64 r ∧ b = .int .i64 m' ∧ 0 ≤ m' ∧ m' < 1440 ∧ NoFit x t (dv * 86400 + r * 3600 + m' % 60 * 60) ∧ t ≤ dv * 86400 + r * 3600 + m' % 60 * 60 ∧ wx = w4)
              case first =>
                by_cases hlt : hh < r
                · go_wp2_with fail
                  go_meet
                  have hnn := noFit_hours (x := x) (n := dv) (a := dv * 86400 + hh * 3600 + mm % 60 * 60) (hh := hh) (r := r) (by omega) i0 (by omega) R4.out
                  exact ⟨0, rfl, rfl, by omega, by omega, by rw [show dv * 86400 + r * 3600 + 0 % 60 * 60 = dv * 86400 + r * 3600 by omega]; exact HN2.out.more hnn, by omega, rfl⟩
                · have er : r = hh := by omega
                  subst er
                  go_wp2_with fail
                  go_meet
                  exact ⟨mm, rfl, rfl, n0, n1, HN2.out, hle2, rfl⟩
              case rest =>
                obtain ⟨m', rfl, rfl, p0, p1, hno3, hle3, rfl⟩ := hcut
                have HN3 := Lib.hid hno3
                have kz := fun o => (K.out.over Q4.out).cell o
                clear hno3
                go_wp2_with fail
                refine (C0.out (m' % 60) (by omega) _ (nextC Q0.out Q4.out)).mono ?_
                rintro e w5 ⟨⟨q, ok, rfl, hq⟩, hb5⟩
                have Q5 := Lib.hid (nextC Q4.out hb5)
                clear hb5 kz
                rcases hq with ⟨rfl, q1, q2, q3, q4⟩ | ⟨rfl, rfl, q4⟩
                · as_aux_lemma =>
                    have q59 := min_le HX.out HM.out q3
                    have A3 := Lib.hid q3
                    have A4 := Lib.hid q4
                    clear q3 q4
                    go_wp2_with fail
                    try rw [Exit.noGoto_ret]
                    go_ret2
                    refine ⟨⟨_, _, rfl, .inl ⟨rfl, by omega, by omega, by omega, by omega, ?_, ?_⟩⟩, nextC Q0.out Q5.out⟩
                    · rw [show (dv * 86400 + r * 3600 + q * 60) / 86400 = dv by omega, show (dv * 86400 + r * 3600 + q * 60) % 86400 / 60 = r * 60 + q by omega]
                      unfold minFit
                      rw [HD.out, show (r * 60 + q) % 60 = q by omega, show (r * 60 + q) / 60 = r by omega, A3.out, R3.out]
                      rfl
                    · exact HN3.out.more (noFit_mins (x := x) (n := dv) (hh := r) (m := m' % 60) (r := q) (by omega) (by omega) (by omega) (by omega) (by omega) A4.out)
                · as_aux_lemma =>
                    have A4 := Lib.hid q4
                    clear q4
                    go_wp2_with fail
                    go_roundg (24 - (r + 1)).toNat
                    case measure => omega
                    case rel =>
                      have hnn := noFit_mins (x := x) (n := dv) (a := dv * 86400 + r * 3600 + m' % 60 * 60) (hh := r) (m := m' % 60) (r := 60) (by omega) (by omega) (by omega) (by omega) (by omega) (fun j j1 j2 => A4.out j j1)
                      exact ⟨r + 1, 0, by go_num, rfl, by omega, by omega, by omega, by omega, by omega, by rw [show dv * 86400 + (r + 1) * 3600 + 0 % 60 * 60 = dv * 86400 + r * 3600 + 60 * 60 by omega]; exact HN3.out.more hnn, by omega, Q5.out⟩
            · as_aux_lemma =>
                go_wp2_with fail
                go_roundg (157055 - (dv + 1)).toNat
                case measure => omega
                case rel =>
                  have hnn := noFit_hours (x := x) (n := dv) (a := dv * 86400 + hh * 3600 + mm % 60 * 60) (hh := hh) (r := 24) (by omega) i0 (by omega) (fun j j1 j2 => r4 j j1)
                  exact ⟨dv + 1, 0, by go_num, rfl, by omega, by omega, by omega, by omega, by omega, by rw [show (dv + 1) * 86400 + 0 * 60 = dv * 86400 + 24 * 3600 by omega]; exact HN2.out.more hnn, by omega, Q4.out⟩
    · have ed : dv = 157054 := by omega
      subst ed
      go_wp2_with fail
      try rw [Exit.noGoto_ret]
      go_ret2
      exact ⟨⟨_, _, rfl, .inr ⟨rfl, rfl, fun z h1 h2 h3 => HN.out z h1 (by omega) h3⟩⟩, QW.out⟩
end Go.Proofs.YthigmjjafilbcaaDoor
