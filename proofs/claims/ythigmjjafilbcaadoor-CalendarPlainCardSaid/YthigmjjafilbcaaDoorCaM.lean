/- Fields and expressions, plainly: bits, which numbers are allowed, which days and minutes fit. No program in sight. -/
import Derived.Test.YthigmjjafilbcaaDoorStM
namespace Go.Proofs.YthigmjjafilbcaaDoor
set_option linter.unusedVariables false
/-- Is a number allowed by a field? -/
def hasF (b : Nat) (n : Int) : Bool := decide (0 ≤ n) && (decide (n ≤ 63) && b.testBit n.toNat)
/-- The numbers of a kind, as bits. -/
def allK (k : Int) : Nat := if k = 0 then 1152921504606846975 else if k = 1 then 16777215 else if k = 2 then 4294967294 else if k = 3 then 8190 else 127
def lowK (k : Int) : Int := if k = 2 ∨ k = 3 then 1 else 0
def highK (k : Int) : Int := if k = 0 then 59 else if k = 1 then 23 else if k = 2 then 31 else if k = 3 then 12 else 6
/-- May a field be of a kind? -/
def mayF (k : Int) (b : Nat) : Bool := !(b == 0) && ((b &&& (18446744073709551615 - allK k)) == 0)
theorem allK_bit {k : Int} (h0 : 0 ≤ k) (h4 : k ≤ 4) (j : Nat) (hj : j < 64) : (18446744073709551615 - allK k).testBit j = !(decide (lowK k ≤ (j : Int)) && decide ((j : Int) ≤ highK k)) := by
  have hk : k = 0 ∨ k = 1 ∨ k = 2 ∨ k = 3 ∨ k = 4 := by omega
  have hall : ∀ j : Fin 64, (18446744073709551615 - allK k).testBit j.val = !(decide (lowK k ≤ (j.val : Int)) && decide ((j.val : Int) ≤ highK k)) := by
    rcases hk with rfl | rfl | rfl | rfl | rfl <;> decide
  exact hall ⟨j, hj⟩
theorem mayF_iff {k : Int} (h0 : 0 ≤ k) (h4 : k ≤ 4) {b : Nat} (hb : b < 18446744073709551616) :
    mayF k b = true ↔ b ≠ 0 ∧ ∀ j : Nat, j < 64 → hasF b j = true → lowK k ≤ (j : Int) ∧ (j : Int) ≤ highK k := by
  unfold mayF
  simp only [Bool.and_eq_true, Bool.not_eq_true', beq_eq_false_iff_ne, beq_iff_eq, ne_eq]
  refine and_congr_right fun _ => ?_
  constructor
  · intro h j hj hh
    have hbit : b.testBit j = true := by
      unfold hasF at hh
      simp at hh
      exact hh.2
    have e : (b &&& (18446744073709551615 - allK k)).testBit j = false := by rw [h]; simp
    rw [Nat.testBit_and, hbit, allK_bit h0 h4 j hj] at e
    simpa using e
  · intro h
    apply Nat.eq_of_testBit_eq
    intro j
    rw [Nat.testBit_and, Nat.zero_testBit]
    by_cases hj : j < 64
    · rw [allK_bit h0 h4 j hj]
      cases hbit : b.testBit j with
      | false => rfl
      | true =>
        have := h j hj (by unfold hasF; simp [hbit]; omega)
        simp [this.1, this.2]
    · have : b.testBit j = false := Nat.testBit_lt_two_pow (Nat.lt_of_lt_of_le hb (by
        have := Nat.pow_le_pow_right (n := 2) (by decide) (show 64 ≤ j by omega)
        simpa using this))
      rw [this]; rfl
/-- An expression: bits and stars of five fields. -/
structure Xp where
  b0 : Nat
  b1 : Nat
  b2 : Nat
  b3 : Nat
  b4 : Nat
  s0 : Bool
  s1 : Bool
  s2 : Bool
  s3 : Bool
  s4 : Bool
structure Xp.Ok (x : Xp) : Prop where
  h0 : x.b0 < 18446744073709551616
  h1 : x.b1 < 18446744073709551616
  h2 : x.b2 < 18446744073709551616
  h3 : x.b3 < 18446744073709551616
  h4 : x.b4 < 18446744073709551616
def mayX (x : Xp) : Bool := mayF 0 x.b0 && (mayF 1 x.b1 && (mayF 2 x.b2 && (mayF 3 x.b3 && mayF 4 x.b4)))
/-- By month, day of the month, day of the week. -/
def dmw (x : Xp) (m d wd : Int) : Bool := hasF x.b3 m && (if (x.s2 || x.s4) = true then hasF x.b2 d && hasF x.b4 wd else hasF x.b2 d || hasF x.b4 wd)
def dayFitsC (x : Xp) (y m d h mi s wd : Int) : Bool := mayX x && (clkB y m d h mi s wd && dmw x m d wd)
def fitsC (x : Xp) (y m d h mi s wd : Int) : Bool := dayFitsC x y m d h mi s wd && (hasF x.b0 mi && hasF x.b1 h)
/-- Does a day that may be fit? -/
def dayFit (x : Xp) (n : Int) : Bool := mayX x && dmw x (ofM n) (ofD n) ((n + 4) % 7)
/-- Does a minute of a day fit? -/
def minFit (x : Xp) (n m : Int) : Bool := dayFit x n && (hasF x.b0 (m % 60) && hasF x.b1 (m / 60))
theorem clk_at {n m : Int} (h0 : 0 ≤ n) (h1 : n < 157054) (m0 : 0 ≤ m) (m1 : m < 1440) :
    clkB (ofY n) (ofM n) (ofD n) (m / 60) (m % 60) 0 ((n + 4) % 7) = true := by
  obtain ⟨hm, hd⟩ := of_num n h0 h1
  rw [daysA_num hm] at hd
  unfold clkB
  rw [hm, rngB_iff.2 ⟨by omega, by omega, by omega, by omega, by omega, by omega⟩, hd]
  simp
theorem dayFitsC_at (x : Xp) {n m : Int} (h0 : 0 ≤ n) (h1 : n < 157054) (m0 : 0 ≤ m) (m1 : m < 1440) :
    dayFitsC x (ofY n) (ofM n) (ofD n) (m / 60) (m % 60) 0 ((n + 4) % 7) = dayFit x n := by
  unfold dayFitsC dayFit
  rw [clk_at h0 h1 m0 m1]; simp
theorem fitsC_at (x : Xp) {n m : Int} (h0 : 0 ≤ n) (h1 : n < 157054) (m0 : 0 ≤ m) (m1 : m < 1440) :
    fitsC x (ofY n) (ofM n) (ofD n) (m / 60) (m % 60) 0 ((n + 4) % 7) = minFit x n m := by
  unfold fitsC minFit
  rw [dayFitsC_at x h0 h1 m0 m1]
end Go.Proofs.YthigmjjafilbcaaDoor
