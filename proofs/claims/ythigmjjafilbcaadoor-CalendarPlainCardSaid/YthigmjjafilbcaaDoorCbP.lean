/- The chapter's rows, plainly: week 65, no lists. No program in sight. -/
import Derived.Test.YthigmjjafilbcaaDoorMe
import Derived.Test.YthigmjjafilbcaaDoorRgN
namespace Go.Proofs.YthigmjjafilbcaaDoor
set_option linter.unusedVariables false
set_option maxRecDepth 100000
theorem wk (n : Int) : worksC 65 [] [] n = !(65 : Nat).testBit ((n + 4) % 7).toNat := by unfold worksC; simp
theorem may65 : mayC 65 [] [] = true := by decide
theorem may127 : mayC 127 [] [] = false := by decide
theorem first_2 {r e : Int} (h : FirstIs 65 [] [] 2 1 r e) : r = 4 ∧ e = 0 := by
  have w2 : worksC 65 [] [] 2 = false := by decide
  have w3 : worksC 65 [] [] 3 = false := by decide
  have w4 : worksC 65 [] [] 4 = true := by decide
  rcases h with ⟨i, ha, hb, hc, rfl, rfl⟩ | ⟨i, ha, hb, rfl, rfl⟩
  · have : i < 3 := by
      apply Classical.byContradiction; intro hn
      have := (ha 2 (by omega)).2
      rw [show (2 : Int) + 1 * (2 : Nat) = 4 by decide, w4] at this; cases this
    have : i = 0 ∨ i = 1 ∨ i = 2 := by omega
    rcases this with rfl | rfl | rfl
    · rw [show (2 : Int) + 1 * (0 : Nat) = 2 by decide, w2] at hc; cases hc
    · rw [show (2 : Int) + 1 * (1 : Nat) = 3 by decide, w3] at hc; cases hc
    · exact ⟨by decide, rfl⟩
  · have : i < 3 := by
      apply Classical.byContradiction; intro hn
      have := (ha 2 (by omega)).2
      rw [show (2 : Int) + 1 * (2 : Nat) = 4 by decide, w4] at this; cases this
    have hB : inB (2 + 1 * (i : Int)) = true := inB_iff.2 (by omega)
    rw [hB] at hb; cases hb
theorem first_3 {r e : Int} (h : FirstIs 65 [] [] 3 (-1) r e) : r = 1 ∧ e = 0 := by
  have w2 : worksC 65 [] [] 3 = false := by decide
  have w3 : worksC 65 [] [] 2 = false := by decide
  have w4 : worksC 65 [] [] 1 = true := by decide
  rcases h with ⟨i, ha, hb, hc, rfl, rfl⟩ | ⟨i, ha, hb, rfl, rfl⟩
  · have : i < 3 := by
      apply Classical.byContradiction; intro hn
      have := (ha 2 (by omega)).2
      rw [show (3 : Int) + (-1) * (2 : Nat) = 1 by decide, w4] at this; cases this
    have : i = 0 ∨ i = 1 ∨ i = 2 := by omega
    rcases this with rfl | rfl | rfl
    · rw [show (3 : Int) + (-1) * (0 : Nat) = 3 by decide, w2] at hc; cases hc
    · rw [show (3 : Int) + (-1) * (1 : Nat) = 2 by decide, w3] at hc; cases hc
    · exact ⟨by decide, rfl⟩
  · have : i < 3 := by
      apply Classical.byContradiction; intro hn
      have := (ha 2 (by omega)).2
      rw [show (3 : Int) + (-1) * (2 : Nat) = 1 by decide, w4] at this; cases this
    have hB : inB (3 + (-1) * (i : Int)) = true := inB_iff.2 (by omega)
    rw [hB] at hb; cases hb
theorem cnt_mono (k : Nat) (off on : List Int) (a : Int) {m m' : Nat} (h : m ≤ m') : cntC k off on a m ≤ cntC k off on a m' := by
  obtain ⟨d, rfl⟩ : ∃ d, m' = m + d := ⟨m' - m, by omega⟩
  clear h
  induction d with
  | zero => exact Nat.le_refl _
  | succ d ih => have := cntC_succ k off on a (m + d); rw [show m + (d + 1) = m + d + 1 by omega]; omega
theorem cnt7 : cntC 65 [] [] 0 7 = 5 := by decide
theorem add_2 {r e : Int} (h : AddIs 65 [] [] 0 2 r e) : r = 4 ∧ e = 0 := by
  have c3 : cntC 65 [] [] 0 3 = 1 := by decide
  have c4 : cntC 65 [] [] 0 4 = 2 := by decide
  have c5 : cntC 65 [] [] 0 5 = 3 := by decide
  rcases h with ⟨i, hb, hc, hd, rfl, rfl⟩ | ⟨i, ha, hb, rfl, rfl⟩
  · have h1 : ¬ i + 1 ≤ 3 := fun hh => by have := cnt_mono 65 [] [] 0 hh; omega
    have h2 : ¬ 5 ≤ i + 1 := fun hh => by have := cnt_mono 65 [] [] 0 hh; omega
    exact ⟨by omega, rfl⟩
  · have := cnt_mono 65 [] [] 0 (show 4 ≤ i by omega)
    omega
/-- The two expressions. -/
abbrev xStar : Xp := xpOf (bv 0 7) true
abbrev xSix : Xp := xpOf (bv 6 1) false
theorem xOk (b : Nat) (st : Bool) (hb : b < 18446744073709551616) : (xpOf b st).Ok := ⟨(show bv 0 1 < 18446744073709551616 by decide), (show bv 12 1 < 18446744073709551616 by decide), (show bv 1 31 < 18446744073709551616 by decide), (show bv 1 12 < 18446744073709551616 by decide), hb⟩
theorem xStar_ok : xStar.Ok := xOk _ _ (by decide)
theorem xSix_ok : xSix.Ok := xOk _ _ (by decide)
theorem xStar_may : mayX xStar = true := by decide
theorem xSix_may : mayX xSix = true := by decide
theorem has_one {a : Nat} {n : Int} (h : hasF (bv a 1) n = true) : n = a := by
  unfold hasF bv at h
  simp at h
  have := h.2.2
  rw [Nat.testBit_two_pow] at this
  simp at this
  omega
theorem noon {b : Nat} {st : Bool} {d m : Int} (m0 : 0 ≤ m) (h : minFit (xpOf b st) d m = true) : m = 720 := by
  unfold minFit at h
  simp only [Bool.and_eq_true] at h
  have h1 := has_one h.2.1
  have h2 := has_one h.2.2
  omega
theorem saturday {d m : Int} (h : minFit xSix d m = true) : (d + 4) % 7 = 6 := by
  unfold minFit dayFit dmw at h
  simp only [Bool.and_eq_true] at h
  have := h.1.2.2
  simp [xSix, xpOf] at this
  have := has_one (a := 6) this.2
  omega
theorem star_4 : minFit xStar 4 720 = true := by decide +kernel
theorem six_2 : minFit xSix 2 720 = true := by decide +kernel
theorem moved_1 (n : Int) : MovedIs 65 [] [] 1 n [n] := .inl ⟨rfl, rfl⟩
theorem mv (mode n s : Int) (i : Nat) (hm : mode = 2 ∨ mode = 3) (hs : s = if mode = 3 then 1 else -1) (h : ∀ j : Nat, j < i → inB (n + s + s * (j : Int)) = true ∧ worksC 65 [] [] (n + s + s * (j : Int)) = false) (h' : inB (n + s + s * (i : Int)) = false ∨ worksC 65 [] [] (n + s + s * (i : Int)) = true) : MovedIs 65 [] [] mode n (stepsL n s (i + 1)) :=
  .inr ⟨hm, s, hs, i, rfl, h, h'⟩
theorem two_lt {P : Nat → Prop} (h0 : P 0) (h1 : P 1) : ∀ j : Nat, j < 2 → P j := fun j hj => by
  have : j = 0 ∨ j = 1 := by omega
  rcases this with rfl | rfl
  · exact h0
  · exact h1
theorem moved_2_4 : MovedIs 65 [] [] 2 4 (stepsL 4 (-1) 3) := mv 2 4 (-1) 2 (.inl rfl) rfl (two_lt (by decide) (by decide)) (by decide)
theorem moved_2_0 : MovedIs 65 [] [] 2 0 (stepsL 0 (-1) 1) := mv 2 0 (-1) 0 (.inl rfl) rfl (fun j hj => absurd hj (by omega)) (by decide)
theorem moved_2_1 : MovedIs 65 [] [] 2 1 (stepsL 1 (-1) 1) := mv 2 1 (-1) 0 (.inl rfl) rfl (fun j hj => absurd hj (by omega)) (by decide)
theorem moved_3_4 : MovedIs 65 [] [] 3 4 (stepsL 4 1 1) := mv 3 4 1 0 (.inr rfl) rfl (fun j hj => absurd hj (by omega)) (by decide)
theorem moved_3_0 : MovedIs 65 [] [] 3 0 (stepsL 0 1 1) := mv 3 0 1 0 (.inr rfl) rfl (fun j hj => absurd hj (by omega)) (by decide)
theorem moved_3_1 : MovedIs 65 [] [] 3 1 (stepsL 1 1 3) := mv 3 1 1 2 (.inr rfl) rfl (two_lt (by decide) (by decide)) (by decide)
theorem fire_noon {b : Nat} {st : Bool} {mode n m : Int} (m0 : 0 ≤ m) (h : FireAt 65 [] [] mode (xpOf b st) n m) : m = 720 := by
  obtain ⟨-, L, -, d, -, hf⟩ := h
  exact noon m0 hf
/-- The first firing that is behind a moment. -/
theorem after_is {b : Nat} {st : Bool} {mode t r e n0 : Int} (h : AfterIs 65 [] [] mode (xpOf b st) t r e) (hin : inB n0 = true) (ht0 : t / 86400 ≤ n0) (ht1 : n0 < t / 86400 + 3700) (htl : t < n0 * 86400 + 43200)
    (hf : FireAt 65 [] [] mode (xpOf b st) n0 720) (hno : ∀ n : Int, t / 86400 ≤ n → n < n0 → t < n * 86400 + 43200 → ¬ FireAt 65 [] [] mode (xpOf b st) n 720) : r = n0 * 86400 + 43200 ∧ e = 0 := by
  rcases h with ⟨n, m, h1, h2, h3, h4, h5, h6, h7, rfl, rfl, h8, h9⟩ | ⟨rfl, rfl, h⟩
  · have hm := fire_noon h4 h7
    subst hm
    have e : n = n0 := by
      apply Classical.byContradiction; intro hne
      rcases Int.lt_or_gt_of_ne hne with hlt | hgt
      · exact hno n h2 hlt (by omega) h7
      · exact h8 n0 ht0 hgt 720 (by decide) (by decide) (by omega) hf
    subst e
    exact ⟨by omega, rfl⟩
  · exact absurd hf (h n0 ht0 ht1 hin 720 (by decide) (by decide) (by omega))
theorem noWork {mode n m : Int} {x : Xp} (h : worksC 65 [] [] n = false) : ¬ FireAt 65 [] [] mode x n m := fun hh => by rw [hh.1] at h; cases h
theorem star_after {mode r e : Int} (hmode : mode = 1 ∨ mode = 2 ∨ mode = 3) (h : AfterIs 65 [] [] mode xStar 129600 r e) : r = 388800 ∧ e = 0 := by
  refine after_is (n0 := 4) h (by decide) (by decide) (by decide) (by decide) ⟨by decide, ?_⟩ fun n h1 h2 h3 => ?_
  · rcases hmode with rfl | rfl | rfl
    · exact ⟨_, moved_1 4, 4, by simp, star_4⟩
    · exact ⟨_, moved_2_4, 4, by decide, star_4⟩
    · exact ⟨_, moved_3_4, 4, by decide, star_4⟩
  · have : n = 2 ∨ n = 3 := by omega
    rcases this with rfl | rfl
    · exact noWork (by decide)
    · exact noWork (by decide)
theorem six_after_1 {r e : Int} (h : AfterIs 65 [] [] 1 xSix 0 r e) : e = 5 := by
  rcases h with ⟨n, m, h1, h2, h3, h4, h5, h6, h7, rfl, rfl, h8, h9⟩ | ⟨rfl, rfl, h⟩
  · exfalso
    obtain ⟨hw, L, hL, d, hd, hf⟩ := h7
    rw [moved_unique hL (moved_1 n)] at hd
    simp at hd
    subst hd
    have := saturday hf
    rw [wk, this] at hw
    cases hw
  · rfl
theorem noSat {mode n : Int} {L : List Int} (hL : MovedIs 65 [] [] mode n L) (h : ∀ d ∈ L, ¬ (d + 4) % 7 = 6) (m : Int) : ¬ FireAt 65 [] [] mode xSix n m := fun hh => by
  obtain ⟨hw, L', hL', d, hd, hf⟩ := hh
  rw [moved_unique hL' hL] at hd
  exact h d hd (saturday hf)
theorem six_after_2 {r e : Int} (h : AfterIs 65 [] [] 2 xSix 0 r e) : r = 388800 ∧ e = 0 := by
  refine after_is (n0 := 4) h (by decide) (by decide) (by decide) (by decide) ⟨by decide, _, moved_2_4, 2, by decide, six_2⟩ fun n h1 h2 h3 => ?_
  have : n = 0 ∨ n = 1 ∨ n = 2 ∨ n = 3 := by omega
  rcases this with rfl | rfl | rfl | rfl
  · exact noSat moved_2_0 (by decide) _
  · exact noSat moved_2_1 (by decide) _
  · exact noWork (by decide)
  · exact noWork (by decide)
theorem six_after_3 {r e : Int} (h : AfterIs 65 [] [] 3 xSix 0 r e) : r = 129600 ∧ e = 0 := by
  refine after_is (n0 := 1) h (by decide) (by decide) (by decide) (by decide) ⟨by decide, _, moved_3_1, 2, by decide, six_2⟩ fun n h1 h2 h3 => ?_
  have : n = 0 := by omega
  subst this
  exact noSat moved_3_0 (by decide) _
end Go.Proofs.YthigmjjafilbcaaDoor
