/- Plain law of the calendar's firings: found within 250 days; what After says by minutes. Plain law of CalendarMoves and CalendarPlain. next.After. next.top, next.Last. -/
import Derived.Test.YthigmjjafilbcaaDoorMe
import Derived.Test.YthigmjjafilbcaaDoorMc
import Derived.Lib.BitFns
import Derived.Test.YthigmjjafilbcaaDoorShelf
namespace Go.Proofs.YthigmjjafilbcaaDoor
set_option linter.unusedVariables false
theorem least {P : Nat → Prop} (N : Nat) (h : P N) : ∃ i, P i ∧ ∀ j, j < i → ¬ P j := by
  induction N using Nat.strongRecOn with
  | _ N ih =>
    by_cases hh : ∃ j, j < N ∧ P j
    · obtain ⟨j, hj, hp⟩ := hh; exact ih j hj hp
    · exact ⟨N, h, fun j hj hp => hh ⟨j, hj, hp⟩⟩
theorem free_bit : ∀ k : Nat, k < 127 → ∃ b : Nat, b < 7 ∧ k.testBit b = false := by decide
/-- Of 217 days one works, where a list has at most 30. -/
theorem window {k : Nat} {off : List Int} (on : List Int) (hk : k < 127) (ho : off.length ≤ 30) (n s : Int) (hs : s = 1 ∨ s = -1) : ∃ j : Nat, j < 217 ∧ worksC k off on (n + s * (j : Int)) = true := by
  obtain ⟨b, hb, hbit⟩ := free_bit k hk
  obtain ⟨j0, hj0, hres⟩ : ∃ j0 : Nat, j0 < 7 ∧ ∀ i : Nat, ((n + s * ((j0 + 7 * i : Nat) : Int)) + 4) % 7 = (b : Int) := by
    rcases hs with rfl | rfl
    · exact ⟨(((b : Int) - n - 4) % 7).toNat, by omega, fun i => by omega⟩
    · exact ⟨((n + 4 - (b : Int)) % 7).toNat, by omega, fun i => by omega⟩
  apply Classical.byContradiction
  intro hno
  have hall : ∀ i : Nat, i < 31 → n + s * ((j0 + 7 * i : Nat) : Int) ∈ off := fun i hi => by
    have hw : ¬ worksC k off on (n + s * ((j0 + 7 * i : Nat) : Int)) = true := fun h => hno ⟨_, by omega, h⟩
    have hr := hres i
    generalize n + s * ((j0 + 7 * i : Nat) : Int) = d at hw hr ⊢
    unfold worksC at hw
    rw [hr, Int.toNat_natCast, hbit] at hw
    simp at hw
    exact hw.2
  have hnd : ((List.range 31).map fun i : Nat => n + s * ((j0 + 7 * i : Nat) : Int)).Nodup := by
    refine List.pairwise_map.2 (List.nodup_range.imp fun {a b} hab he => hab ?_)
    rcases hs with rfl | rfl <;> omega
  have := hnd.length_le_of_subset (l₂ := off) fun d hd => by
    obtain ⟨i, hi, rfl⟩ := List.mem_map.1 hd
    exact hall i (List.mem_range.1 hi)
  simp at this
  omega
theorem moved_there {k : Nat} {off on : List Int} (mode n : Int) (hmode : 1 ≤ mode ∧ mode ≤ 3) (hn : inB n = true) : ∃ L, MovedIs k off on mode n L := by
  have hb := inB_iff.1 hn
  by_cases h1 : mode = 1
  · exact ⟨_, .inl ⟨h1, rfl⟩⟩
  · obtain ⟨s, hs⟩ : ∃ s : Int, s = (if mode = 3 then 1 else -1) := ⟨_, rfl⟩
    have hs' : s = 1 ∨ s = -1 := by rw [hs]; split <;> simp
    have hend : inB (n + s + s * ((157054 : Nat) : Int)) = false ∨ worksC k off on (n + s + s * ((157054 : Nat) : Int)) = true := .inl (by
      cases h : inB (n + s + s * ((157054 : Nat) : Int))
      · rfl
      · have := inB_iff.1 h
        rcases hs' with rfl | rfl <;> omega)
    obtain ⟨i, hi, hlt⟩ := least (P := fun i => inB (n + s + s * (i : Int)) = false ∨ worksC k off on (n + s + s * (i : Int)) = true) 157054 hend
    exact ⟨_, .inr ⟨by omega, s, hs, i, rfl, fun j hj => by
      have := hlt j hj
      simp only [not_or] at this
      exact ⟨by cases h : inB (n + s + s * (j : Int)) <;> simp_all, by cases h : worksC k off on (n + s + s * (j : Int)) <;> simp_all⟩, hi⟩⟩
theorem hit_fire {k : Nat} {off on : List Int} {mode : Int} {x : Xp} {n m d : Int} (hmode : 1 ≤ mode ∧ mode ≤ 3) (hn : inB n = true) (hw : worksC k off on n = true) (h : Hit k off on mode x n m d) : FireAt k off on mode x n m := by
  obtain ⟨hind, hg, hm⟩ := h
  obtain ⟨L, hL⟩ := moved_there (k := k) (off := off) (on := on) mode n hmode hn
  refine ⟨hw, L, hL, d, ?_, hm⟩
  rcases hL with ⟨rfl, rfl⟩ | ⟨hmm, s, hs, i', rfl, ha, hb⟩
  · rcases hg with ⟨-, rfl⟩ | ⟨h1, -⟩
    · simp
    · exact absurd rfl h1
  · have hs' : s = 1 ∨ s = -1 := by rw [hs]; split <;> simp
    have hst : (if mode = 2 then (1 : Int) else -1) = -s := by
      rw [hs]
      rcases hmm with rfl | rfl <;> simp
    refine mem_stepsL.2 ?_
    rcases hg with ⟨h1, -⟩ | ⟨-, ⟨-, rfl⟩ | ⟨hnw, hnear⟩⟩
    · omega
    · exact ⟨0, by omega, by simp⟩
    · rw [hst] at hnear
      rcases hnear with ⟨i, h1, h2, h3, e⟩ | ⟨i, -, -, e⟩
      · refine ⟨i, ?_, by rcases hs' with rfl | rfl <;> omega⟩
        apply Nat.lt_of_not_le
        intro hle
        have := h1 (i - i' - 1) (by omega)
        rw [show d + -s * ((i - i' - 1 : Nat) : Int) = n + s + s * (i' : Int) by rcases hs' with rfl | rfl <;> omega] at this
        rcases hb with hb | hb
        · rw [hb] at this; cases this.1
        · rw [hb] at this; cases this.2
      · have := inB_iff.1 hn
        omega
theorem fire_hit {k : Nat} {off on : List Int} (mode : Int) (x : Xp) (n m : Int) (hmode : 1 ≤ mode ∧ mode ≤ 3) (hk : k < 127) (ho : off.length ≤ 30) (hn : inB n = true) :
    FireAt k off on mode x n m ↔ worksC k off on n = true ∧ ∃ d, n - 250 ≤ d ∧ d ≤ n + 250 ∧ Hit k off on mode x n m d := by
  constructor
  · rintro ⟨hw, L, hL, d, hd, hm⟩
    refine ⟨hw, d, ?_⟩
    have hind := moved_inB hL hn hd
    rcases hL with ⟨rfl, rfl⟩ | ⟨hmm, s, hs, i, rfl, ha, hb⟩
    · simp at hd
      subst hd
      exact ⟨by omega, by omega, hind, .inl ⟨rfl, rfl⟩, hm⟩
    · have hs' : s = 1 ∨ s = -1 := by rw [hs]; split <;> simp
      obtain ⟨j0, hj0, hwj⟩ := window on hk ho (n + s) s hs'
      have hi : i ≤ j0 := Nat.le_of_not_lt fun h => by rw [(ha j0 h).2] at hwj; cases hwj
      obtain ⟨j, hj, rfl⟩ := mem_stepsL.1 hd
      refine ⟨by rcases hs' with rfl | rfl <;> omega, by rcases hs' with rfl | rfl <;> omega, hind, .inr ⟨by omega, ?_⟩, hm⟩
      by_cases hz : j = 0
      · subst hz
        exact .inl ⟨by simpa using hw, by simp⟩
      · have hst : (if mode = 2 then (1 : Int) else -1) = -s := by
          rw [hs]
          rcases hmm with rfl | rfl <;> simp
        have hat : ∀ q : Nat, 1 ≤ q → q ≤ j → inB (n + s * (q : Int)) = true ∧ worksC k off on (n + s * (q : Int)) = false := fun q h1 h2 => by
          have := ha (q - 1) (by omega)
          rw [show n + s + s * ((q - 1 : Nat) : Int) = n + s * (q : Int) by rcases hs' with rfl | rfl <;> omega] at this
          exact this
        refine .inr ⟨(hat j (by omega) (Nat.le_refl _)).2, ?_⟩
        rw [hst]
        refine .inl ⟨j, fun q hq => ?_, ?_⟩
        · rw [show n + s * (j : Int) + -s * (q : Int) = n + s * ((j - q : Nat) : Int) by rcases hs' with rfl | rfl <;> omega]
          exact hat _ (by omega) (by omega)
        · rw [show n + s * (j : Int) + -s * (j : Int) = n by rcases hs' with rfl | rfl <;> omega]
          exact ⟨hn, hw, rfl⟩
  · rintro ⟨hw, d, -, -, h⟩
    exact hit_fire hmode hn hw h
/-- What After says, by minutes. -/
theorem after_char {k : Nat} {off on : List Int} {mode : Int} {x : Xp} {t r e : Int} (h0 : 0 ≤ t) (h1 : t < 13569465600) (h : AfterIs k off on mode x t r e) :
    (e = 0 ∧ t < r ∧ r < (t / 86400 + 3700) * 86400 ∧ r < 13569465600 ∧ r % 60 = 0 ∧ FireAt k off on mode x (r / 86400) (r % 86400 / 60) ∧ ∀ z, t < z → z < r → z % 60 = 0 → ¬ FireAt k off on mode x (z / 86400) (z % 86400 / 60)) ∨
    (e = 5 ∧ r = 0 ∧ ∀ z, t < z → z < (t / 86400 + 3700) * 86400 → z < 13569465600 → z % 60 = 0 → ¬ FireAt k off on mode x (z / 86400) (z % 86400 / 60)) := by
  rcases h with ⟨n, m, hin, n0, n1, m0, m1, ht, hf, rfl, rfl, hq, hq'⟩ | ⟨rfl, rfl, hq⟩
  · have hb := inB_iff.1 hin
    have e1 : (n * 86400 + m * 60) / 86400 = n := by omega
    have e2 : (n * 86400 + m * 60) % 86400 / 60 = m := by omega
    refine .inl ⟨rfl, ht, by omega, by omega, by omega, by rw [e1, e2]; exact hf, fun z z0 z1 z2 => ?_⟩
    obtain ⟨d, hd⟩ : ∃ d, z / 86400 = d := ⟨_, rfl⟩
    obtain ⟨mm, hmm⟩ : ∃ mm, z % 86400 / 60 = mm := ⟨_, rfl⟩
    rw [hd, hmm]
    have hz : z = d * 86400 + mm * 60 := by omega
    by_cases hlt : d < n
    · exact hq d (by omega) hlt mm (by omega) (by omega) (by omega)
    · have : d = n := by omega
      subst this
      exact hq' mm (by omega) (by omega) (by omega)
  · refine .inr ⟨rfl, rfl, fun z z0 z1 z2 z3 => ?_⟩
    exact hq (z / 86400) (by omega) (by omega) (inB_iff.2 ⟨by omega, by omega⟩) (z % 86400 / 60) (by omega) (by omega) (by omega)
end Go.Proofs.YthigmjjafilbcaaDoor
namespace Go.Proofs.YthigmjjafilbcaaDoor
set_option linter.unusedVariables false
/-- A minute fits. -/
def FitZ (x : Xp) (z : Int) : Prop := minFit x (z / 86400) (z % 86400 / 60) = true
/-- The first that holds behind t, and the first that is told of a bounded time. -/
theorem same_first {Fire : Int → Prop} {t far p f r e : Int}
    (hA : (e = 0 ∧ t < r ∧ r < far ∧ r < 13569465600 ∧ r % 60 = 0 ∧ Fire r ∧ ∀ z, t < z → z < r → z % 60 = 0 → ¬ Fire z) ∨ (e = 5 ∧ r = 0 ∧ ∀ z, t < z → z < far → z < 13569465600 → z % 60 = 0 → ¬ Fire z))
    (hP : (f = 0 ∧ t < p ∧ p < 13569465600 ∧ p % 60 = 0 ∧ (Fire p ∨ far ≤ p) ∧ ∀ z, t < z → z < p → z % 60 = 0 → ¬ Fire z) ∨ (f = 5 ∧ ∀ z, t < z → z < 13569465600 → z % 60 = 0 → ¬ Fire z)) :
    (e = 0 ∧ f = 0 ∧ p < far ∧ r = p) ∨ (e = 5 ∧ f = 0 ∧ far ≤ p) ∨ (e = 5 ∧ f = 5) := by
  rcases hA with ⟨rfl, a1, a2, a3, a4, a5, a6⟩ | ⟨rfl, rfl, a1⟩ <;> rcases hP with ⟨rfl, p1, p2, p3, p4, p5⟩ | ⟨rfl, p1⟩
  · rcases p4 with p4 | p4
    · by_cases h : r < p
      · exact absurd a5 (p5 r a1 h a4)
      · by_cases h' : p < r
        · exact absurd p4 (a6 p p1 h' p3)
        · exact .inl ⟨rfl, rfl, by omega, by omega⟩
    · exact absurd a5 (p5 r a1 (by omega) a4)
  · exact absurd a5 (p1 r a1 a3 a4)
  · by_cases h : far ≤ p
    · exact .inr (.inl ⟨rfl, rfl, h⟩)
    · rcases p4 with p4 | p4
      · exact absurd p4 (a1 p p1 (by omega) p2 p3)
      · exact absurd p4 h
  · exact .inr (.inr ⟨rfl, rfl⟩)
/-- What next.After, and Last, answer. -/
def NextIs (x : Xp) (t r e : Int) : Prop :=
  (e = 0 ∧ t < r ∧ r < 13569465600 ∧ r % 60 = 0 ∧ FitZ x r ∧ ∀ z, t < z → z < r → z % 60 = 0 → ¬ FitZ x z) ∨ (e = 5 ∧ r = 0 ∧ ∀ z, t < z → z < 13569465600 → z % 60 = 0 → ¬ FitZ x z)
def LastIs (x : Xp) (t r e : Int) : Prop :=
  (e = 0 ∧ 0 ≤ r ∧ r ≤ t ∧ r % 60 = 0 ∧ FitZ x r ∧ ∀ z, r < z → z ≤ t → z % 60 = 0 → ¬ FitZ x z) ∨ (e = 5 ∧ r = 0 ∧ ∀ z, 0 ≤ z → z ≤ t → z % 60 = 0 → ¬ FitZ x z)
theorem fire_skip {k : Nat} {off on : List Int} {x : Xp} {n m : Int} : FireAt k off on 1 x n m ↔ worksC k off on n = true ∧ minFit x n m = true := by
  constructor
  · rintro ⟨hw, L, hL, d, hd, hm⟩
    rcases hL with ⟨-, rfl⟩ | ⟨h1, -⟩
    · simp at hd; subst hd; exact ⟨hw, hm⟩
    · omega
  · rintro ⟨hw, hm⟩
    exact ⟨hw, [n], .inl ⟨rfl, rfl⟩, n, by simp, hm⟩
theorem works_all (n : Int) : worksC 0 [] [] n = true := by unfold worksC; simp
theorem fire_all {mode : Int} {x : Xp} {n m : Int} (hmode : 1 ≤ mode ∧ mode ≤ 3) : FireAt 0 [] [] mode x n m ↔ minFit x n m = true := by
  constructor
  · rintro ⟨-, L, hL, d, hd, hm⟩
    rcases hL with ⟨-, rfl⟩ | ⟨-, s, hs, i, rfl, ha, hb⟩
    · simp at hd; subst hd; exact hm
    · obtain ⟨j, hj, rfl⟩ := mem_stepsL.1 hd
      cases i with
      | zero =>
        have : j = 0 := by omega
        subst this
        simpa using hm
      | succ i =>
        have := (ha 0 (by omega)).2
        rw [works_all] at this
        cases this
  · intro hm
    by_cases h1 : mode = 1
    · exact ⟨works_all n, [n], .inl ⟨h1, rfl⟩, n, by simp, hm⟩
    · exact ⟨works_all n, stepsL n (if mode = 3 then 1 else -1) 1, .inr ⟨by omega, _, rfl, 0, rfl, fun j hj => absurd hj (by omega), .inr (works_all _)⟩, n, mem_stepsL.2 ⟨0, by omega, by simp⟩, hm⟩
/-- What the search by CaSkip knows: a firing, and none ahead of it on a day that works. -/
def SkipInv (k : Nat) (off on : List Int) (x : Xp) (t p f : Int) : Prop :=
  (f = 0 ∧ t < p ∧ p < 13569465600 ∧ p % 60 = 0 ∧ FitZ x p ∧ ∀ z, t < z → z < p → z % 60 = 0 → FitZ x z → worksC k off on (z / 86400) = false) ∨
  (f = 5 ∧ ∀ z, t < z → z < 13569465600 → z % 60 = 0 → FitZ x z → worksC k off on (z / 86400) = false)
theorem skip_start {k : Nat} {off on : List Int} {x : Xp} {t p f : Int} (h : NextIs x t p f) : SkipInv k off on x t p f := by
  rcases h with ⟨rfl, h1, h2, h3, h4, h5⟩ | ⟨rfl, -, h1⟩
  · exact .inl ⟨rfl, h1, h2, h3, h4, fun z z1 z2 z3 z4 => absurd z4 (h5 z z1 z2 z3)⟩
  · exact .inr ⟨rfl, fun z z1 z2 z3 z4 => absurd z4 (h1 z z1 z2 z3)⟩
/-- The last one of the day is there. -/
theorem skip_last {k : Nat} {off on : List Int} {x : Xp} {t p q e : Int} (ht : 0 ≤ t) (h : SkipInv k off on x t p 0) (hl : LastIs x ((p / 86400 + 1) * 86400 - 1) q e) : e = 0 ∧ p ≤ q ∧ q / 86400 = p / 86400 ∧ 0 ≤ q ∧ q < 13569465600 := by
  rcases h with ⟨-, h1, h2, h3, h4, h5⟩ | ⟨h1, -⟩
  · rcases hl with ⟨rfl, l1, l2, l3, l4, l5⟩ | ⟨rfl, -, l1⟩
    · have hle : p ≤ q := by
        apply Int.not_lt.1
        intro hlt
        exact l5 p hlt (by omega) h3 h4
      exact ⟨rfl, hle, by omega, by omega, by omega⟩
    · exact absurd h4 (l1 p (by omega) (by omega) h3)
  · omega
theorem skip_step {k : Nat} {off on : List Int} {x : Xp} {t p q e p' f' : Int} (ht : 0 ≤ t) (h : SkipInv k off on x t p 0) (hw : worksC k off on (p / 86400) = false) (hl : LastIs x ((p / 86400 + 1) * 86400 - 1) q e) (hn : NextIs x q p' f') : SkipInv k off on x t p' f' := by
  obtain ⟨he, hq1, hq2, hq3, hq4⟩ := skip_last ht h hl
  rcases h with ⟨-, h1, h2, h3, h4, h5⟩ | ⟨h1, -⟩
  · rcases hl with ⟨-, l1, l2, l3, l4, l5⟩ | ⟨rfl, -, l1⟩
    · have key : ∀ z, t < z → z ≤ q → z % 60 = 0 → FitZ x z → worksC k off on (z / 86400) = false := fun z z1 z2 z3 z4 => by
        by_cases hz : z < p
        · exact h5 z z1 hz z3 z4
        · rw [show z / 86400 = p / 86400 by omega]; exact hw
      rcases hn with ⟨rfl, n1, n2, n3, n4, n5⟩ | ⟨rfl, -, n1⟩
      · refine .inl ⟨rfl, by omega, n2, n3, n4, fun z z1 z2 z3 z4 => ?_⟩
        by_cases hz : z ≤ q
        · exact key z z1 hz z3 z4
        · exact absurd z4 (n5 z (by omega) z2 z3)
      · refine .inr ⟨rfl, fun z z1 z2 z3 z4 => ?_⟩
        by_cases hz : z ≤ q
        · exact key z z1 hz z3 z4
        · exact absurd z4 (n1 z (by omega) z2 z3)
    · omega
  · omega
/-- What After says of CaSkip, and the search. -/
theorem skip_same {k : Nat} {off on : List Int} {x : Xp} {t p f r e : Int} (h0 : 0 ≤ t) (h1 : t < 13569465600) (hA : AfterIs k off on 1 x t r e) (h : SkipInv k off on x t p f)
    (hs : f = 5 ∨ worksC k off on (p / 86400) = true ∨ t + 319680000 ≤ p) :
    (e = 0 ∧ f = 0 ∧ p < (t / 86400 + 3700) * 86400 ∧ r = p) ∨ (e = 5 ∧ f = 0 ∧ (t / 86400 + 3700) * 86400 ≤ p) ∨ (e = 5 ∧ f = 5) := by
  refine same_first (Fire := fun z => FireAt k off on 1 x (z / 86400) (z % 86400 / 60)) (after_char h0 h1 hA) ?_
  rcases h with ⟨rfl, a1, a2, a3, a4, a5⟩ | ⟨rfl, a1⟩
  · refine .inl ⟨rfl, a1, a2, a3, ?_, fun z z1 z2 z3 z4 => ?_⟩
    · rcases hs with hs | hs | hs
      · omega
      · exact .inl (fire_skip.2 ⟨hs, a4⟩)
      · exact .inr (by omega)
    · have := fire_skip.1 z4
      rw [a5 z z1 z2 z3 this.2] at this
      cases this.1
  · refine .inr ⟨rfl, fun z z1 z2 z3 z4 => ?_⟩
    have := fire_skip.1 z4
    rw [a1 z z1 z2 z3 this.2] at this
    cases this.1
theorem every_same {mode : Int} {x : Xp} {t p f r e : Int} (hmode : 1 ≤ mode ∧ mode ≤ 3) (h0 : 0 ≤ t) (h1 : t < 13569465600) (hA : AfterIs 0 [] [] mode x t r e) (h : NextIs x t p f) :
    (e = 0 ∧ f = 0 ∧ p < (t / 86400 + 3700) * 86400 ∧ r = p) ∨ (e = 5 ∧ f = 0 ∧ (t / 86400 + 3700) * 86400 ≤ p) ∨ (e = 5 ∧ f = 5) := by
  refine same_first (Fire := fun z => FireAt 0 [] [] mode x (z / 86400) (z % 86400 / 60)) (after_char h0 h1 hA) ?_
  rcases h with ⟨rfl, a1, a2, a3, a4, a5⟩ | ⟨rfl, -, a1⟩
  · exact .inl ⟨rfl, a1, a2, a3, .inl ((fire_all hmode).2 a4), fun z z1 z2 z3 z4 => a5 z z1 z2 z3 ((fire_all hmode).1 z4)⟩
  · exact .inr ⟨rfl, fun z z1 z2 z3 z4 => a1 z z1 z2 z3 ((fire_all hmode).1 z4)⟩
/-- A firing that moves is told. -/
theorem moves_same {k : Nat} {off on : List Int} {x : Xp} {mode a s n zt r e : Int} (hmode : (mode = 2 ∧ s = 1) ∨ (mode = 3 ∧ s = -1)) (ha0 : 0 ≤ a) (ha1 : a < 13569465600) (ham : a % 60 = 0) (hf : FitZ x a)
    (hn : NearIs k off on (a / 86400) s n) (hn0 : 0 ≤ n) (hto : zt = n * 86400 + a % 86400) (ht0 : 0 < zt) (hA : AfterIs k off on mode x (zt - 1) r e) : e = 0 ∧ r = zt ∧ zt < 13569465600 := by
  obtain ⟨i, h1, h2, h3, h4⟩ : ∃ i : Nat, (∀ j : Nat, j < i → inB (a / 86400 + s * j) = true ∧ worksC k off on (a / 86400 + s * j) = false) ∧ inB (a / 86400 + s * i) = true ∧ worksC k off on (a / 86400 + s * i) = true ∧ n = a / 86400 + s * i := by
    rcases hn with h | ⟨i, -, -, h⟩
    · exact h
    · omega
  rw [← h4] at h2 h3
  have hb := inB_iff.1 h2
  have hfire : FireAt k off on mode x (zt / 86400) (zt % 86400 / 60) := by
    rw [show zt / 86400 = n by omega, show zt % 86400 / 60 = a % 86400 / 60 by omega]
    refine hit_fire (d := a / 86400) (by omega) h2 h3 ⟨inB_iff.2 ⟨by omega, by omega⟩, .inr ⟨by omega, ?_⟩, hf⟩
    cases hw : worksC k off on (a / 86400)
    · refine .inr ⟨rfl, ?_⟩
      rw [show (if mode = 2 then (1 : Int) else -1) = s by rcases hmode with ⟨rfl, rfl⟩ | ⟨rfl, rfl⟩ <;> rfl]
      exact hn
    · refine .inl ⟨rfl, ?_⟩
      by_cases hi : i = 0
      · subst hi; simpa using h4.symm
      · have := (h1 0 (by omega)).2
        simp at this
        rw [hw] at this
        cases this
  rcases after_char (by omega) (by omega) hA with ⟨rfl, a1, a2, a3, a4, a5, a6⟩ | ⟨rfl, rfl, a1⟩
  · refine ⟨rfl, ?_, by omega⟩
    by_cases hlt : zt < r
    · exact absurd hfire (a6 zt (by omega) hlt (by omega))
    · omega
  · exact absurd hfire (a1 zt (by omega) (by omega) (by omega) (by omega))
end Go.Proofs.YthigmjjafilbcaaDoor
namespace Go.Proofs.YthigmjjafilbcaaDoor
set_option linter.unusedVariables false
set_option maxRecDepth 100000
open Go.RowKit
theorem from_next {x : Xp} {t r : Int} {ok : Bool} (h0 : 0 ≤ t) (h1 : t < 13569465600) (h : FromIs x (t - t % 60 + 60) r ok) : (ok = true ∧ NextIs x t r 0) ∨ (ok = false ∧ NextIs x t 0 5) := by
  rcases h with ⟨rfl, a1, a2, a3, a4, a5, a6⟩ | ⟨rfl, -, a1⟩
  · exact .inl ⟨rfl, .inl ⟨rfl, by omega, a3, a4, a5, fun z z1 z2 z3 hz => by
      have := a6 z (by omega) z2 z3
      unfold FitZ at hz
      rw [this] at hz; cases hz⟩⟩
  · exact .inr ⟨rfl, .inr ⟨rfl, rfl, fun z z1 z2 z3 hz => by
      have := a1 z (by omega) z2 z3
      unfold FitZ at hz
      rw [this] at hz; cases hz⟩⟩
/-- What next.After answers of an expression that may be. -/
def AftIs (x : Xp) (t r e : Int) : Prop := (0 ≤ t ∧ t < 13569465600 ∧ NextIs x t r e) ∨ ((t < 0 ∨ 13569465600 ≤ t) ∧ r = 0 ∧ e = 50)
set_option maxHeartbeats 1000000 in
theorem nafter_any (x : Xp) (hx : x.Ok) (t : Int) (hm : mayX x = true) (w : World) (hT : TabZ w) :
    Calls Tryd.prog 10 #[xpV x, .int .i64 t] w fun e w' => (∃ r er, e = .returned (.tuple #[.int .i64 r, .int .i64 er]) ∧ AftIs x t r er) ∧ Below w.heap.size w w' := by
  have CM := Lib.hid (fun W => nmay_any x hx t W)
  unfold mayN floorE at CM
  rw [hm] at CM
  have CF := Lib.hid (fun (h0 : 0 ≤ t) (h1 : t < 13569465600) W (hW : Below w.heap.size w W) => nfrom_any x hx (t - t % 60 + 60) (by omega) (by omega) (by omega) hm W (hT.over hW))
  obtain ⟨WB, hWB⟩ : ∃ WB, w.alloc (.cells #[.int .u64 x.b0, .bool x.s0, .int .u64 x.b1, .bool x.s1, .int .u64 x.b2, .bool x.s2, .int .u64 x.b3, .bool x.s3, .int .u64 x.b4, .bool x.s4] 29) = WB := ⟨_, rfl⟩
  have K := Lib.hid (show Row WB w.heap.size 29 #[.int .u64 x.b0, .bool x.s0, .int .u64 x.b1, .bool x.s1, .int .u64 x.b2, .bool x.s2, .int .u64 x.b3, .bool x.s3, .int .u64 x.b4, .bool x.s4] by rw [← hWB]; exact Row.new _ _ _)
  have Q0 := Lib.hid (show Below w.heap.size w WB by rw [← hWB]; exact nextB (Below.refl _ _))
  have HW := Lib.hid hWB
  dsimp only [xpV] at CM CF
  clear hWB hT hm hx
  go_enter Tryd.func10, Tryd.ntmps10
  dsimp only [xpV]
  go_upto_region 1 with fail
  rw [HW.out]
  have kd := fun o => K.out.cell o
  by_cases ht : 0 ≤ t ∧ t < 13569465600
  · obtain ⟨h0, h1⟩ := ht
    rw [show okTN t = true from okTN_iff.2 ⟨h0, h1⟩] at CM
    have CF := Lib.hid (CF.out h0 h1)
    go_wp2_with fail
    refine (CM.out _).mono ?_
    rintro e w1 ⟨rfl, hb1⟩
    have Q1 := Lib.hid (nextC Q0.out hb1)
    have kd1 := fun o => (K.out.over hb1).cell o
    clear hb1 kd
    go_wp2_with fail
    refine (CF.out _ Q1.out).mono ?_
    rintro e w2 ⟨⟨r, ok, rfl, hr⟩, hb2⟩
    have Q2 := Lib.hid (nextC Q1.out hb2)
    clear hb2 kd1
    rcases from_next h0 h1 hr with ⟨rfl, hn⟩ | ⟨rfl, hn⟩
    · have HN := Lib.hid hn
      clear hn hr
      go_wp2_with fail
      go_ret2
      exact ⟨⟨_, _, rfl, .inl ⟨h0, h1, HN.out⟩⟩, Q2.out⟩
    · have HN := Lib.hid hn
      clear hn hr
      go_wp2_with fail
      go_ret2
      exact ⟨⟨_, _, rfl, .inl ⟨h0, h1, HN.out⟩⟩, Q2.out⟩
  · rw [show okTN t = false by cases h : okTN t; rfl; exact absurd (okTN_iff.1 h) ht] at CM
    go_wp2_with fail
    refine (CM.out _).mono ?_
    rintro e w1 ⟨rfl, hb1⟩
    have Q1 := Lib.hid (nextC Q0.out hb1)
    clear hb1 kd
    go_wp2_with fail
    go_ret2
    exact ⟨⟨_, _, rfl, .inr ⟨by omega, rfl, rfl⟩⟩, Q1.out⟩
end Go.Proofs.YthigmjjafilbcaaDoor
namespace Go.Proofs.YthigmjjafilbcaaDoor
set_option linter.unusedVariables false
set_option maxRecDepth 100000
open Go.RowKit
/-- The greatest bit. -/
theorem bitLen_top {m : Nat} (h0 : m ≠ 0) (h : m < 2 ^ 64) : m.testBit (Lib.bitLen m - 1) = true ∧ 1 ≤ Lib.bitLen m ∧ ∀ j, Lib.bitLen m - 1 < j → m.testBit j = false := by
  obtain ⟨k, hk1, hk2⟩ : ∃ k, 2 ^ k ≤ m ∧ m < 2 ^ (k + 1) := ⟨Nat.log2 m, Nat.log2_self_le h0, Nat.lt_log2_self⟩
  have e : Lib.bitLen m = k + 1 := by
    rw [Lib.bitLen_shift k m hk1 h]
    have h1 : m / 2 ^ k = 1 := by
      have : m / 2 ^ k < 2 := Nat.div_lt_of_lt_mul (by rw [← Nat.pow_succ]; exact hk2)
      have : 1 ≤ m / 2 ^ k := (Nat.le_div_iff_mul_le (Nat.two_pow_pos k)).2 (by simpa using hk1)
      omega
    rw [h1]
    rfl
  rw [e]
  refine ⟨?_, by omega, fun j hj => Nat.testBit_lt_two_pow (Nat.lt_of_lt_of_le hk2 (Nat.pow_le_pow_right (n := 2) (by decide) (by omega)))⟩
  rw [Nat.add_sub_cancel, Nat.testBit_eq_decide_div_mod_eq]
  have h1 : m / 2 ^ k = 1 := by
    have : m / 2 ^ k < 2 := Nat.div_lt_of_lt_mul (by rw [← Nat.pow_succ]; exact hk2)
    have : 1 ≤ m / 2 ^ k := (Nat.le_div_iff_mul_le (Nat.two_pow_pos k)).2 (by simpa using hk1)
    omega
  rw [h1]; rfl
/-- What top answers: the greatest that is allowed up to n. -/
def TopF (b : Nat) (n r : Int) (ok : Bool) : Prop :=
  (ok = true ∧ 0 ≤ r ∧ r ≤ n ∧ hasF b r = true ∧ ∀ j, r < j → j ≤ n → hasF b j = false) ∨ (ok = false ∧ r = -1 ∧ ∀ j, 0 ≤ j → j ≤ n → hasF b j = false)
theorem top_is {b k : Nat} (hk : k ≤ 60) (hb : b < 18446744073709551616) (hk0 : 0 < k) : TopF b (k - 1 : Int) ((Lib.bitLen (b % 2 ^ k) : Int) - 1) (!((b % 2 ^ k : Nat) == 0)) := by
  have hm : b % 2 ^ k < 2 ^ 64 := Nat.lt_of_le_of_lt (Nat.mod_le _ _) hb
  by_cases h0 : b % 2 ^ k = 0
  · rw [h0]
    refine .inr ⟨rfl, rfl, fun j h1 h2 => ?_⟩
    obtain ⟨i, rfl⟩ : ∃ i : Nat, j = i := ⟨j.toNat, by omega⟩
    rw [hasF_nat (by omega)]
    have : (b % 2 ^ k).testBit i = false := by rw [h0]; simp
    rw [Nat.testBit_mod_two_pow] at this
    simp at this
    exact this (by omega)
  · obtain ⟨h1, h2, h3⟩ := bitLen_top h0 hm
    obtain ⟨l, hl⟩ : ∃ l, Lib.bitLen (b % 2 ^ k) = l + 1 := ⟨Lib.bitLen (b % 2 ^ k) - 1, by omega⟩
    rw [hl, Nat.add_sub_cancel] at h1 h3
    rw [Nat.testBit_mod_two_pow] at h1
    simp at h1
    refine .inl ⟨by simpa using h0, by omega, by omega, ?_, fun j j1 j2 => ?_⟩
    · rw [show ((Lib.bitLen (b % 2 ^ k) : Nat) : Int) - 1 = (l : Int) by omega, hasF_nat (by omega)]
      exact h1.2
    · obtain ⟨i, rfl⟩ : ∃ i : Nat, j = i := ⟨j.toNat, by omega⟩
      rw [hasF_nat (by omega)]
      have := h3 i (by omega)
      rw [Nat.testBit_mod_two_pow] at this
      simp at this
      exact this (by omega)
theorem and_low (b k : Nat) (hk : k ≤ 60) (hb : b < 18446744073709551616) : bits .and .u64 (b : Int) (((2 ^ k - 1 : Nat)) : Int) = ((b % 2 ^ k : Nat) : Int) := by
  have h1 : 2 ^ k ≤ 2 ^ 60 := Nat.pow_le_pow_right (n := 2) (by decide) hk
  have h2 : (2 : Nat) ^ 60 < 18446744073709551616 := by decide
  rw [bits_and_u64_nat b _ hb (by omega), Nat.and_two_pow_sub_one_eq_mod]
theorem and_low' (b k : Nat) (hk : k ≤ 60) (hb : b < 18446744073709551616) : bits .and .u64 (b : Int) (IntKind.u64.wrap (IntKind.u64.wrap (2 ^ k) - 1)) = ((b % 2 ^ k : Nat) : Int) := by
  have h1 : 2 ^ k ≤ 2 ^ 60 := Nat.pow_le_pow_right (n := 2) (by decide) hk
  have h2 : (2 : Nat) ^ 60 < 18446744073709551616 := by decide
  have h3 : 0 < 2 ^ k := Nat.two_pow_pos k
  have e : ((2 : Int) ^ k) = ((2 ^ k : Nat) : Int) := by simp
  rw [e, ← and_low b k hk hb]
  congr 1
  rw [IntKind.wrap_u64, IntKind.wrap_u64]
  generalize 2 ^ k = p at *
  omega
set_option maxHeartbeats 1000000 in
theorem top_any (b : Nat) (s : Bool) (n : Int) (w : World) (hb : b < 18446744073709551616) (h0 : 0 ≤ n) (h1 : n ≤ 59) :
    Calls Tryd.prog 46 #[.agg #[.int .u64 b, .bool s], .int .i64 n] w fun e w' => (∃ r ok, e = .returned (.tuple #[.int .i64 r, .bool ok]) ∧ TopF b n r ok) ∧ Below w.heap.size w w' := by
  obtain ⟨k, rfl⟩ : ∃ k : Nat, n = (k : Int) - 1 := ⟨(n + 1).toNat, by omega⟩
  obtain ⟨WB, hWB⟩ : ∃ WB, w.alloc (.cells #[.int .u64 b, .bool s] 27) = WB := ⟨_, rfl⟩
  have K := Lib.hid (show Row WB w.heap.size _ _ by rw [← hWB]; exact Row.new _ _ _)
  have Q0 := Lib.hid (show Below w.heap.size w WB by rw [← hWB]; exact nextB (Below.refl _ _))
  have HW := Lib.hid hWB
  have HT := Lib.hid (top_is (b := b) (k := k) (by omega) hb (by omega))
  clear hWB
  go_enter Tryd.func46, Tryd.ntmps46
  go_upto_region 1 with fail
  rw [HW.out]
  have kd := fun o q => (K.out.over (below_drewN (Below.refl WB.heap.size WB) q)).cell o
  have e := and_low' b k (by omega) hb
  have CL := Lib.hid (fun W => Tryd.bits_Len64 ((b % 2 ^ k : Nat) : Int) W (by omega) (by
    have := Nat.mod_le b (2 ^ k)
    omega))
  rw [Int.toNat_natCast] at CL
  go_big_quiet (fail)
  rw [show (b : Int) % 2 ^ k = ((b % 2 ^ k : Nat) : Int) by simp]
  have Q1 := Lib.hid (below_drewN Q0.out nq)
  generalize WB.drewN nq = w1 at *
  have hbl : Lib.bitLen (b % 2 ^ k) ≤ 64 := Lib.bitLen_le _ 64 (by omega) (Nat.lt_of_le_of_lt (Nat.mod_le _ _) hb)
  generalize b % 2 ^ k = m at *
  clear e kd hb h0 h1 K HW
  generalize Lib.bitLen m = bl at *
  go_wp2_with fail
  refine (CL.out _).mono ?_
  rintro e w2 ⟨rfl, rfl⟩
  go_wp2_with fail
  go_ret2
  refine ⟨⟨_, _, rfl, ?_⟩, Q1.out⟩
  rw [show ((m : Int) != 0) = !(m == 0) by simp only [bne, beq0]]
  exact HT.out
theorem noFit_bmonth {x : Xp} {n b : Int} (h0 : 0 ≤ n) (h1 : n < 157054) (hb : b ≤ (n + 1) * 86400) (h : hasF x.b3 (ofM n) = false) : NoFit x ((n - (ofD n - 1)) * 86400) b := fun z hz1 hz2 hz3 => by
  have := month_back (z := z / 86400) h0 h1 (by omega) (by omega)
  exact minFit_month (by rw [this.2.2.1]; exact h)
theorem noFit_bday {x : Xp} {n b : Int} (hb : b ≤ (n + 1) * 86400) (h : dayFit x n = false) : NoFit x (n * 86400) b := fun z hz1 hz2 hz3 => by
  rw [show z / 86400 = n by omega]
  exact minFit_day h
theorem noFit_bhours {x : Xp} {n b hh r : Int} (hb : b ≤ n * 86400 + (hh + 1) * 3600) (h23 : hh ≤ 23) (hr : -1 ≤ r) (h : ∀ j, r < j → j ≤ hh → hasF x.b1 j = false) : NoFit x (n * 86400 + (r + 1) * 3600) b := fun z hz1 hz2 hz3 => by
  obtain ⟨q, hq⟩ : ∃ q, z % 86400 / 60 / 60 = q := ⟨_, rfl⟩
  refine minFit_hour ?_
  rw [hq]
  exact h q (by omega) (by omega)
theorem noFit_bmins {x : Xp} {n b hh m r : Int} (hb : b ≤ n * 86400 + hh * 3600 + (m + 1) * 60) (h0 : 0 ≤ hh) (h23 : hh ≤ 23) (m1 : m ≤ 59) (hr : -1 ≤ r) (h : ∀ j, r < j → j ≤ m → hasF x.b0 j = false) : NoFit x (n * 86400 + hh * 3600 + (r + 1) * 60) b := fun z hz1 hz2 hz3 => by
  obtain ⟨q, hq⟩ : ∃ q, z % 86400 / 60 % 60 = q := ⟨_, rfl⟩
  refine minFit_min ?_
  rw [hq]
  exact h q (by omega) (by omega)
set_option maxHeartbeats 4000000 in
theorem nlast_any (x : Xp) (hx : x.Ok) (t : Int) (ht0 : 0 ≤ t) (ht1 : t < 13569465600) (hm : mayX x = true) (w : World) :
    Calls Tryd.prog 16 #[xpV x, .int .i64 t] w fun e w' => (∃ r er, e = .returned (.tuple #[.int .i64 r, .int .i64 er]) ∧ LastIs x t r er) ∧ Below w.heap.size w w' := by
  have CM := Lib.hid (fun W => nmay_any x hx t W)
  unfold mayN floorE at CM
  rw [hm, show okTN t = true from okTN_iff.2 ⟨ht0, ht1⟩] at CM
  have CO := Lib.hid (fun n h0 h1 W => of_yes n W h0 h1)
  have CH := Lib.hid (fun n W => fhas_any x.b3 x.s3 n W hx.h3)
  have CF := Lib.hid (fun n h0 h1 W => nfits_any x hx n h0 h1 W)
  have C1 := Lib.hid (fun n h0 h1 W => top_any x.b1 x.s1 n W hx.h1 h0 h1)
  have C0 := Lib.hid (fun n h0 h1 W => top_any x.b0 x.s0 n W hx.h0 h0 h1)
  have HX := Lib.hid hx
  have HM := Lib.hid hm
  dsimp only [xpV] at CF CM
  obtain ⟨WB, hWB⟩ : ∃ WB, w.alloc (.cells #[.int .u64 x.b0, .bool x.s0, .int .u64 x.b1, .bool x.s1, .int .u64 x.b2, .bool x.s2, .int .u64 x.b3, .bool x.s3, .int .u64 x.b4, .bool x.s4] 29) = WB := ⟨_, rfl⟩
  have K := Lib.hid (show Row WB w.heap.size 29 #[.int .u64 x.b0, .bool x.s0, .int .u64 x.b1, .bool x.s1, .int .u64 x.b2, .bool x.s2, .int .u64 x.b3, .bool x.s3, .int .u64 x.b4, .bool x.s4] by rw [← hWB]; exact Row.new _ _ _)
  have Q0 := Lib.hid (show Below w.heap.size w WB by rw [← hWB]; exact nextB (Below.refl _ _))
  have HW := Lib.hid hWB
  clear hWB hx hm
  go_enter Tryd.func16, Tryd.ntmps16
  dsimp only [xpV]
  go_upto_region 1 with fail
  rw [HW.out]
  try go_step3
  have kd := fun o => K.out.cell o
  go_wp2_with fail
  refine (CM.out _).mono ?_
  rintro e w0 ⟨rfl, hb0⟩
  have BB0 := Lib.hid hb0
  clear hb0 kd
  go_wp2_with fail
  go_step3
  go_wp2_with fail
  go_loopg [7, 8] (t / 86400 + 1).toNat (fun gk a b wr => ∃ dv mv : Int, a = .int .i64 dv ∧ b = .int .i64 mv ∧ (gk : Int) = dv + 1 ∧ -1 ≤ dv ∧ dv ≤ 157053 ∧ 0 ≤ mv ∧ mv < 1440 ∧ NoFit x (dv * 86400 + mv * 60 + 60) (t + 1) ∧ dv * 86400 + mv * 60 ≤ t ∧ (dv = -1 → mv = 1439) ∧ Below WB.heap.size WB wr)
  case atStart => exact ⟨t / 86400, t % 86400 / 60, by go_num, by go_num, by omega, by omega, by omega, by omega, by omega, fun z h1 h2 h3 => by omega, by omega, fun h => by omega, BB0.out⟩
  case round =>
    obtain ⟨dv, mv, rfl, rfl, hgk, d0, d1, m0, m1, hno, hle, hneg, hbw⟩ := hrel
    have HN := Lib.hid hno
    have QW := Lib.hid (nextC Q0.out hbw)
    have BW := Lib.hid hbw
    clear hno hbw
    by_cases hd : 0 ≤ dv
    · clear hneg
      go_wp2_with fail
      refine (CO.out dv hd (by omega) _).mono ?_
      rintro e w1 ⟨rfl, hb1⟩
      have R1 := Lib.hid (nextC BW.out hb1)
      clear hb1
      go_upto_region 8 with fail
      have rx := Row.new w1 40 #[.int .i64 (ofY dv), .int .i64 (ofM dv), .int .i64 (ofD dv)]
      have q2 := Lib.hid (nextB (o := .cells #[.int .i64 (ofY dv), .int .i64 (ofM dv), .int .i64 (ofD dv)] 40) R1.out)
      generalize w1.alloc _ = V at rx q2 ⊢
      have RX := Lib.hid rx
      obtain ⟨g, hg⟩ : ∃ g, w1.heap.size = g := ⟨_, rfl⟩
      rw [hg] at rx RX ⊢
      have k1 := fun o => rx.cell o
      have k2 := fun o => (K.out.over q2.out).cell o
      have hend := month_end hd (show dv < 157054 by omega)
      have HNM := Lib.hid (fun b hb h => noFit_bmonth (x := x) (n := dv) (b := b) hd (by omega) hb h)
      have HND := Lib.hid (fun b hb h => noFit_bday (x := x) (n := dv) (b := b) hb h)
      have CF1 := Lib.hid (CF.out dv hd (by omega))
      have CH1 := Lib.hid (CH.out (ofM dv))
      clear rx
      generalize longI (ofY dv) (ofM dv) = L at *
      generalize ofY dv = y at *
      generalize ofM dv = mo at *
      generalize ofD dv = dd at *
      obtain ⟨-, -, e3, -, e5, e6⟩ := hend
      cases hmo : hasF x.b3 mo
      · as_aux_lemma =>
          rw [hmo] at CH1
          have HMO := Lib.hid hmo
          clear hmo
          go_wp2_with fail
          refine (CH1.out _).mono ?_
          rintro e w2 ⟨rfl, hb2⟩
          have Q3 := Lib.hid (nextC q2.out hb2)
          have k3 := fun o => (RX.out.over hb2).cell o
          clear hb2 k1 k2
          go_wp2_with fail
          go_roundg (dv - (dd - 1)).toNat
          case measure => omega
          case rel =>
            have hnn := HNM.out (dv * 86400 + mv * 60 + 60) (by omega) HMO.out
            exact ⟨dv - (dd - 1) - 1, 1439, by go_num, rfl, by omega, by omega, by omega, by omega, by omega, by rw [show (dv - (dd - 1) - 1) * 86400 + 1439 * 60 + 60 = (dv - (dd - 1)) * 86400 by omega]; exact hnn.more HN.out, by omega, fun _ => rfl, Q3.out⟩
      · rw [hmo] at CH1
        clear hmo HNM
        go_wp2_with fail
        refine (CH1.out _).mono ?_
        rintro e w2 ⟨rfl, hb2⟩
        have Q2 := Lib.hid (nextC q2.out hb2)
        clear hb2 k1 k2
        have k3 := fun o => (K.out.over Q2.out).cell o
        cases hday : dayFit x dv
        · as_aux_lemma =>
            rw [hday] at CF1
            have HD := Lib.hid hday
            clear hday
            go_wp2_with fail
            refine (CF1.out _).mono ?_
            rintro e w3 ⟨rfl, hb3⟩
            have Q3 := Lib.hid (nextC Q2.out hb3)
            clear hb3 k3
            go_wp2_with fail
            go_roundg dv.toNat
            case measure => omega
            case rel =>
              have hnn := HND.out (dv * 86400 + mv * 60 + 60) (by omega) HD.out
              exact ⟨dv - 1, 1439, by go_num, rfl, by omega, by omega, by omega, by omega, by omega, by rw [show (dv - 1) * 86400 + 1439 * 60 + 60 = dv * 86400 by omega]; exact hnn.more HN.out, by omega, fun _ => rfl, Q3.out⟩
        · rw [hday] at CF1
          have HD := Lib.hid hday
          clear hday HND
          go_wp2_with fail
          refine (CF1.out _).mono ?_
          rintro e w3 ⟨rfl, hb3⟩
          have Q3 := Lib.hid (nextC Q2.out hb3)
          clear hb3 k3
          go_wp2_with fail
          go_loopg [11, 8] (mv / 60 + 1).toNat (fun gi a b wr => ∃ hh mm : Int, a = .int .i64 hh ∧ b = .int .i64 mm ∧ (gi : Int) = hh + 1 ∧ -1 ≤ hh ∧ hh ≤ 23 ∧ 0 ≤ mm ∧ mm < 1440 ∧ (hh = -1 → mm = 59) ∧ NoFit x (dv * 86400 + hh * 3600 + mm % 60 * 60 + 60) (t + 1) ∧ dv * 86400 + hh * 3600 + mm % 60 * 60 ≤ t ∧ Below WB.heap.size WB wr)
          case atStart => exact ⟨mv / 60, mv, by go_num, rfl, by omega, by omega, by omega, by omega, by omega, fun h => by omega, by rw [show dv * 86400 + mv / 60 * 3600 + mv % 60 * 60 + 60 = dv * 86400 + mv * 60 + 60 by omega]; exact HN.out, by omega, Q3.out⟩
          case round =>
            obtain ⟨hh, mm, rfl, rfl, hgi, i0, i1, n0, n1, hm59, hno, hle2, hbw⟩ := hrel
            have HN2 := Lib.hid hno
            have QI := Lib.hid hbw
            have kw := fun o => (K.out.over hbw).cell o
            clear hno hbw
            by_cases hh0 : 0 ≤ hh
            · clear hm59
              go_wp2_with fail
              refine (C1.out hh hh0 (by omega) _).mono ?_
              rintro e w4 ⟨⟨r, ok, rfl, hr⟩, hb4⟩
              have Q4 := Lib.hid (nextC QI.out hb4)
              clear hb4 kw
              rcases hr with ⟨rfl, r0, r1, r3, r4⟩ | ⟨rfl, rfl, r4⟩
              · have R3 := Lib.hid r3
                have R4 := Lib.hid r4
                clear r3 r4
                go_upto_if 68 with fail
                go_cut [11, 8] (fun a b wx => ∃ m' : Int, a = .int .i64 r ∧ b = .int .i64 m' ∧ 0 ≤ m' ∧ m' < 1440 ∧ NoFit x (dv * 86400 + r * 3600 + m' % 60 * 60 + 60) (t + 1) ∧ dv * 86400 + r * 3600 + m' % 60 * 60 ≤ t ∧ wx = w4)
                case first =>
                  by_cases hlt : r < hh
                  · go_wp2_with fail
                    go_meet
                    have hnn := noFit_bhours (x := x) (n := dv) (b := dv * 86400 + hh * 3600 + mm % 60 * 60 + 60) (hh := hh) (r := r) (by omega) (by omega) (by omega) R4.out
                    exact ⟨59, rfl, rfl, by omega, by omega, by rw [show dv * 86400 + r * 3600 + 59 % 60 * 60 + 60 = dv * 86400 + (r + 1) * 3600 by omega]; exact hnn.more HN2.out, by omega, rfl⟩
                  · have er : r = hh := by omega
                    subst er
                    go_wp2_with fail
                    go_meet
                    exact ⟨mm, rfl, rfl, n0, n1, HN2.out, hle2, rfl⟩
                case rest =>
                  obtain ⟨m', rfl, rfl, p0, p1, hno3, hle3, rfl⟩ := hcut
                  have HN3 := Lib.hid hno3
                  have kz := fun o => (K.out.over Q4.out).cell o
                  clear hno3
                  go_wp2_with fail
                  refine (C0.out (m' % 60) (by omega) (by omega) _).mono ?_
                  rintro e w5 ⟨⟨q, ok, rfl, hq⟩, hb5⟩
                  have Q5 := Lib.hid (nextC Q4.out hb5)
                  clear hb5 kz
                  rcases hq with ⟨rfl, q0, q1, q3, q4⟩ | ⟨rfl, rfl, q4⟩
                  · as_aux_lemma =>
                      have A3 := Lib.hid q3
                      have A4 := Lib.hid q4
                      clear q3 q4
                      go_wp2_with fail
                      try rw [Exit.noGoto_ret]
                      go_ret2
                      refine ⟨⟨_, _, rfl, .inl ⟨rfl, by omega, by omega, by omega, ?_, ?_⟩⟩, nextC Q0.out Q5.out⟩
                      · unfold FitZ
                        rw [show (dv * 86400 + r * 3600 + q * 60) / 86400 = dv by omega, show (dv * 86400 + r * 3600 + q * 60) % 86400 / 60 = r * 60 + q by omega]
                        unfold minFit
                        rw [HD.out, show (r * 60 + q) % 60 = q by omega, show (r * 60 + q) / 60 = r by omega, A3.out, R3.out]
                        rfl
                      · intro z z1 z2 z3 z4
                        have hnn := (noFit_bmins (x := x) (n := dv) (b := dv * 86400 + r * 3600 + m' % 60 * 60 + 60) (hh := r) (m := m' % 60) (r := q) (by omega) (by omega) (by omega) (by omega) (by omega) A4.out).more HN3.out
                        have := hnn z (by omega) (by omega) z3
                        unfold FitZ at z4
                        rw [this] at z4; cases z4
                  · as_aux_lemma =>
                      have A4 := Lib.hid q4
                      clear q4
                      go_wp2_with fail
                      go_roundg r.toNat
                      case measure => omega
                      case rel =>
                        have hnn := noFit_bmins (x := x) (n := dv) (b := dv * 86400 + r * 3600 + m' % 60 * 60 + 60) (hh := r) (m := m' % 60) (r := -1) (by omega) (by omega) (by omega) (by omega) (by omega) (fun j j1 j2 => A4.out j (by omega) j2)
                        exact ⟨r - 1, 59, by go_num, rfl, by omega, by omega, by omega, by omega, by omega, fun _ => rfl, by rw [show dv * 86400 + (r - 1) * 3600 + 59 % 60 * 60 + 60 = dv * 86400 + r * 3600 + (-1 + 1) * 60 by omega]; exact hnn.more HN3.out, by omega, Q5.out⟩
              · as_aux_lemma =>
                  have A4 := Lib.hid r4
                  clear r4
                  go_wp2_with fail
                  go_roundg dv.toNat
                  case measure => omega
                  case rel =>
                    have hnn := noFit_bhours (x := x) (n := dv) (b := dv * 86400 + hh * 3600 + mm % 60 * 60 + 60) (hh := hh) (r := -1) (by omega) (by omega) (by omega) (fun j j1 j2 => A4.out j (by omega) j2)
                    exact ⟨dv - 1, 1439, by go_num, rfl, by omega, by omega, by omega, by omega, by omega, by rw [show (dv - 1) * 86400 + 1439 * 60 + 60 = dv * 86400 + (-1 + 1) * 3600 by omega]; exact hnn.more HN2.out, by omega, fun _ => rfl, Q4.out⟩
            · as_aux_lemma =>
                have eh : hh = -1 := by omega
                have em := hm59 eh
                subst eh em
                go_wp2_with fail
                go_roundg dv.toNat
                case measure => omega
                case rel =>
                  exact ⟨dv - 1, 1439, by go_num, rfl, by omega, by omega, by omega, by omega, by omega, by rw [show (dv - 1) * 86400 + 1439 * 60 + 60 = dv * 86400 + -1 * 3600 + 59 % 60 * 60 + 60 by omega]; exact HN2.out, by omega, fun _ => rfl, QI.out⟩
    · have ed : dv = -1 := by omega
      have em := hneg ed
      subst ed em
      go_wp2_with fail
      try rw [Exit.noGoto_ret]
      go_ret2
      refine ⟨⟨_, _, rfl, .inr ⟨rfl, rfl, fun z h1 h2 h3 h4 => ?_⟩⟩, QW.out⟩
      have := HN.out z (by omega) (by omega) h3
      unfold FitZ at h4
      rw [this] at h4; cases h4
end Go.Proofs.YthigmjjafilbcaaDoor
