/- Plain law of the calendar's firings: found within 250 days; what After says by minutes. -/
import Derived.Test.YthigmjjafilbcaaCaY
namespace Go.Proofs.Ythigmjjafilbcaa
set_option linter.unusedVariables false
theorem least {P : Nat → Prop} (N : Nat) (h : P N) : ∃ i, P i ∧ ∀ j, j < i → ¬ P j := by
  induction N using Nat.strongRecOn with
  | _ N ih =>
    by_cases hh : ∃ j, j < N ∧ P j
    · obtain ⟨j, hj, hp⟩ := hh; exact ih j hj hp
    · exact ⟨N, h, fun j hj hp => hh ⟨j, hj, hp⟩⟩
theorem free_bit : ∀ k : Nat, k < 127 → ∃ b : Nat, b < 7 ∧ k.testBit b = false := by decide
/-- Of 217 days one works, where a list has at most 30. -/
theorem window {k : Nat} {off : List Int} (on : List Int) (hk : k < 127) (ho : off.length ≤ 30) (n s : Int) (hs : s = 1 ∨ s = -1) : ∃ j : Nat, j < 217 ∧ worksC k off on (n + s * (j : Int)) = true := by
  obtain ⟨b, hb, hbit⟩ := free_bit k hk
  obtain ⟨j0, hj0, hres⟩ : ∃ j0 : Nat, j0 < 7 ∧ ∀ i : Nat, ((n + s * ((j0 + 7 * i : Nat) : Int)) + 4) % 7 = (b : Int) := by
    rcases hs with rfl | rfl
    · exact ⟨(((b : Int) - n - 4) % 7).toNat, by omega, fun i => by omega⟩
    · exact ⟨((n + 4 - (b : Int)) % 7).toNat, by omega, fun i => by omega⟩
  apply Classical.byContradiction
  intro hno
  have hall : ∀ i : Nat, i < 31 → n + s * ((j0 + 7 * i : Nat) : Int) ∈ off := fun i hi => by
    have hw : ¬ worksC k off on (n + s * ((j0 + 7 * i : Nat) : Int)) = true := fun h => hno ⟨_, by omega, h⟩
    have hr := hres i
    generalize n + s * ((j0 + 7 * i : Nat) : Int) = d at hw hr ⊢
    unfold worksC at hw
    rw [hr, Int.toNat_natCast, hbit] at hw
    simp at hw
    exact hw.2
  have hnd : ((List.range 31).map fun i : Nat => n + s * ((j0 + 7 * i : Nat) : Int)).Nodup := by
    refine List.pairwise_map.2 (List.nodup_range.imp fun {a b} hab he => hab ?_)
    rcases hs with rfl | rfl <;> omega
  have := hnd.length_le_of_subset (l₂ := off) fun d hd => by
    obtain ⟨i, hi, rfl⟩ := List.mem_map.1 hd
    exact hall i (List.mem_range.1 hi)
  simp at this
  omega
theorem moved_there {k : Nat} {off on : List Int} (mode n : Int) (hmode : 1 ≤ mode ∧ mode ≤ 3) (hn : inB n = true) : ∃ L, MovedIs k off on mode n L := by
  have hb := inB_iff.1 hn
  by_cases h1 : mode = 1
  · exact ⟨_, .inl ⟨h1, rfl⟩⟩
  · obtain ⟨s, hs⟩ : ∃ s : Int, s = (if mode = 3 then 1 else -1) := ⟨_, rfl⟩
    have hs' : s = 1 ∨ s = -1 := by rw [hs]; split <;> simp
    have hend : inB (n + s + s * ((157054 : Nat) : Int)) = false ∨ worksC k off on (n + s + s * ((157054 : Nat) : Int)) = true := .inl (by
      cases h : inB (n + s + s * ((157054 : Nat) : Int))
      · rfl
      · have := inB_iff.1 h
        rcases hs' with rfl | rfl <;> omega)
    obtain ⟨i, hi, hlt⟩ := least (P := fun i => inB (n + s + s * (i : Int)) = false ∨ worksC k off on (n + s + s * (i : Int)) = true) 157054 hend
    exact ⟨_, .inr ⟨by omega, s, hs, i, rfl, fun j hj => by
      have := hlt j hj
      simp only [not_or] at this
      exact ⟨by cases h : inB (n + s + s * (j : Int)) <;> simp_all, by cases h : worksC k off on (n + s + s * (j : Int)) <;> simp_all⟩, hi⟩⟩
theorem hit_fire {k : Nat} {off on : List Int} {mode : Int} {x : Xp} {n m d : Int} (hmode : 1 ≤ mode ∧ mode ≤ 3) (hn : inB n = true) (hw : worksC k off on n = true) (h : Hit k off on mode x n m d) : FireAt k off on mode x n m := by
  obtain ⟨hind, hg, hm⟩ := h
  obtain ⟨L, hL⟩ := moved_there (k := k) (off := off) (on := on) mode n hmode hn
  refine ⟨hw, L, hL, d, ?_, hm⟩
  rcases hL with ⟨rfl, rfl⟩ | ⟨hmm, s, hs, i', rfl, ha, hb⟩
  · rcases hg with ⟨-, rfl⟩ | ⟨h1, -⟩
    · simp
    · exact absurd rfl h1
  · have hs' : s = 1 ∨ s = -1 := by rw [hs]; split <;> simp
    have hst : (if mode = 2 then (1 : Int) else -1) = -s := by
      rw [hs]
      rcases hmm with rfl | rfl <;> simp
    refine mem_stepsL.2 ?_
    rcases hg with ⟨h1, -⟩ | ⟨-, ⟨-, rfl⟩ | ⟨hnw, hnear⟩⟩
    · omega
    · exact ⟨0, by omega, by simp⟩
    · rw [hst] at hnear
      rcases hnear with ⟨i, h1, h2, h3, e⟩ | ⟨i, -, -, e⟩
      · refine ⟨i, ?_, by rcases hs' with rfl | rfl <;> omega⟩
        apply Nat.lt_of_not_le
        intro hle
        have := h1 (i - i' - 1) (by omega)
        rw [show d + -s * ((i - i' - 1 : Nat) : Int) = n + s + s * (i' : Int) by rcases hs' with rfl | rfl <;> omega] at this
        rcases hb with hb | hb
        · rw [hb] at this; cases this.1
        · rw [hb] at this; cases this.2
      · have := inB_iff.1 hn
        omega
theorem fire_hit {k : Nat} {off on : List Int} (mode : Int) (x : Xp) (n m : Int) (hmode : 1 ≤ mode ∧ mode ≤ 3) (hk : k < 127) (ho : off.length ≤ 30) (hn : inB n = true) :
    FireAt k off on mode x n m ↔ worksC k off on n = true ∧ ∃ d, n - 250 ≤ d ∧ d ≤ n + 250 ∧ Hit k off on mode x n m d := by
  constructor
  · rintro ⟨hw, L, hL, d, hd, hm⟩
    refine ⟨hw, d, ?_⟩
    have hind := moved_inB hL hn hd
    rcases hL with ⟨rfl, rfl⟩ | ⟨hmm, s, hs, i, rfl, ha, hb⟩
    · simp at hd
      subst hd
      exact ⟨by omega, by omega, hind, .inl ⟨rfl, rfl⟩, hm⟩
    · have hs' : s = 1 ∨ s = -1 := by rw [hs]; split <;> simp
      obtain ⟨j0, hj0, hwj⟩ := window on hk ho (n + s) s hs'
      have hi : i ≤ j0 := Nat.le_of_not_lt fun h => by rw [(ha j0 h).2] at hwj; cases hwj
      obtain ⟨j, hj, rfl⟩ := mem_stepsL.1 hd
      refine ⟨by rcases hs' with rfl | rfl <;> omega, by rcases hs' with rfl | rfl <;> omega, hind, .inr ⟨by omega, ?_⟩, hm⟩
      by_cases hz : j = 0
      · subst hz
        exact .inl ⟨by simpa using hw, by simp⟩
      · have hst : (if mode = 2 then (1 : Int) else -1) = -s := by
          rw [hs]
          rcases hmm with rfl | rfl <;> simp
        have hat : ∀ q : Nat, 1 ≤ q → q ≤ j → inB (n + s * (q : Int)) = true ∧ worksC k off on (n + s * (q : Int)) = false := fun q h1 h2 => by
          have := ha (q - 1) (by omega)
          rw [show n + s + s * ((q - 1 : Nat) : Int) = n + s * (q : Int) by rcases hs' with rfl | rfl <;> omega] at this
          exact this
        refine .inr ⟨(hat j (by omega) (Nat.le_refl _)).2, ?_⟩
        rw [hst]
        refine .inl ⟨j, fun q hq => ?_, ?_⟩
        · rw [show n + s * (j : Int) + -s * (q : Int) = n + s * ((j - q : Nat) : Int) by rcases hs' with rfl | rfl <;> omega]
          exact hat _ (by omega) (by omega)
        · rw [show n + s * (j : Int) + -s * (j : Int) = n by rcases hs' with rfl | rfl <;> omega]
          exact ⟨hn, hw, rfl⟩
  · rintro ⟨hw, d, -, -, h⟩
    exact hit_fire hmode hn hw h
/-- What After says, by minutes. -/
theorem after_char {k : Nat} {off on : List Int} {mode : Int} {x : Xp} {t r e : Int} (h0 : 0 ≤ t) (h1 : t < 13569465600) (h : AfterIs k off on mode x t r e) :
    (e = 0 ∧ t < r ∧ r < (t / 86400 + 3700) * 86400 ∧ r < 13569465600 ∧ r % 60 = 0 ∧ FireAt k off on mode x (r / 86400) (r % 86400 / 60) ∧ ∀ z, t < z → z < r → z % 60 = 0 → ¬ FireAt k off on mode x (z / 86400) (z % 86400 / 60)) ∨
    (e = 5 ∧ r = 0 ∧ ∀ z, t < z → z < (t / 86400 + 3700) * 86400 → z < 13569465600 → z % 60 = 0 → ¬ FireAt k off on mode x (z / 86400) (z % 86400 / 60)) := by
  rcases h with ⟨n, m, hin, n0, n1, m0, m1, ht, hf, rfl, rfl, hq, hq'⟩ | ⟨rfl, rfl, hq⟩
  · have hb := inB_iff.1 hin
    have e1 : (n * 86400 + m * 60) / 86400 = n := by omega
    have e2 : (n * 86400 + m * 60) % 86400 / 60 = m := by omega
    refine .inl ⟨rfl, ht, by omega, by omega, by omega, by rw [e1, e2]; exact hf, fun z z0 z1 z2 => ?_⟩
    obtain ⟨d, hd⟩ : ∃ d, z / 86400 = d := ⟨_, rfl⟩
    obtain ⟨mm, hmm⟩ : ∃ mm, z % 86400 / 60 = mm := ⟨_, rfl⟩
    rw [hd, hmm]
    have hz : z = d * 86400 + mm * 60 := by omega
    by_cases hlt : d < n
    · exact hq d (by omega) hlt mm (by omega) (by omega) (by omega)
    · have : d = n := by omega
      subst this
      exact hq' mm (by omega) (by omega) (by omega)
  · refine .inr ⟨rfl, rfl, fun z z0 z1 z2 z3 => ?_⟩
    exact hq (z / 86400) (by omega) (by omega) (inB_iff.2 ⟨by omega, by omega⟩) (z % 86400 / 60) (by omega) (by omega) (by omega)
end Go.Proofs.Ythigmjjafilbcaa
