/- calendar.After: what it answers, plainly. -/
import Derived.Test.YthigmjjafilbcaaDoorRgL
namespace Go.Proofs.YthigmjjafilbcaaDoor
set_option linter.unusedVariables false
set_option maxRecDepth 100000
open Go.RowKit
def FireAt (k : Nat) (off on : List Int) (mode : Int) (x : Xp) (n m : Int) : Prop := worksC k off on n = true ∧ ∃ L, MovedIs k off on mode n L ∧ ∃ d ∈ L, minFit x d m = true
/-- No minute of a day behind t fires. -/
def Quiet (k : Nat) (off on : List Int) (mode : Int) (x : Xp) (t n : Int) : Prop := ∀ m : Int, 0 ≤ m → m < 1440 → t < n * 86400 + m * 60 → ¬ FireAt k off on mode x n m
def AfterIs (k : Nat) (off on : List Int) (mode : Int) (x : Xp) (t r e : Int) : Prop :=
  (∃ n m : Int, inB n = true ∧ t / 86400 ≤ n ∧ n < t / 86400 + 3700 ∧ 0 ≤ m ∧ m < 1440 ∧ t < n * 86400 + m * 60 ∧ FireAt k off on mode x n m ∧ r = n * 86400 + m * 60 ∧ e = 0 ∧
    (∀ n' : Int, t / 86400 ≤ n' → n' < n → Quiet k off on mode x t n') ∧ (∀ m' : Int, 0 ≤ m' → m' < m → t < n * 86400 + m' * 60 → ¬ FireAt k off on mode x n m')) ∨
  (r = 0 ∧ e = 5 ∧ ∀ n : Int, t / 86400 ≤ n → n < t / 86400 + 3700 → inB n = true → Quiet k off on mode x t n)
theorem moved_unique {k : Nat} {off on : List Int} {mode n : Int} {L L' : List Int} (h : MovedIs k off on mode n L) (h' : MovedIs k off on mode n L') : L = L' := by
  rcases h with ⟨rfl, rfl⟩ | ⟨hm, s, hs, i, rfl, ha, hb⟩
  · rcases h' with ⟨-, rfl⟩ | ⟨hm, -⟩
    · rfl
    · omega
  · rcases h' with ⟨rfl, -⟩ | ⟨-, s', hs', i', rfl, ha', hb'⟩
    · omega
    · rw [← hs] at hs'
      subst hs'
      have key : ∀ {a b : Nat}, (∀ j : Nat, j < b → inB (n + s' + s' * (j : Int)) = true ∧ worksC k off on (n + s' + s' * (j : Int)) = false) → (inB (n + s' + s' * (a : Int)) = false ∨ worksC k off on (n + s' + s' * (a : Int)) = true) → ¬ a < b := fun h1 h2 hlt => by
        obtain ⟨e1, e2⟩ := h1 _ hlt
        rcases h2 with h2 | h2
        · rw [e1] at h2; cases h2
        · rw [e2] at h2; cases h2
      have := key ha' hb
      have := key ha hb'
      have e : i = i' := by omega
      rw [e]
theorem mem_stepsL {n s : Int} {k : Nat} {d : Int} : d ∈ stepsL n s k ↔ ∃ j : Nat, j < k ∧ d = n + s * (j : Int) := by
  unfold stepsL
  simp only [List.mem_map, List.mem_range]
  constructor
  · rintro ⟨j, hj, rfl⟩; exact ⟨j, hj, rfl⟩
  · rintro ⟨j, hj, rfl⟩; exact ⟨j, hj, rfl⟩
theorem moved_inB {k : Nat} {off on : List Int} {mode n : Int} {L : List Int} (h : MovedIs k off on mode n L) (hn : inB n = true) {d : Int} (hd : d ∈ L) : inB d = true := by
  rcases h with ⟨rfl, rfl⟩ | ⟨hm, s, hs, i, rfl, ha, hb⟩
  · simp at hd; subst hd; exact hn
  · obtain ⟨j, hj, rfl⟩ := mem_stepsL.1 hd
    cases j with
    | zero => simpa using hn
    | succ j =>
      have := (ha j (by omega)).1
      rw [show n + s * ((j + 1 : Nat) : Int) = n + s + s * (j : Int) by rw [Int.natCast_add, Int.mul_add]; simp; omega]
      exact this
theorem moved_len {k : Nat} {off on : List Int} {mode n : Int} {L : List Int} (h : MovedIs k off on mode n L) : 0 < L.length := by
  rcases h with ⟨rfl, rfl⟩ | ⟨hm, s, hs, i, rfl, ha, hb⟩
  · simp
  · rw [stepsL_len]; omega
/-- Whether one of the days that fit fires. -/
theorem fire_iff {k : Nat} {off on : List Int} {mode : Int} {x : Xp} {n m : Int} {L : List Int} (hw : worksC k off on n = true) (h : MovedIs k off on mode n L) :
    FireAt k off on mode x n m ↔ ((L.filter fun d => !!dayFit x d).any fun d => minFit x d m) = true := by
  rw [List.any_eq_true]
  constructor
  · rintro ⟨-, L', h', d, hd, hm⟩
    rw [moved_unique h' h] at hd
    refine ⟨d, List.mem_filter.2 ⟨hd, ?_⟩, hm⟩
    unfold minFit at hm
    rw [Bool.and_eq_true] at hm
    simp [hm.1]
  · rintro ⟨d, hd, hm⟩
    exact ⟨hw, L, h, d, (List.mem_filter.1 hd).1, hm⟩
theorem Sl.far {w : World} {k : IntKind} {ad : Addr} {xs : List Int} (h : Sl w k (some ad) xs) {b : Nat} (hne : ad.block ≠ b) (o : Nat) (u : Value) : Sl (w.setCell ⟨b, o, none⟩ u) k (some ad) xs := fun j hj => by
  obtain ⟨ad', e, hb, hc⟩ := h j hj
  cases e
  refine ⟨_, rfl, by simpa using hb, ?_⟩
  have := Below.heap_setCell w ⟨b, o, none⟩ u (ad.add j).block (by rw [add_block]; exact hne)
  rw [World.cell?_of_block (a := ad.add j) this]
  exact hc
/-- How many minutes are left: read off the box of the loop's variable. -/
def leftM (B : Value) (wr : World) : Nat := match B with
  | .pointer (some a) => (1441 - intOf ((wr.cell? a).getD undef)).toNat
  | _ => 0
theorem leftM_at {wr : World} {b : Nat} {m : Int} (h : wr.cell? ⟨b, 0, none⟩ = some (.int .i64 m)) : leftM (.pointer (some ⟨b, 0, none⟩)) wr = (1441 - m).toNat := by
  simp [leftM, h, intOf]
end Go.Proofs.YthigmjjafilbcaaDoor
