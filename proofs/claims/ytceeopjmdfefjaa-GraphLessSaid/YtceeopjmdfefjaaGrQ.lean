/- The chapter's rows, plain; answers at rows of any length. -/
import Derived.Test.YtceeopjmdfefjaaGrP
namespace Go.Proofs.Ytceeopjmdfefjaa
set_option linter.unusedVariables false
/-- The chapter's first row. -/
def kL : List Nd := [⟨3, [1]⟩, ⟨1, []⟩, ⟨2, [3]⟩]
theorem kL_cand (out : List Int) (i : Int) : Cand kL out i ↔ (i = 3 ∧ 3 ∉ out ∧ 1 ∈ out) ∨ (i = 1 ∧ 1 ∉ out) ∨ (i = 2 ∧ 2 ∉ out ∧ 3 ∈ out) := by
  unfold Cand kL
  constructor
  · rintro ⟨n, hn, rfl, h1, h2⟩
    rcases List.mem_cons.1 hn with rfl | hn
    · exact .inl ⟨rfl, h1, h2 1 (by simp)⟩
    rcases List.mem_cons.1 hn with rfl | hn
    · exact .inr (.inl ⟨rfl, h1⟩)
    rw [List.mem_singleton] at hn
    subst hn
    exact .inr (.inr ⟨rfl, h1, h2 3 (by simp)⟩)
  · rintro (⟨rfl, h1, h2⟩ | ⟨rfl, h1⟩ | ⟨rfl, h1, h2⟩)
    · exact ⟨⟨3, [1]⟩, by simp, rfl, h1, by simpa using h2⟩
    · exact ⟨⟨1, []⟩, by simp, rfl, h1, by simp⟩
    · exact ⟨⟨2, [3]⟩, by simp, rfl, h1, by simpa using h2⟩
theorem kL_ends : Ends kL [1, 3, 2] := by
  refine ⟨fun k hk => ?_, fun i hi => ?_⟩
  · have hk3 : k = 0 ∨ k = 1 ∨ k = 2 := by simp at hk; omega
    rcases hk3 with rfl | rfl | rfl
    · refine ⟨(kL_cand _ _).2 (.inr (.inl ⟨rfl, by simp⟩)), fun j hj => ?_⟩
      have := (kL_cand _ _).1 hj
      simp at this
      rcases this with rfl
      simp
    · refine ⟨(kL_cand _ _).2 (.inl ⟨rfl, by simp, by simp⟩), fun j hj => ?_⟩
      have := (kL_cand _ _).1 hj
      simp at this
      rcases this with rfl
      simp
    · refine ⟨(kL_cand _ _).2 (.inr (.inr ⟨rfl, by simp, by simp⟩)), fun j hj => ?_⟩
      have := (kL_cand _ _).1 hj
      simp at this
      rcases this with rfl
      simp
  · have := (kL_cand _ _).1 hi
    simp at this
theorem kL_fine : Fine kL := ⟨by simp [kL], by simp [kL], by simp [kL, ids], by simp [kL], by simp [kL, ids]⟩
theorem kL_may : mayE kL = 0 := by rw [mayE_ends kL_fine kL_ends]; simp [kL]
theorem kL_usr : Usr kL 3 [2] := by
  refine ⟨by simp, fun x => ?_⟩
  unfold Edge kL
  simp
  exact eq_comm
theorem kL_rch : rchB kL 2 1 = true := (rchB_iff (by simp [kL])).2 ((Rch.one (b := 3) ⟨⟨2, [3]⟩, by simp [kL], rfl, by simp⟩).step ⟨⟨3, [1]⟩, by simp [kL], rfl, by simp⟩)
/-- Nobody may come next. -/
theorem none_ends {l : List Nd} (h : ∀ n ∈ l, n.deps ≠ []) : Ends l [] := ⟨Ord.nil, fun i ⟨n, hn, _, _, hd⟩ => by
  rcases hq : n.deps with _ | ⟨d, ds⟩
  · exact h n hn hq
  · have := hd d (by rw [hq]; simp)
    simp at this⟩
theorem kB_may : mayE [⟨1, [2]⟩, ⟨2, [1]⟩] = 131 := by
  rw [mayE_ends (out := []) ⟨by simp, by simp, by simp [ids], by simp, by simp [ids]⟩ (none_ends (by simp))]
  simp
theorem kD_may : mayE [⟨1, [1]⟩] = 131 := by
  rw [mayE_ends (out := []) ⟨by simp, by simp, by simp [ids], by simp, by simp [ids]⟩ (none_ends (by simp))]
  simp
open Classical in
theorem kC_may : mayE [⟨1, [5]⟩] = 5 := by
  unfold mayE
  rw [if_neg (by simp), if_neg (by simp), if_neg (by simp [ids]), if_pos (by simp [ids])]
/-- Who waits, of a row of any length. -/
def UsL (l : List Nd) (id : Int) (us : List Int) : Prop := (64 < l.length ∧ us = []) ∨ (l.length ≤ 64 ∧ Usr l id us)
theorem UsL.eq {l : List Nd} {id : Int} {a b : List Int} (ha : UsL l id a) (hb : UsL l id b) : a = b := by
  rcases ha with ⟨h1, rfl⟩ | ⟨h1, ha⟩ <;> rcases hb with ⟨h2, rfl⟩ | ⟨h2, hb⟩
  · rfl
  · omega
  · omega
  · exact ha.eq hb
theorem UsL.len {l : List Nd} {id : Int} {a : List Int} (h : UsL l id a) : a.length ≤ 64 := by
  rcases h with ⟨_, rfl⟩ | ⟨h1, ha⟩
  · simp
  · have := nodup_le (rise_nodup ha.1) (ys := ids l) (fun x hx => by
      obtain ⟨n, hn, e, _⟩ := (ha.2 x).1 hx
      exact mem_ids.2 ⟨n, hn, e⟩)
    rw [ids, List.length_map] at this
    omega
end Go.Proofs.Ytceeopjmdfefjaa
