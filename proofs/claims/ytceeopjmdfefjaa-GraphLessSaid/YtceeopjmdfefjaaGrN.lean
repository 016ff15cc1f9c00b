/- What a search of a graph holds while it goes, deep or wide; what a row's answer is; who waits. -/
import Derived.Test.YtceeopjmdfefjaaGrM
namespace Go.Proofs.Ytceeopjmdfefjaa
set_option linter.unusedVariables false
/-- All Deps, one behind the other. -/
def allD (l : List Nd) : List Int := l.flatMap (·.deps)
theorem Edge.allD {l : List Nd} {a b : Int} (h : Edge l a b) : b ∈ allD l := by
  obtain ⟨n, hn, _, hb⟩ := h
  exact List.mem_flatMap.2 ⟨n, hn, hb⟩
theorem Rch.allD {l : List Nd} {a b : Int} (h : Rch l a b) : b ∈ allD l := by
  obtain ⟨c, e⟩ := h.last
  exact e.allD
theorem allD_len : ∀ (l : List Nd), (∀ n ∈ l, n.deps.length ≤ 12) → (allD l).length ≤ 12 * l.length
  | [], _ => by simp [allD]
  | n :: l, h => by
    have h1 := h n (by simp)
    have h2 := allD_len l fun m hm => h m (by simp [hm])
    have e : allD (n :: l) = n.deps ++ allD l := by simp [allD]
    rw [e, List.length_append, List.length_cons]
    omega
theorem edge_at {l : List Nd} {i : Nat} (hi : i < l.length) {d : Int} (hd : d ∈ l[i].deps) : Edge l l[i].id d := ⟨l[i], List.getElem_mem _, rfl, hd⟩
theorem edge_get {l : List Nd} {a b : Int} (h : Edge l a b) : ∃ j, ∃ (hj : j < l.length), l[j].id = a ∧ b ∈ l[j].deps := by
  obtain ⟨n, hn, h1, h2⟩ := h
  obtain ⟨j, hj, rfl⟩ := List.mem_iff_getElem.1 hn
  exact ⟨j, hj, h1, h2⟩
theorem mem_take_succ {l : List Int} {k : Nat} (hk : k < l.length) {d : Int} (h : d ∈ l.take (k + 1)) : d ∈ l.take k ∨ d = l[k] := by
  rw [List.take_succ_eq_append_getElem hk] at h
  rcases List.mem_append.1 h with h | h
  · exact .inl h
  · rw [List.mem_singleton] at h; exact .inr h
/-! ### deep -/
section
variable {l : List Nd} {fr to at_ : Int} {seen todo : List Int}
/-- Between two of the stack. -/
structure Dfs (l : List Nd) (fr to : Int) (seen todo : List Int) : Prop where
  s1 : ∀ x ∈ seen, Rch l fr x
  t1 : ∀ x ∈ todo, x = fr ∨ Rch l fr x
  nd : seen.Nodup
  c : ∀ x, (x = fr ∨ x ∈ seen) → x ∈ todo ∨ ∀ y, Edge l x y → y ∈ seen ∧ y ≠ to
/-- While one's Deps are gone through. -/
structure Dfm (l : List Nd) (fr to at_ : Int) (i k : Nat) (seen todo : List Int) : Prop where
  a1 : at_ = fr ∨ Rch l fr at_
  s1 : ∀ x ∈ seen, Rch l fr x
  t1 : ∀ x ∈ todo, x = fr ∨ Rch l fr x
  nd : seen.Nodup
  c : ∀ x, (x = fr ∨ x ∈ seen) → x ∈ todo ∨ x = at_ ∨ ∀ y, Edge l x y → y ∈ seen ∧ y ≠ to
  m : ∀ j (hj : j < l.length), j < i → l[j].id = at_ → ∀ d ∈ l[j].deps, d ∈ seen ∧ d ≠ to
  mk_ : ∀ (hi : i < l.length), l[i].id = at_ → ∀ d ∈ l[i].deps.take k, d ∈ seen ∧ d ≠ to
theorem Dfs.start (l : List Nd) (fr to : Int) : Dfs l fr to [] [fr] := ⟨by simp, by simp, List.nodup_nil, fun x hx => .inl (by simpa using hx)⟩
theorem Dfs.done (h : Dfs l fr to seen []) : ¬ Rch l fr to := fun hr => by
  have h0 : ∀ x, (x = fr ∨ x ∈ seen) → ∀ y, Edge l x y → y ∈ seen ∧ y ≠ to := fun x hx => by
    rcases h.c x hx with h1 | h1
    · simp at h1
    · exact h1
  exact (Rch.closed (P := fun b => b ∈ seen ∧ b ≠ to) (h0 fr (.inl rfl)) (fun b c hb => h0 b (.inr hb.1) c) hr).2 rfl
theorem Dfs.pop {x : Int} (h : Dfs l fr to seen (todo ++ [x])) : Dfm l fr to x 0 0 seen todo := by
  refine ⟨h.t1 x (by simp), h.s1, fun y hy => h.t1 y (by simp [hy]), h.nd, fun y hy => ?_, fun j _ hj => absurd hj (by omega), fun _ _ d hd => by simp at hd⟩
  rcases h.c y hy with h1 | h1
  · rcases List.mem_append.1 h1 with h1 | h1
    · exact .inl h1
    · rw [List.mem_singleton] at h1; exact .inr (.inl h1)
  · exact .inr (.inr h1)
theorem Dfm.skip {i : Nat} (h : Dfm l fr to at_ i 0 seen todo) (hi : i < l.length) (hn : l[i].id ≠ at_) : Dfm l fr to at_ (i + 1) 0 seen todo :=
  ⟨h.a1, h.s1, h.t1, h.nd, h.c, fun j hj hji e => by
    by_cases e2 : j = i
    · subst e2; exact absurd e hn
    · exact h.m j hj (by omega) e, fun _ _ d hd => by simp at hd⟩
theorem Dfm.next {i : Nat} {k : Nat} (hi : i < l.length) (h : Dfm l fr to at_ i k seen todo) (hk : l[i].deps.length ≤ k) : Dfm l fr to at_ (i + 1) 0 seen todo :=
  ⟨h.a1, h.s1, h.t1, h.nd, h.c, fun j hj hji e => by
    by_cases e2 : j = i
    · subst e2
      have := h.mk_ hi e
      rwa [List.take_of_length_le hk] at this
    · exact h.m j hj (by omega) e, fun _ _ d hd => by simp at hd⟩
theorem Dfm.old {i k : Nat} (h : Dfm l fr to at_ i k seen todo) (hi : i < l.length) (hk : k < l[i].deps.length) (h1 : l[i].deps[k] ≠ to) (h2 : l[i].deps[k] ∈ seen) : Dfm l fr to at_ i (k + 1) seen todo :=
  ⟨h.a1, h.s1, h.t1, h.nd, h.c, h.m, fun _ e d hd => by
    rcases mem_take_succ hk hd with hd | rfl
    · exact h.mk_ hi e d hd
    · exact ⟨h2, h1⟩⟩
theorem Dfm.reach {i k : Nat} (h : Dfm l fr to at_ i k seen todo) (hi : i < l.length) (hk : k < l[i].deps.length) (e : l[i].id = at_) : Rch l fr l[i].deps[k] := by
  have e2 : Edge l at_ l[i].deps[k] := e ▸ edge_at hi (List.getElem_mem _)
  rcases h.a1 with h1 | h1
  · rw [← h1]; exact .one e2
  · exact h1.step e2
theorem Dfm.new {i k : Nat} (h : Dfm l fr to at_ i k seen todo) (hi : i < l.length) (hk : k < l[i].deps.length) (e : l[i].id = at_) (h1 : l[i].deps[k] ≠ to) {seen' : List Int} (hnd : seen'.Nodup) (hm : ∀ x, x ∈ seen' ↔ x = l[i].deps[k] ∨ x ∈ seen) :
    Dfm l fr to at_ i (k + 1) seen' (todo ++ [l[i].deps[k]]) := by
  have hr := h.reach hi hk e
  have up : ∀ y, y ∈ seen ∧ y ≠ to → y ∈ seen' ∧ y ≠ to := fun y hy => ⟨(hm y).2 (.inr hy.1), hy.2⟩
  refine ⟨h.a1, fun x hx => ?_, fun x hx => ?_, hnd, fun x hx => ?_, fun j hj hji e d hd => up d (h.m j hj hji e d hd), fun _ e d hd => ?_⟩
  · rcases (hm x).1 hx with rfl | hx
    · exact hr
    · exact h.s1 x hx
  · rcases List.mem_append.1 hx with hx | hx
    · exact h.t1 x hx
    · rw [List.mem_singleton] at hx; subst hx; exact .inr hr
  · have old : (x = fr ∨ x ∈ seen) → x ∈ todo ++ [l[i].deps[k]] ∨ x = at_ ∨ ∀ y, Edge l x y → y ∈ seen' ∧ y ≠ to := fun hx => by
      rcases h.c x hx with h2 | h2 | h2
      · exact .inl (by simp [h2])
      · exact .inr (.inl h2)
      · exact .inr (.inr fun y hy => up y (h2 y hy))
    rcases hx with hx | hx
    · exact old (.inl hx)
    · rcases (hm x).1 hx with rfl | hx
      · exact .inl (by simp)
      · exact old (.inr hx)
  · rcases mem_take_succ hk hd with hd | rfl
    · exact up d (h.mk_ hi e d hd)
    · exact ⟨(hm _).2 (.inl rfl), h1⟩
theorem Dfm.close {i : Nat} (h : Dfm l fr to at_ i 0 seen todo) (hi : l.length ≤ i) : Dfs l fr to seen todo := by
  refine ⟨h.s1, h.t1, h.nd, fun x hx => ?_⟩
  rcases h.c x hx with h1 | rfl | h1
  · exact .inl h1
  · refine .inr fun y hy => ?_
    obtain ⟨j, hj, e1, e2⟩ := edge_get hy
    exact h.m j hj (by omega) e1 y e2
  · exact .inr h1
theorem Dfs.len (h : Dfs l fr to seen todo) : seen.length ≤ (allD l).length := nodup_le h.nd fun x hx => (h.s1 x hx).allD
theorem Dfm.len {i k : Nat} (h : Dfm l fr to at_ i k seen todo) : seen.length ≤ (allD l).length := nodup_le h.nd fun x hx => (h.s1 x hx).allD
end
/-! ### wide -/
section
variable {l : List Nd} {fr to : Int} {seen more : List Int}
structure Bfs (l : List Nd) (fr : Int) (seen : List Int) : Prop where
  h0 : fr ∈ seen
  s1 : ∀ x ∈ seen, x = fr ∨ Rch l fr x
  nd : seen.Nodup
structure Bfm (l : List Nd) (fr to : Int) (i k : Nat) (seen more : List Int) : Prop where
  m1 : ∀ x ∈ more, Rch l fr x
  nd : (seen ++ more).Nodup
  m : ∀ j (hj : j < l.length), j < i → l[j].id ∈ seen → ∀ d ∈ l[j].deps, (d ∈ seen ∨ d ∈ more) ∧ d ≠ to
  mk_ : ∀ (hi : i < l.length), l[i].id ∈ seen → ∀ d ∈ l[i].deps.take k, (d ∈ seen ∨ d ∈ more) ∧ d ≠ to
theorem Bfs.start (l : List Nd) (fr : Int) : Bfs l fr [fr] := ⟨by simp, by simp, by simp⟩
theorem Bfs.begin (h : Bfs l fr seen) (to : Int) : Bfm l fr to 0 0 seen [] := ⟨by simp, by simpa using h.nd, fun j _ hj => absurd hj (by omega), fun _ _ d hd => by simp at hd⟩
theorem Bfm.skip {i : Nat} (h : Bfm l fr to i 0 seen more) (hi : i < l.length) (hn : ¬ l[i].id ∈ seen) : Bfm l fr to (i + 1) 0 seen more :=
  ⟨h.m1, h.nd, fun j hj hji e => by
    by_cases e2 : j = i
    · subst e2; exact absurd e hn
    · exact h.m j hj (by omega) e, fun _ _ d hd => by simp at hd⟩
theorem Bfm.next {i : Nat} {k : Nat} (hi : i < l.length) (h : Bfm l fr to i k seen more) (hk : l[i].deps.length ≤ k) : Bfm l fr to (i + 1) 0 seen more :=
  ⟨h.m1, h.nd, fun j hj hji e => by
    by_cases e2 : j = i
    · subst e2
      have := h.mk_ hi e
      rwa [List.take_of_length_le hk] at this
    · exact h.m j hj (by omega) e, fun _ _ d hd => by simp at hd⟩
theorem Bfm.old {i k : Nat} (h : Bfm l fr to i k seen more) (hi : i < l.length) (hk : k < l[i].deps.length) (h1 : l[i].deps[k] ≠ to) (h2 : l[i].deps[k] ∈ seen ∨ l[i].deps[k] ∈ more) : Bfm l fr to i (k + 1) seen more :=
  ⟨h.m1, h.nd, h.m, fun _ e d hd => by
    rcases mem_take_succ hk hd with hd | rfl
    · exact h.mk_ hi e d hd
    · exact ⟨h2, h1⟩⟩
theorem Bfs.reach {i k : Nat} (hs : Bfs l fr seen) (hi : i < l.length) (hk : k < l[i].deps.length) (e : l[i].id ∈ seen) : Rch l fr l[i].deps[k] := by
  have e2 : Edge l l[i].id l[i].deps[k] := edge_at hi (List.getElem_mem _)
  rcases hs.s1 _ e with h1 | h1
  · rw [h1] at e2; exact .one e2
  · exact h1.step e2
theorem Bfm.new {i k : Nat} (hs : Bfs l fr seen) (h : Bfm l fr to i k seen more) (hi : i < l.length) (hk : k < l[i].deps.length) (e : l[i].id ∈ seen) (h1 : l[i].deps[k] ≠ to) (h2 : ¬ l[i].deps[k] ∈ seen) (h3 : ¬ l[i].deps[k] ∈ more) :
    Bfm l fr to i (k + 1) seen (more ++ [l[i].deps[k]]) := by
  have hr := hs.reach hi hk e
  have up : ∀ y, (y ∈ seen ∨ y ∈ more) ∧ y ≠ to → (y ∈ seen ∨ y ∈ more ++ [l[i].deps[k]]) ∧ y ≠ to := fun y hy => ⟨hy.1.imp id fun h => by simp [h], hy.2⟩
  refine ⟨fun x hx => ?_, ?_, fun j hj hji e d hd => up d (h.m j hj hji e d hd), fun _ e d hd => ?_⟩
  · rcases List.mem_append.1 hx with hx | hx
    · exact h.m1 x hx
    · rw [List.mem_singleton] at hx; subst hx; exact hr
  · rw [← List.append_assoc]
    refine List.nodup_append.2 ⟨h.nd, by simp, fun x hx y hy e => ?_⟩
    rw [List.mem_singleton] at hy
    subst hy
    subst e
    rcases List.mem_append.1 hx with hx | hx
    · exact h2 hx
    · exact h3 hx
  · rcases mem_take_succ hk hd with hd | rfl
    · exact up d (h.mk_ hi e d hd)
    · exact ⟨.inr (by simp), h1⟩
theorem Bfm.grow {i : Nat} (hs : Bfs l fr seen) (h : Bfm l fr to i 0 seen more) : Bfs l fr (seen ++ more) :=
  ⟨by simp [hs.h0], fun x hx => by
    rcases List.mem_append.1 hx with hx | hx
    · exact hs.s1 x hx
    · exact .inr (h.m1 x hx), h.nd⟩
theorem Bfm.none_ {i : Nat} (hs : Bfs l fr seen) (h : Bfm l fr to i 0 seen []) (hi : l.length ≤ i) : ¬ Rch l fr to := fun hr => by
  have h0 : ∀ x ∈ seen, ∀ y, Edge l x y → y ∈ seen ∧ y ≠ to := fun x hx y hy => by
    obtain ⟨j, hj, rfl, e2⟩ := edge_get hy
    have := h.m j hj (by omega) hx y e2
    simpa using this
  exact (Rch.closed (P := fun b => b ∈ seen ∧ b ≠ to) (h0 fr hs.h0) (fun b c hb => h0 b hb.1 c) hr).2 rfl
theorem Bfs.len (h : Bfs l fr seen) : seen.length ≤ 1 + (allD l).length := by
  have := nodup_le h.nd (ys := fr :: allD l) fun x hx => by
    rcases h.s1 x hx with rfl | h1
    · simp
    · simp [h1.allD]
  rw [List.length_cons] at this
  omega
end
/-! ### what a row's answer is -/
open Classical in
/-- Is one reached? (Not in rows that are too long.) -/
noncomputable def rchB (l : List Nd) (a b : Int) : Bool := decide (l.length ≤ 64 ∧ Rch l a b)
open Classical in
/-- What is wrong with a row. -/
noncomputable def mayE (l : List Nd) : Int :=
  if 64 < l.length then 3 else if ∃ n ∈ l, 8 < n.deps.length then 3 else if ¬ ((ids l).Nodup ∧ ∀ n ∈ l, n.deps.Nodup) then 130 else if ¬ ∀ n ∈ l, ∀ d ∈ n.deps, d ∈ ids l then 5 else if ∃ i ∈ ids l, Rch l i i then 131 else 0
/-- A row that may be. -/
structure Fine (l : List Nd) : Prop where
  long : l.length ≤ 64
  deps : ∀ n ∈ l, n.deps.length ≤ 8
  once : (ids l).Nodup
  each : ∀ n ∈ l, n.deps.Nodup
  there : ∀ n ∈ l, ∀ d ∈ n.deps, d ∈ ids l
open Classical in
theorem mayE_fine {l : List Nd} (h : Fine l) : mayE l = if ∃ i ∈ ids l, Rch l i i then 131 else 0 := by
  unfold mayE
  rw [if_neg (by have := h.long; omega), if_neg (fun ⟨n, hn, h2⟩ => by have := h.deps n hn; omega), if_neg (fun h2 => h2 ⟨h.once, h.each⟩), if_neg (fun h2 => h2 h.there)]
theorem fine_of {l : List Nd} (h : mayE l = 0 ∨ mayE l = 131) : Fine l := by
  unfold mayE at h
  by_cases h1 : 64 < l.length
  · rw [if_pos h1] at h; omega
  rw [if_neg h1] at h
  by_cases h2 : ∃ n ∈ l, 8 < n.deps.length
  · rw [if_pos h2] at h; omega
  rw [if_neg h2] at h
  by_cases h3 : ¬ ((ids l).Nodup ∧ ∀ n ∈ l, n.deps.Nodup)
  · rw [if_pos h3] at h; omega
  rw [if_neg h3] at h
  by_cases h4 : ¬ ∀ n ∈ l, ∀ d ∈ n.deps, d ∈ ids l
  · rw [if_pos h4] at h; omega
  have h3 := Classical.not_not.1 h3
  exact ⟨by omega, fun n hn => Nat.le_of_not_lt fun h5 => h2 ⟨n, hn, h5⟩, h3.1, h3.2, Classical.not_not.1 h4⟩
theorem mayE_ok {l : List Nd} : mayE l = 0 ↔ Fine l ∧ ∀ i, ¬ Rch l i i := by
  constructor
  · intro h
    have hf := fine_of (.inl h)
    refine ⟨hf, fun i hi => ?_⟩
    rw [mayE_fine hf, if_pos] at h
    · omega
    · obtain ⟨c, n, hn, e, _⟩ := hi.first
      exact ⟨i, mem_ids.2 ⟨n, hn, e⟩, hi⟩
  · rintro ⟨hf, hn⟩
    rw [mayE_fine hf, if_neg]
    rintro ⟨i, _, hi⟩
    exact hn i hi
/-- The answer by an order: as much as there is, whole or not. -/
theorem mayE_ends {l : List Nd} (h : Fine l) {out : List Int} (ho : Ends l out) : mayE l = if out.length < l.length then 131 else 0 := by
  rw [mayE_fine h]
  have := ho.circle h.once h.there
  by_cases h2 : out.length < l.length
  · rw [if_pos h2, if_pos (this.1 h2)]
  · rw [if_neg h2, if_neg (fun h3 => h2 (this.2 h3))]
/-- Those who wait for one. -/
def Usr (l : List Nd) (id : Int) (us : List Int) : Prop := us.Pairwise (· < ·) ∧ ∀ x, x ∈ us ↔ Edge l x id
theorem Usr.eq {l : List Nd} {id : Int} {a b : List Int} (ha : Usr l id a) (hb : Usr l id b) : a = b := rise_ext ha.1 hb.1 fun z => (ha.2 z).trans (hb.2 z).symm
end Go.Proofs.Ytceeopjmdfefjaa
