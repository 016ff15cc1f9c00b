/- Plain words on graphs: who is reached, what an order is, who waits; and what holds of these. -/
import Derived.KernelRfl
namespace Go.Proofs.Ytceeopjmdfefjaa
set_option linter.unusedVariables false
/-! ### rows of numbers -/
/-- A row without one twice is not longer than what has all of it. -/
theorem nodup_le : ∀ {xs ys : List Int}, xs.Nodup → (∀ x ∈ xs, x ∈ ys) → xs.length ≤ ys.length
  | [], ys, _, _ => Nat.zero_le _
  | x :: xs, ys, h, hs => by
    have hx := hs x (by simp)
    have h2 := List.nodup_cons.1 h
    have h3 := nodup_le (xs := xs) (ys := ys.erase x) h2.2 (fun y hy => (List.mem_erase_of_ne (fun e => h2.1 (by rw [← e]; exact hy))).2 (hs y (by simp [hy])))
    rw [List.length_erase_of_mem hx] at h3
    have := List.length_pos_of_mem hx
    rw [List.length_cons]
    omega
/-- .. and if it is as long it is all of it. -/
theorem nodup_all {xs ys : List Int} (hx : xs.Nodup) (hs : ∀ x ∈ xs, x ∈ ys) (hl : ys.length ≤ xs.length) : ∀ y ∈ ys, y ∈ xs := fun y hy => by
  apply Classical.byContradiction
  intro hn
  have := nodup_le (List.nodup_cons.2 ⟨hn, hx⟩ : (y :: xs).Nodup) (ys := ys) (fun z hz => by
    rcases List.mem_cons.1 hz with rfl | hz
    · exact hy
    · exact hs z hz)
  rw [List.length_cons] at this
  omega
/-- One is twice in a row that is longer than all that is in it. -/
theorem twice_of_long {xs ys : List Int} (hs : ∀ x ∈ xs, x ∈ ys) (hl : ys.length < xs.length) : ∃ i j, ∃ (hi : i < j) (hj : j < xs.length), xs[i] = xs[j] := by
  apply Classical.byContradiction
  intro hn
  have h : xs.Nodup := List.pairwise_iff_getElem.2 fun i j hi hj hij e => hn ⟨i, j, hij, hj, e⟩
  have := nodup_le h hs
  omega
/-- Two rows that rise and have the same are the same. -/
theorem rise_ext : ∀ {xs ys : List Int}, xs.Pairwise (· < ·) → ys.Pairwise (· < ·) → (∀ z, z ∈ xs ↔ z ∈ ys) → xs = ys
  | [], [], _, _, _ => rfl
  | [], y :: ys, _, _, h => absurd ((h y).2 (by simp)) (by simp)
  | x :: xs, [], _, _, h => absurd ((h x).1 (by simp)) (by simp)
  | x :: xs, y :: ys, hx, hy, h => by
    have hx2 := List.pairwise_cons.1 hx
    have hy2 := List.pairwise_cons.1 hy
    have e : x = y := by
      have h1 := (h x).1 (by simp)
      have h2 := (h y).2 (by simp)
      rcases List.mem_cons.1 h1 with h1 | h1
      · exact h1
      · rcases List.mem_cons.1 h2 with h2 | h2
        · exact h2.symm
        · have := hy2.1 x h1
          have := hx2.1 y h2
          omega
    subst e
    rw [rise_ext hx2.2 hy2.2 fun z => ⟨fun hz => by
      rcases List.mem_cons.1 ((h z).1 (by simp [hz])) with rfl | h3
      · have := hx2.1 z hz; omega
      · exact h3, fun hz => by
      rcases List.mem_cons.1 ((h z).2 (by simp [hz])) with rfl | h3
      · have := hy2.1 z hz; omega
      · exact h3⟩]
theorem rise_nodup {xs : List Int} (h : xs.Pairwise (· < ·)) : xs.Nodup := h.imp fun h e => by omega
/-! ### graphs -/
/-- A node. -/
structure Nd where
  id : Int
  deps : List Int
/-- Their numbers. -/
def ids (l : List Nd) : List Int := l.map (·.id)
/-- One waits for one. -/
def Edge (l : List Nd) (a b : Int) : Prop := ∃ n ∈ l, n.id = a ∧ b ∈ n.deps
/-- One is reached. -/
inductive Rch (l : List Nd) : Int → Int → Prop
  | one {a b : Int} (h : Edge l a b) : Rch l a b
  | step {a b c : Int} (h : Rch l a b) (e : Edge l b c) : Rch l a c
variable {l : List Nd}
theorem Rch.trans {a b c : Int} (h1 : Rch l a b) (h2 : Rch l b c) : Rch l a c := by
  induction h2 with
  | one e => exact h1.step e
  | step _ e ih => exact ih.step e
theorem Rch.head {a b c : Int} (h1 : Edge l a b) (h2 : Rch l b c) : Rch l a c := (Rch.one h1).trans h2
theorem Rch.mono {l' : List Nd} (hm : ∀ a b, Edge l a b → Edge l' a b) {a b : Int} (h : Rch l a b) : Rch l' a b := by
  induction h with
  | one e => exact .one (hm _ _ e)
  | step _ e ih => exact ih.step (hm _ _ e)
theorem Rch.last {a b : Int} (h : Rch l a b) : ∃ c, Edge l c b := by cases h <;> exact ⟨_, by assumption⟩
theorem Rch.first {a b : Int} (h : Rch l a b) : ∃ c, Edge l a c := by
  induction h with
  | one e => exact ⟨_, e⟩
  | step _ _ ih => exact ih
/-- What holds every edge's end holds what is reached. -/
theorem Rch.closed {P : Int → Prop} {a : Int} (h0 : ∀ b, Edge l a b → P b) (h1 : ∀ b c, P b → Edge l b c → P c) {b : Int} (h : Rch l a b) : P b := by
  induction h with
  | one e => exact h0 _ e
  | step _ e ih => exact h1 _ _ ih e
theorem mem_ids {i : Int} : i ∈ ids l ↔ ∃ n ∈ l, n.id = i := by simp [ids]
/-- Numbers that are there once tell nodes apart. -/
theorem uniq : ∀ {l : List Nd}, (ids l).Nodup → ∀ {n m : Nd}, n ∈ l → m ∈ l → n.id = m.id → n = m
  | [], _, _, _, hn, _, _ => absurd hn (by simp)
  | x :: l, h, n, m, hn, hm, e => by
    have h2 := List.nodup_cons.1 (by simpa [ids] using h : (x.id :: ids l).Nodup)
    rcases List.mem_cons.1 hn with e1 | hn2
    · rcases List.mem_cons.1 hm with e2 | hm2
      · rw [e1, e2]
      · rw [e1] at e
        exact absurd (mem_ids.2 ⟨m, hm2, e.symm⟩) h2.1
    · rcases List.mem_cons.1 hm with e2 | hm2
      · rw [e2] at e
        exact absurd (mem_ids.2 ⟨n, hn2, e⟩) h2.1
      · exact uniq h2.2 hn2 hm2 e
/-! ### orders -/
/-- Who may come next. -/
def Cand (l : List Nd) (out : List Int) (i : Int) : Prop := ∃ n ∈ l, n.id = i ∧ i ∉ out ∧ ∀ d ∈ n.deps, d ∈ out
/-- .. the least of them. -/
def IsPick (l : List Nd) (out : List Int) (i : Int) : Prop := Cand l out i ∧ ∀ j, Cand l out j → i ≤ j
theorem IsPick.eq {out : List Int} {i j : Int} (hi : IsPick l out i) (hj : IsPick l out j) : i = j := by
  have := hi.2 j hj.1
  have := hj.2 i hi.1
  omega
/-- A beginning of the order. -/
def Ord (l : List Nd) (out : List Int) : Prop := ∀ k (hk : k < out.length), IsPick l (out.take k) out[k]
/-- As much of the order as there is. -/
def Ends (l : List Nd) (out : List Int) : Prop := Ord l out ∧ ∀ i, ¬ Cand l out i
theorem Ord.nil : Ord l [] := fun k hk => absurd hk (by simp)
theorem Ord.snoc {out : List Int} {i : Int} (h : Ord l out) (hi : IsPick l out i) : Ord l (out ++ [i]) := fun k hk => by
  rw [List.length_append, List.length_singleton] at hk
  by_cases e : k < out.length
  · rw [List.getElem_append_left e, List.take_append_of_le_length (by omega)]
    exact h k e
  · obtain rfl : k = out.length := by omega
    rw [List.getElem_append_right (by omega), List.take_append_of_le_length (by omega), List.take_length]
    simpa using hi
theorem Ord.take {out : List Int} (h : Ord l out) (m : Nat) : Ord l (out.take m) := fun k hk => by
  have hk2 : k < m ∧ k < out.length := by rw [List.length_take] at hk; omega
  rw [List.getElem_take, List.take_take, Nat.min_eq_left (by omega)]
  exact h k hk2.2
theorem Ord.nodup {out : List Int} (h : Ord l out) : out.Nodup := List.pairwise_iff_getElem.2 fun i j hi hj hij e => by
  obtain ⟨⟨n, _, _, hn, _⟩, _⟩ := h j hj
  exact hn (e ▸ List.mem_take_iff_getElem.2 ⟨i, by omega, rfl⟩)
theorem Ord.mem {out : List Int} (h : Ord l out) : ∀ x ∈ out, x ∈ ids l := fun x hx => by
  obtain ⟨k, hk, rfl⟩ := List.mem_iff_getElem.1 hx
  obtain ⟨⟨n, hn, e, _⟩, _⟩ := h k hk
  exact mem_ids.2 ⟨n, hn, e⟩
theorem Ord.le {out : List Int} (h : Ord l out) : out.length ≤ l.length := by
  have := nodup_le h.nodup h.mem
  simpa [ids] using this
/-- Two ends are one. -/
theorem Ends.eq {a b : List Int} (ha : Ends l a) (hb : Ends l b) : a = b := by
  have pre : ∀ k, k ≤ a.length → k ≤ b.length → a.take k = b.take k := by
    intro k
    induction k with
    | zero => intro _ _; rfl
    | succ k ih =>
      intro h1 h2
      have e := ih (by omega) (by omega)
      have p1 := ha.1 k (by omega)
      have p2 := hb.1 k (by omega)
      rw [e] at p1
      rw [List.take_succ_eq_append_getElem (by omega), List.take_succ_eq_append_getElem (by omega), e, p1.eq p2]
  rcases Nat.lt_trichotomy a.length b.length with h | h | h
  · have e := pre a.length (by omega) (by omega)
    rw [List.take_length] at e
    have p := hb.1 a.length h
    rw [← e] at p
    exact absurd p.1 (ha.2 _)
  · have e := pre a.length (by omega) (by omega)
    rw [List.take_length] at e
    rw [e, h, List.take_length]
  · have e := pre b.length (by omega) (by omega)
    rw [List.take_length] at e
    have p := ha.1 b.length h
    rw [e] at p
    exact absurd p.1 (hb.2 _)
/-- In an order whoever is reached stands ahead. -/
theorem Ord.ahead {out : List Int} (hu : (ids l).Nodup) (h : Ord l out) (k : Nat) (hk : k < out.length) {b : Int} (hb : Rch l out[k] b) : b ∈ out.take k := by
  have key : ∀ j (hj : j < out.length) c, Edge l out[j] c → c ∈ out.take j := fun j hj c ⟨n, hn, e, hc⟩ => by
    obtain ⟨⟨m, hm, e2, _, hd⟩, _⟩ := h j hj
    rw [uniq hu hn hm (e.trans e2.symm)] at hc
    exact hd c hc
  refine Rch.closed (P := fun b => b ∈ out.take k) (fun c hc => key k hk c hc) (fun b c hb hc => ?_) hb
  obtain ⟨j, hj, rfl⟩ := List.mem_take_iff_getElem.1 hb
  have h2 := key j (by omega) c hc
  obtain ⟨i, hi, rfl⟩ := List.mem_take_iff_getElem.1 h2
  exact List.mem_take_iff_getElem.2 ⟨i, by omega, rfl⟩
/-- There is a circle just if the order is not whole. -/
theorem Ends.circle {out : List Int} (hu : (ids l).Nodup) (hd : ∀ n ∈ l, ∀ d ∈ n.deps, d ∈ ids l) (h : Ends l out) : out.length < l.length ↔ ∃ i ∈ ids l, Rch l i i := by
  constructor
  · intro hlt
    have hr : ∃ r ∈ ids l, r ∉ out := by
      apply Classical.byContradiction
      intro hn
      have := nodup_le hu (ys := out) (fun x hx => Classical.byContradiction fun h2 => hn ⟨x, hx, h2⟩)
      rw [ids, List.length_map] at this
      omega
    have next : ∀ r, r ∈ ids l → r ∉ out → ∃ d, d ∈ ids l ∧ d ∉ out ∧ Edge l r d := fun r hr hro => by
      obtain ⟨n, hn, rfl⟩ := mem_ids.1 hr
      apply Classical.byContradiction
      intro hno
      refine h.2 n.id ⟨n, hn, rfl, hro, fun d hdn => ?_⟩
      apply Classical.byContradiction
      intro hdo
      exact hno ⟨d, hd n hn d hdn, hdo, n, hn, rfl, hdn⟩
    have path : ∀ m, ∃ p : List Int, p.length = m + 1 ∧ (∀ x ∈ p, x ∈ ids l ∧ x ∉ out) ∧ ∀ i j (hi : i < j) (hj : j < p.length), Rch l p[i] p[j] := by
      intro m
      induction m with
      | zero =>
        obtain ⟨r, h1, h2⟩ := hr
        exact ⟨[r], rfl, fun x hx => by rw [List.mem_singleton] at hx; subst hx; exact ⟨h1, h2⟩, fun i j hi hj => by simp at hj; omega⟩
      | succ m ih =>
        obtain ⟨p, h1, h2, h3⟩ := ih
        have hm := h2 p[m] (List.getElem_mem _)
        obtain ⟨d, e1, e2, e3⟩ := next _ hm.1 hm.2
        refine ⟨p ++ [d], by simp [h1], fun x hx => ?_, fun i j hi hj => ?_⟩
        · rcases List.mem_append.1 hx with hx | hx
          · exact h2 x hx
          · rw [List.mem_singleton] at hx; subst hx; exact ⟨e1, e2⟩
        · rw [List.length_append, List.length_singleton] at hj
          by_cases hjl : j < p.length
          · rw [List.getElem_append_left hjl, List.getElem_append_left (by omega)]
            exact h3 i j hi hjl
          · obtain rfl : j = p.length := by omega
            rw [List.getElem_append_left hi, List.getElem_append_right (by omega)]
            simp only [Nat.sub_self, List.getElem_singleton]
            by_cases him : i = m
            · subst him; exact .one e3
            · exact (h3 i m (by omega) (by omega)).step e3
    obtain ⟨p, h1, h2, h3⟩ := path l.length
    obtain ⟨i, j, hi, hj, e⟩ := twice_of_long (xs := p) (ys := ids l) (fun x hx => (h2 x hx).1) (by rw [ids, List.length_map]; omega)
    have := h3 i j hi hj
    rw [e] at this
    exact ⟨p[j], (h2 _ (List.getElem_mem _)).1, this⟩
  · rintro ⟨i, hi, hc⟩
    apply Classical.byContradiction
    intro hn
    have hall := nodup_all h.1.nodup h.1.mem (by rw [ids, List.length_map]; omega)
    obtain ⟨k, hk, rfl⟩ := List.mem_iff_getElem.1 (hall i hi)
    have h1 := h.1.ahead hu k hk hc
    obtain ⟨j, hj, e⟩ := List.mem_take_iff_getElem.1 h1
    have := List.pairwise_iff_getElem.1 h.1.nodup j k (by omega) hk (by omega)
    exact this e
/-! ### rows that are alike -/
/-- The same nodes have the same order. -/
theorem Cand.same {l' : List Nd} (hm : ∀ n, n ∈ l ↔ n ∈ l') {out : List Int} {i : Int} : Cand l out i ↔ Cand l' out i := by
  constructor
  · rintro ⟨n, hn, h⟩; exact ⟨n, (hm n).1 hn, h⟩
  · rintro ⟨n, hn, h⟩; exact ⟨n, (hm n).2 hn, h⟩
theorem Ends.same {l' : List Nd} (hm : ∀ n, n ∈ l ↔ n ∈ l') {out : List Int} (h : Ends l out) : Ends l' out :=
  ⟨fun k hk => ⟨(Cand.same hm).1 (h.1 k hk).1, fun j hj => (h.1 k hk).2 j ((Cand.same hm).2 hj)⟩, fun i hi => h.2 i ((Cand.same hm).2 hi)⟩
/-- One Dep more. -/
theorem Rch.more {l' : List Nd} {f t : Int} (he : ∀ a b, Edge l' a b ↔ Edge l a b ∨ a = f ∧ b = t) {a b : Int} (h : Rch l' a b) : Rch l a b ∨ (a = f ∨ Rch l a f) ∧ (b = t ∨ Rch l t b) := by
  induction h with
  | one e =>
    rcases (he _ _).1 e with e | ⟨rfl, rfl⟩
    · exact .inl (.one e)
    · exact .inr ⟨.inl rfl, .inl rfl⟩
  | step _ e ih =>
    rcases (he _ _).1 e with e | ⟨rfl, rfl⟩
    · rcases ih with ih | ⟨h1, rfl | h2⟩
      · exact .inl (ih.step e)
      · exact .inr ⟨h1, .inr (.one e)⟩
      · exact .inr ⟨h1, .inr (h2.step e)⟩
    · rcases ih with ih | ⟨h1, _⟩
      · exact .inr ⟨.inr ih, .inl rfl⟩
      · exact .inr ⟨h1, .inl rfl⟩
theorem circle_more {l' : List Nd} {f t : Int} (he : ∀ a b, Edge l' a b ↔ Edge l a b ∨ a = f ∧ b = t) (hno : ∀ i, ¬ Rch l i i) : (∃ i, Rch l' i i) ↔ f = t ∨ Rch l t f := by
  have hm : ∀ a b, Edge l a b → Edge l' a b := fun a b e => (he a b).2 (.inl e)
  have hft : Edge l' f t := (he f t).2 (.inr ⟨rfl, rfl⟩)
  constructor
  · rintro ⟨i, h⟩
    rcases h.more he with h | ⟨rfl | h1, h2⟩
    · exact absurd h (hno i)
    · rcases h2 with h2 | h2
      · exact .inl h2
      · exact .inr h2
    · rcases h2 with rfl | h2
      · exact .inr h1
      · exact .inr (h2.trans h1)
  · rintro (rfl | h)
    · exact ⟨f, .one hft⟩
    · exact ⟨t, (h.mono hm).step hft⟩
/-- A row without somebody for whom nobody waits. -/
theorem Ends.less {l' : List Nd} {s : Int} (h1 : ∀ n, n ∈ l' ↔ n ∈ l ∧ n.id ≠ s) (hs : ∀ a, ¬ Edge l a s) {out : List Int} (h : Ends l out) : Ends l' (out.filter (fun x => decide (x ≠ s))) := by
  have cand : ∀ (p : List Int) i, i ≠ s → (Cand l p i ↔ Cand l' (p.filter (fun x => decide (x ≠ s))) i) := fun p i hi => by
    constructor
    · rintro ⟨n, hn, rfl, hp, hd⟩
      refine ⟨n, (h1 n).2 ⟨hn, hi⟩, rfl, fun hx => hp (List.mem_filter.1 hx).1, fun d hdn => List.mem_filter.2 ⟨hd d hdn, ?_⟩⟩
      exact decide_eq_true fun e => hs n.id ⟨n, hn, rfl, e ▸ hdn⟩
    · rintro ⟨n, hn, rfl, hp, hd⟩
      exact ⟨n, ((h1 n).1 hn).1, rfl, fun hx => hp (List.mem_filter.2 ⟨hx, decide_eq_true hi⟩), fun d hdn => (List.mem_filter.1 (hd d hdn)).1⟩
  have cand2 : ∀ (p : List Int) i, Cand l' p i → i ≠ s := fun p i ⟨n, hn, e, _⟩ => e ▸ ((h1 n).1 hn).2
  refine ⟨?_, fun i hi => h.2 i ((cand out i (cand2 _ _ hi)).2 hi)⟩
  have step : ∀ k, k ≤ out.length → Ord l' ((out.take k).filter (fun x => decide (x ≠ s))) := by
    intro k
    induction k with
    | zero => intro _; exact Ord.nil
    | succ k ih =>
      intro hk
      have p := h.1 k (by omega)
      rw [List.take_succ_eq_append_getElem (by omega), List.filter_append]
      by_cases e : out[k] = s
      · rw [List.filter_cons_of_neg (by simpa using e)]
        simpa using ih (by omega)
      · rw [List.filter_cons_of_pos (by simpa using e)]
        refine (ih (by omega)).snoc ⟨(cand _ _ e).1 p.1, fun j hj => p.2 j ((cand _ _ (cand2 _ _ hj)).2 hj)⟩
  have := step out.length (Nat.le_refl _)
  rwa [List.take_length] at this
end Go.Proofs.Ytceeopjmdfefjaa
