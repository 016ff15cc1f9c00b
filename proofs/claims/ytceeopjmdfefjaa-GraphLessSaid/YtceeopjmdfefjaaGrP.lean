/- The plain law of GraphOrder and GraphLess. -/
import Derived.Test.YtceeopjmdfefjaaGrN
namespace Go.Proofs.Ytceeopjmdfefjaa
set_option linter.unusedVariables false
variable {l : List Nd}
open Classical in
theorem rchB_iff {a b : Int} (h : l.length ≤ 64) : rchB l a b = true ↔ Rch l a b := by
  unfold rchB
  rw [decide_eq_true_iff]
  exact ⟨fun h => h.2, fun h2 => ⟨h, h2⟩⟩
open Classical in
theorem rchB_no {a b : Int} (h : ¬ Rch l a b) : rchB l a b = false := by
  unfold rchB
  rw [decide_eq_false_iff_not]
  exact fun h2 => h h2.2
/-! ### orders -/
theorem order_circle (h : mayE l = 131) : ∃ i, ∃ (hi : i < l.length), rchB l l[i].id l[i].id = true := by
  have hf := fine_of (.inr h)
  rw [mayE_fine hf] at h
  split at h
  · rename_i h2
    obtain ⟨i, hi, hr⟩ := h2
    obtain ⟨n, hn, rfl⟩ := mem_ids.1 hi
    obtain ⟨k, hk, rfl⟩ := List.mem_iff_getElem.1 hn
    exact ⟨k, hk, (rchB_iff hf.long).2 hr⟩
  · omega
theorem order_whole (h : mayE l = 0) {o : List Int} (ho : Ends l o) : o.length = l.length := by
  have hf := (mayE_ok.1 h).1
  rw [mayE_ends hf ho] at h
  have := ho.1.le
  split at h <;> omega
theorem order_behind (h : mayE l = 0) {o : List Int} (ho : Ends l o) (i k : Nat) (hi : i ≤ k) (hk : k < o.length) : rchB l o[i] o[k] = false := by
  have hf := (mayE_ok.1 h).1
  refine rchB_no fun hr => ?_
  have h1 := ho.1.ahead hf.once i (by omega) hr
  obtain ⟨j, hj, e⟩ := List.mem_take_iff_getElem.1 h1
  have := List.pairwise_iff_getElem.1 ho.1.nodup j k (by omega) hk (by omega)
  exact this e
theorem order_once {o : List Int} (ho : Ends l o) (i k : Nat) (hi : i < k) (hk : k < o.length) : o[i] ≠ o[k] := List.pairwise_iff_getElem.1 ho.1.nodup i k (by omega) hk hi
/-- One Dep more. -/
def oneMore (l : List Nd) (f : Nat) (d : Int) : List Nd := l.modify f fun n => ⟨n.id, n.deps ++ [d]⟩
theorem oneMore_ids (f : Nat) (d : Int) : ids (oneMore l f d) = ids l := by
  unfold ids oneMore
  refine List.ext_getElem (by simp) fun i h1 h2 => ?_
  simp only [List.getElem_map, List.getElem_modify]
  split <;> rfl
theorem oneMore_len (f : Nat) (d : Int) : (oneMore l f d).length = l.length := by simp [oneMore]
theorem oneMore_edge (f : Nat) (hf : f < l.length) (d : Int) (a b : Int) : Edge (oneMore l f d) a b ↔ Edge l a b ∨ a = l[f].id ∧ b = d := by
  constructor
  · intro h
    obtain ⟨j, hj, e1, e2⟩ := edge_get h
    rw [oneMore_len] at hj
    simp only [oneMore, List.getElem_modify] at e1 e2
    by_cases e : f = j
    · subst e
      rw [if_pos rfl] at e1 e2
      rcases List.mem_append.1 e2 with e2 | e2
      · exact .inl ⟨l[f], List.getElem_mem _, e1, e2⟩
      · rw [List.mem_singleton] at e2
        exact .inr ⟨e1.symm, e2⟩
    · rw [if_neg e] at e1 e2
      exact .inl ⟨l[j], List.getElem_mem _, e1, e2⟩
  · have key : ∀ j (hj : j < l.length) x, (x ∈ l[j].deps ∨ f = j ∧ x = d) → Edge (oneMore l f d) l[j].id x := fun j hj x hx => by
      refine ⟨(oneMore l f d)[j]'(by rw [oneMore_len]; exact hj), List.getElem_mem _, ?_, ?_⟩
      · simp only [oneMore, List.getElem_modify]
        split <;> rfl
      · simp only [oneMore, List.getElem_modify]
        by_cases e : f = j
        · rw [if_pos e]
          rcases hx with hx | ⟨_, rfl⟩
          · exact List.mem_append_left _ hx
          · simp
        · rw [if_neg e]
          rcases hx with hx | ⟨e2, _⟩
          · exact hx
          · exact absurd e2 e
    rintro (h | ⟨rfl, rfl⟩)
    · obtain ⟨j, hj, rfl, e2⟩ := edge_get h
      exact key j hj b (.inl e2)
    · exact key f hf b (.inr ⟨rfl, rfl⟩)
theorem order_more (h : mayE l = 0) (f t : Nat) (hf : f < l.length) (ht : t < l.length) (h3 : mayE (oneMore l f l[t].id) ≠ 3) (h4 : mayE (oneMore l f l[t].id) ≠ 130) :
    decide (mayE (oneMore l f l[t].id) = 0) = (decide (f ≠ t) && !rchB l l[t].id l[f].id) := by
  obtain ⟨hfi, hno⟩ := mayE_ok.1 h
  have hthere : ∀ n ∈ oneMore l f l[t].id, ∀ d ∈ n.deps, d ∈ ids (oneMore l f l[t].id) := fun n hn d hd => by
    rw [oneMore_ids]
    rcases (oneMore_edge f hf _ n.id d).1 ⟨n, hn, rfl, hd⟩ with ⟨m, hm, _, hd2⟩ | ⟨_, rfl⟩
    · exact hfi.there m hm d hd2
    · exact mem_ids.2 ⟨l[t], List.getElem_mem _, rfl⟩
  have hfine : Fine (oneMore l f l[t].id) := by
    have hx : mayE (oneMore l f l[t].id) = 0 ∨ mayE (oneMore l f l[t].id) = 131 := by
      unfold mayE at h3 h4 ⊢
      by_cases c1 : 64 < (oneMore l f l[t].id).length
      · rw [if_pos c1] at h3; exact absurd rfl h3
      rw [if_neg c1] at h3 h4 ⊢
      by_cases c2 : ∃ n ∈ oneMore l f l[t].id, 8 < n.deps.length
      · rw [if_pos c2] at h3; exact absurd rfl h3
      rw [if_neg c2] at h3 h4 ⊢
      by_cases c3 : ¬ ((ids (oneMore l f l[t].id)).Nodup ∧ ∀ n ∈ oneMore l f l[t].id, n.deps.Nodup)
      · rw [if_pos c3] at h4; exact absurd rfl h4
      rw [if_neg c3, if_neg (fun h5 => h5 hthere)]
      split
      · exact .inr rfl
      · exact .inl rfl
    exact fine_of hx
  have hc := circle_more (l := l) (fun a b => oneMore_edge f hf l[t].id a b) hno
  have hft : l[f].id = l[t].id ↔ f = t := ⟨fun e => by
    have h1 := hfi.once
    have := List.pairwise_iff_getElem.1 h1
    rcases Nat.lt_trichotomy f t with h2 | h2 | h2
    · exact absurd (by simpa [ids] using e) (this f t (by simpa [ids] using hf) (by simpa [ids] using ht) h2)
    · exact h2
    · exact absurd (by simpa [ids] using e.symm) (this t f (by simpa [ids] using ht) (by simpa [ids] using hf) h2), fun e => by subst e; rfl⟩
  have key : mayE (oneMore l f l[t].id) = 0 ↔ f ≠ t ∧ ¬ Rch l l[t].id l[f].id := by
    rw [mayE_ok]
    constructor
    · rintro ⟨_, hn⟩
      refine ⟨fun e => ?_, fun hr => ?_⟩
      · obtain ⟨i, hi⟩ := hc.2 (.inl (hft.2 e))
        exact hn i hi
      · obtain ⟨i, hi⟩ := hc.2 (.inr hr)
        exact hn i hi
    · rintro ⟨h1, h2⟩
      refine ⟨hfine, fun i hi => ?_⟩
      rcases hc.1 ⟨i, hi⟩ with e | e
      · exact h1 (hft.1 e)
      · exact h2 e
  by_cases e1 : f = t
  · rw [decide_eq_false (fun h5 => (key.1 h5).1 e1), decide_eq_false (fun h5 => h5 e1)]
    rfl
  by_cases e2 : Rch l l[t].id l[f].id
  · rw [decide_eq_false (fun h5 => (key.1 h5).2 e2), (rchB_iff hfi.long).2 e2]
    simp
  · rw [decide_eq_true (key.2 ⟨e1, e2⟩), decide_eq_true e1, rchB_no e2]
    rfl
/-! ### rows that are alike -/
theorem mayE_same {l' : List Nd} (hlen : l'.length = l.length) (hm : ∀ n, n ∈ l' ↔ n ∈ l) (hnd : (ids l').Nodup ↔ (ids l).Nodup) (h : mayE l = 0) : mayE l' = 0 := by
  obtain ⟨hf, hn⟩ := mayE_ok.1 h
  have he : ∀ a b, Edge l' a b → Edge l a b := fun a b ⟨n, h1, h2⟩ => ⟨n, (hm n).1 h1, h2⟩
  refine mayE_ok.2 ⟨⟨by rw [hlen]; exact hf.long, fun n h1 => hf.deps n ((hm n).1 h1), hnd.2 hf.once, fun n h1 => hf.each n ((hm n).1 h1), fun n h1 d hd => ?_⟩, fun i hi => hn i (hi.mono he)⟩
  obtain ⟨m, h2, h3⟩ := mem_ids.1 (hf.there n ((hm n).1 h1) d hd)
  exact mem_ids.2 ⟨m, (hm m).2 h2, h3⟩
theorem back_may (h : mayE l = 0) : mayE l.reverse = 0 := mayE_same (by simp) (by simp) (by rw [ids, List.map_reverse]; exact (List.reverse_perm _).nodup_iff) h
theorem back_order {o p : List Int} (ho : Ends l o) (hp : Ends l.reverse p) : o = p := ho.eq (hp.same (by simp))
theorem users_reach (h : mayE l = 0) {s : Int} {us : List Int} (hu : Usr l s us) (u : Int) (hm : u ∈ us) : rchB l u s = true ∧ rchB l s u = false := by
  obtain ⟨hf, hn⟩ := mayE_ok.1 h
  have e := (hu.2 u).1 hm
  exact ⟨(rchB_iff hf.long).2 (.one e), rchB_no fun hr => hn s (hr.step e)⟩
theorem erase_mem (hu : (ids l).Nodup) (at_ : Nat) (ha : at_ < l.length) (n : Nd) : n ∈ l.take at_ ++ l.drop (at_ + 1) ↔ n ∈ l ∧ n.id ≠ l[at_].id := by
  have hp := List.pairwise_iff_getElem.1 hu
  have ne : ∀ i j (hi : i < l.length) (hj : j < l.length), i ≠ j → l[i].id ≠ l[j].id := fun i j hi hj hij e => by
    rcases Nat.lt_or_gt_of_ne hij with h2 | h2
    · exact hp i j (by simpa [ids] using hi) (by simpa [ids] using hj) h2 (by simpa [ids] using e)
    · exact hp j i (by simpa [ids] using hj) (by simpa [ids] using hi) h2 (by simpa [ids] using e.symm)
  rw [List.mem_append]
  constructor
  · rintro (h | h)
    · obtain ⟨j, hj, rfl⟩ := List.mem_take_iff_getElem.1 h
      exact ⟨List.getElem_mem _, ne _ _ (by omega) ha (by omega)⟩
    · obtain ⟨j, hj, rfl⟩ := List.mem_drop_iff_getElem.1 h
      exact ⟨List.getElem_mem _, ne _ _ (by omega) ha (by omega)⟩
  · rintro ⟨h, hne⟩
    obtain ⟨j, hj, rfl⟩ := List.mem_iff_getElem.1 h
    rcases Nat.lt_trichotomy j at_ with h2 | h2 | h2
    · exact .inl (List.mem_take_iff_getElem.2 ⟨j, by omega, rfl⟩)
    · subst h2; exact absurd rfl hne
    · exact .inr (List.mem_drop_iff_getElem.2 ⟨j - (at_ + 1), by omega, by congr 1; omega⟩)
theorem less_may (h : mayE l = 0) (at_ : Nat) (ha : at_ < l.length) (hs : ∀ a, ¬ Edge l a l[at_].id) : mayE (l.take at_ ++ l.drop (at_ + 1)) = 0 := by
  obtain ⟨hf, hn⟩ := mayE_ok.1 h
  have hm := erase_mem hf.once at_ ha
  refine mayE_ok.2 ⟨⟨?_, fun n h1 => hf.deps n ((hm n).1 h1).1, ?_, fun n h1 => hf.each n ((hm n).1 h1).1, fun n h1 d hd => ?_⟩, fun i hi => hn i (hi.mono fun a b ⟨n, h1, h2⟩ => ⟨n, ((hm n).1 h1).1, h2⟩)⟩
  · have := hf.long
    rw [List.length_append, List.length_take, List.length_drop]
    omega
  · refine List.Nodup.sublist (List.Sublist.map _ ?_) hf.once
    have h1 := List.Sublist.append_left (List.drop_sublist 1 (l.drop at_)) (l.take at_)
    rw [List.drop_drop, List.take_append_drop] at h1
    exact h1
  · obtain ⟨m, h2, h3⟩ := mem_ids.1 (hf.there n ((hm n).1 h1).1 d hd)
    refine mem_ids.2 ⟨m, (hm m).2 ⟨h2, fun e => hs n.id ⟨n, ((hm n).1 h1).1, rfl, ?_⟩⟩, h3⟩
    rw [← e, h3]
    exact hd
theorem less_order (h : mayE l = 0) (at_ : Nat) (ha : at_ < l.length) (hs : ∀ a, ¬ Edge l a l[at_].id) {o q : List Int} (ho : Ends l o) (hq : Ends (l.take at_ ++ l.drop (at_ + 1)) q) : q = o.filter (fun x => decide (x ≠ l[at_].id)) :=
  hq.eq (ho.less (erase_mem (mayE_ok.1 h).1.once at_ ha) hs)
end Go.Proofs.Ytceeopjmdfefjaa
