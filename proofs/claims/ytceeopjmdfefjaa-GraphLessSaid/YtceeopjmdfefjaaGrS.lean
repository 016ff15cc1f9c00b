/- Rows that are sorted and made compact; contracts: slices.Compact of a row of the call's own; graph.twice; the reference's twice and place. -/
import Derived.Test.YtceeopjmdfefjaaGrW
import Derived.Test.YtceeopjmdfefjaaItV
import Derived.Test.YtceeopjmdfefjaaItP
namespace Go.Proofs.Ytceeopjmdfefjaa
set_option linter.unusedVariables false
open Go.RowKit Go.Sort
/-! ### plain -/
theorem compact_upto (zs : List Int) (hs : zs.Pairwise (· ≤ ·)) : ∀ m, m ≤ zs.length → (Lib.compactUpTo zs.toArray m).Pairwise (· < ·) ∧ ∀ x, x ∈ Lib.compactUpTo zs.toArray m ↔ x ∈ zs.take m := by
  intro m
  induction m with
  | zero => intro _; simp [Lib.compactUpTo]
  | succ m ih =>
    intro hm
    obtain ⟨h1, h2⟩ := ih (by omega)
    have hd : ∀ j (hj : j < zs.length), zs.toArray[j]! = zs[j] := fun j hj => by simp [hj]
    have hp := List.pairwise_iff_getElem.1 hs
    rw [Lib.compactUpTo_succ, List.take_succ_eq_append_getElem (by omega)]
    by_cases hk : Lib.keeps zs.toArray m = true
    · rw [if_pos hk, hd m (by omega)]
      refine ⟨List.pairwise_append.2 ⟨h1, by simp, fun x hx y hy => ?_⟩, fun x => by rw [List.mem_append, List.mem_append, h2 x]⟩
      rw [List.mem_singleton] at hy
      subst hy
      obtain ⟨j, hj, rfl⟩ := List.mem_take_iff_getElem.1 ((h2 x).1 hx)
      have hm0 : m ≠ 0 := by omega
      have hne : zs[m] ≠ zs[m - 1] := by
        unfold Lib.keeps at hk
        have := of_decide_eq_true hk
        rw [hd m (by omega), hd (m - 1) (by omega)] at this
        rcases this with h | h
        · exact absurd h hm0
        · exact h
      have hle : zs[m - 1] ≤ zs[m] := hp (m - 1) m (by omega) (by omega) (by omega)
      have hj2 : zs[j] ≤ zs[m - 1] := by
        by_cases e : j = m - 1
        · subst e; exact Int.le_refl _
        · exact hp j (m - 1) (by omega) (by omega) (by omega)
      omega
    · rw [if_neg hk, List.append_nil]
      refine ⟨h1, fun x => ?_⟩
      rw [h2 x, List.mem_append, List.mem_singleton]
      refine ⟨.inl, fun h => ?_⟩
      rcases h with h | rfl
      · exact h
      · have : ¬ (m = 0 ∨ zs.toArray[m]! ≠ zs.toArray[m - 1]!) := fun h => hk (decide_eq_true h)
        rw [hd m (by omega), hd (m - 1) (by omega)] at this
        have hm0 : m ≠ 0 := fun e => this (.inl e)
        have he : zs[m] = zs[m - 1] := Classical.byContradiction fun e => this (.inr e)
        rw [he]
        exact List.mem_take_iff_getElem.2 ⟨m - 1, by omega, rfl⟩
theorem compact_rise (zs : List Int) (hs : zs.Pairwise (· ≤ ·)) : (Lib.compact zs).Pairwise (· < ·) := (compact_upto zs hs zs.length (Nat.le_refl _)).1
theorem compact_mem (zs : List Int) (hs : zs.Pairwise (· ≤ ·)) (x : Int) : x ∈ Lib.compact zs ↔ x ∈ zs := by
  have := (compact_upto zs hs zs.length (Nat.le_refl _)).2 x
  rwa [List.take_length] at this
theorem compact_sub (zs : List Int) : (Lib.compact zs).Sublist zs := by
  have h : ((List.range zs.length).map (zs.toArray[·]!)) = zs := by
    have := Lib.range_map_get zs.toArray
    simpa using this
  have h2 : (Lib.compact zs).Sublist ((List.range zs.length).map (zs.toArray[·]!)) := (List.filter_sublist).map _
  rwa [h] at h2
theorem compact_len (zs : List Int) : (Lib.compact zs).length ≤ zs.length := (compact_sub zs).length_le
/-- A row's numbers, rising, each once. -/
def setL (l : List Int) : List Int := Lib.compact (srt l)
theorem setL_rise (l : List Int) : (setL l).Pairwise (· < ·) := compact_rise _ (srt_le l)
theorem setL_mem (l : List Int) (x : Int) : x ∈ setL l ↔ x ∈ l := (compact_mem _ (srt_le l) x).trans (srt_mem l x)
theorem setL_len (l : List Int) : (setL l).length ≤ l.length := by
  have := compact_len (srt l)
  rw [srt_len] at this
  exact this
theorem setL_short (l : List Int) : decide ((setL l).length < l.length) = !decide l.Nodup := by
  by_cases h : l.Nodup
  · rw [decide_eq_true h]
    refine decide_eq_false fun h2 => ?_
    have := nodup_le h (ys := setL l) fun x hx => (setL_mem l x).2 hx
    omega
  · rw [decide_eq_false h]
    refine decide_eq_true ?_
    apply Classical.byContradiction
    intro h2
    have e : setL l = srt l := (compact_sub (srt l)).eq_of_length (by
      have := setL_len l
      have h3 := srt_len l
      show (setL l).length = _
      omega)
    have h4 := rise_nodup (setL_rise l)
    rw [e] at h4
    exact h ((srt_perm l).nodup_iff.1 h4)
/-! ### contracts -/
theorem own_take {base : Nat} {w : World} {B : Option Addr} {d : Nat} {xs : List Int} (h : OwnU base w B d xs) (m : Nat) (hm : m ≤ xs.length) : OwnU base w B d (xs.take m) := by
  have hl : (xs.take m).length = m := by rw [List.length_take]; omega
  unfold OwnU
  rw [hl]
  refine ⟨by simp; omega, ?_⟩
  rcases h.2 with ⟨e, e0⟩ | ⟨g, cap, cur, e, h1, h2, h3, h4, h5, h6⟩
  · injection e with e1 e2 e3
    subst e1 e3
    obtain rfl : m = 0 := by omega
    exact .inl ⟨rfl, rfl⟩
  · injection e with e1 e2 e3
    subst e1 e3
    refine .inr ⟨g, d, cur, rfl, h1, h2, by omega, h4, h5, ?_⟩
    have : cur.toList.take (m * 1) = (cur.toList.take (xs.length * 1)).take m := by rw [List.take_take]; congr 1; omega
    rw [this, h6, List.map_take]
theorem compact_own (base : Nat) (B : Option Addr) (cap : Nat) (l : List Int) (w : World) (hown : OwnU base w B cap l) (hlen : l.length ≤ 1000000000) :
    Calls Try.prog 24 #[.slice B l.length cap] w fun e w' =>
      e = .returned (.slice B (Lib.compact l).length cap) ∧ OwnU base w' B cap (Lib.compact l) ∧ w.grownBy w' (Value.ownBlock (.slice B l.length cap)) := by
  rcases hown.2 with ⟨hv, hn⟩ | ⟨g, cap', cur, hv, hbase, hb, h1, h2, h3, h4⟩
  · injection hv with e1 e2 e3
    have hl : l = [] := List.length_eq_zero_iff.1 hn
    subst hl
    refine (compactQ_empty B cap w).mono ?_
    rintro e w' ⟨he, rfl⟩
    exact ⟨he, by simpa [Lib.compact, Lib.compactUpTo] using hown, World.grownBy.refl _ _⟩
  injection hv with e1 e2 e3
  subst e1 e3
  have hH := holdsU_of_block (ss := l) hb (by simpa using h4)
  refine (compactQ g 0 cap l w hH (by omega) h1).mono ?_
  rintro e w' ⟨he, n, rfl⟩
  have hcl := compact_len l
  obtain ⟨ts, hts⟩ : ∃ ts, Lib.compact l ++ List.replicate (l.length - (Lib.compact l).length) 0 = ts := ⟨_, rfl⟩
  have htl : ts.length = l.length := by rw [← hts]; simp; omega
  rw [hts]
  have G := ownsRowU_sorted (n := n) (os := #[]) (ss := l) (ts := ts) htl hbase hb h1 h2 h3
  have K := grownByU_sorted (w := w) (g := g) (n := n) (os := #[]) ts.toArray
  simp only [grow_empty] at G K
  refine ⟨he, ?_, K⟩
  have G2 : OwnU base (putRow (Value.int .u64) (Sort.ahead w n) g 0 ts.toArray) (some ⟨g, 0, none⟩) cap ts := by unfold OwnU; rw [htl]; exact G
  have := own_take G2 (Lib.compact l).length (by omega)
  have e2 : ts.take (Lib.compact l).length = Lib.compact l := by rw [← hts, List.take_left' rfl]
  rwa [e2] at this
theorem twice_any (A : Option Addr) (c : Nat) (l : List Int) (hl : l.length ≤ 1000000) (w : World) (hs : Sl w .u64 A l) :
    Calls Try.prog 19 #[.slice A l.length c] w fun e w' => e = .returned (.bool (!decide l.Nodup)) ∧ Below w.heap.size w w' := by
  have C1 := Lib.hid (it_values A l.length c w)
  have C2 := Lib.hid (sorted_values A c l hl w hs)
  have hsh := setL_short l
  go_enter Try.func19, Try.ntmps19
  go_wp2_with fail
  refine C1.out.mono ?_
  rintro e w1 ⟨rfl, rfl⟩
  go_wp2_with fail
  refine C2.out.mono ?_
  rintro e w2 ⟨B, d, rfl, hown, hb⟩
  have C3 := compact_own w.heap.size B d (srt l) w2 hown (by rw [srt_len]; omega)
  rw [srt_len] at C3
  have C3 := Lib.hid C3
  have HB := Lib.hid hb
  have HSH := Lib.hid hsh
  clear hown hb hsh C1 C2 hs
  go_wp2_with fail
  refine C3.out.mono ?_
  rintro e w3 ⟨rfl, hown3, hg⟩
  have hb3 : Below w.heap.size w w3 := HB.out.grown hg HB.out.size (fun k hk => OwnU.base_ (n := 0) hown3 (by
    cases B with
    | none => cases hk
    | some a => exact hk))
  have HB3 := Lib.hid hb3
  obtain ⟨q, hq⟩ : ∃ q, (Lib.compact (srt l)).length = q := ⟨_, rfl⟩
  have e2 : decide (q < l.length) = !decide l.Nodup := by rw [← hq]; exact HSH.out
  have E2 := Lib.hid e2
  rw [hq]
  clear hown3 hg hb3 hq e2 HSH
  go_wp2_with fail
  go_ret
  refine ⟨?_, HB3.out⟩
  rw [← E2.out]
  simp
end Go.Proofs.Ytceeopjmdfefjaa
