/- The plain law of PeersMeet: majorities meet, over one change too. -/
import Derived.Test.YtdbodnpfeiplgaaPeM
import Derived.Test.YtdbodnpfeiplgaaPeN
import Derived.Test.YtdbodnpfeiplgaaPeC
import Derived.Test.YtdbodnpfeiplgaaPeE
namespace Go.Proofs.Ytdbodnpfeiplgaa
set_option linter.unusedVariables false
theorem cnt_both : ∀ (l a b : List Int), (∀ x ∈ l, ¬ (x ∈ a ∧ x ∈ b)) → cnt l a + cnt l b ≤ l.length
  | [], _, _, _ => by simp [cnt]
  | x :: l, a, b, h => by
    have ih := cnt_both l a b fun y hy => h y (by simp [hy])
    have hx := h x (by simp)
    unfold cnt at *
    simp only [List.filter_cons]
    by_cases h1 : x ∈ a
    · have h2 : x ∉ b := fun h2 => hx ⟨h1, h2⟩
      rw [if_pos (hasL_iff.2 h1), if_neg (by rw [hasL_iff]; exact h2)]
      simp; omega
    · by_cases h2 : x ∈ b
      · rw [if_neg (by rw [hasL_iff]; exact h1), if_pos (hasL_iff.2 h2)]
        simp; omega
      · rw [if_neg (by rw [hasL_iff]; exact h1), if_neg (by rw [hasL_iff]; exact h2)]
        simp; omega
theorem com_of {l a b : List Int} (h : l.length < cnt l a + cnt l b) : comL a b = true := by
  apply Classical.byContradiction
  intro hc
  have := cnt_both l a b fun x hx ⟨h1, h2⟩ => hc (by unfold comL; exact List.any_eq_true.2 ⟨x, h1, hasL_iff.2 h2⟩)
  omega
theorem winsP_iff {l y : List Int} : winsP l y = true ↔ mayP l = true ∧ l.length / 2 + 1 ≤ cnt l y := by
  unfold winsP; simp only [Bool.and_eq_true, decide_eq_true_eq]
theorem cnt_all {l y : List Int} (h : ∀ x ∈ l, x ∈ y) : cnt l y = l.length := by
  unfold cnt
  rw [List.filter_eq_self.2 fun x hx => hasL_iff.2 (h x hx)]
theorem wins_all {l y : List Int} (hm : mayP l = true) (h : ∀ x ∈ l, x ∈ y) : winsP l y = true := by
  have := (mayP_iff.1 hm).2.1
  rw [winsP_iff, cnt_all h]
  exact ⟨hm, by omega⟩
theorem meet1 {l a b : List Int} (ha : winsP l a = true) (hb : winsP l b = true) : comL a b = true := by
  rw [winsP_iff] at ha hb
  exact com_of (l := l) (by omega)
theorem cnt_perm {l m : List Int} (h : l.Perm m) (y : List Int) : cnt l y = cnt m y := (h.filter _).length_eq
theorem addE_iff {l : List Int} {id : Int} : addE l id = 0 ↔ mayP l = true ∧ id ≠ 0 ∧ id ∉ l ∧ l.length < 7 := by
  unfold addE
  by_cases h : mayP l = true ∧ id ≠ 0
  · rw [if_pos h]
    by_cases h2 : hasL l id = true
    · rw [if_pos h2]; simp [hasL_iff.1 h2]
    · rw [if_neg h2]
      rw [hasL_iff] at h2
      by_cases h3 : 7 ≤ l.length
      · rw [if_pos h3]; simp; omega
      · rw [if_neg h3]; simp [h, h2]; omega
  · rw [if_neg h]; simp; intro h1 h2; exact absurd ⟨h1, h2⟩ h
theorem remE_iff {l : List Int} {id : Int} : remE l id = 0 ↔ mayP l = true ∧ id ≠ 0 ∧ id ∈ l ∧ l.length ≠ 1 := by
  unfold remE
  by_cases h : mayP l = true ∧ id ≠ 0
  · rw [if_pos h]
    by_cases h2 : hasL l id = true
    · rw [if_pos h2]
      rw [hasL_iff] at h2
      by_cases h3 : l.length = 1
      · rw [if_pos h3]; simp [h3]
      · rw [if_neg h3]; simp [h, h2, h3]
    · rw [if_neg h2]
      rw [hasL_iff] at h2
      simp [h2]
  · rw [if_neg h]; simp; intro h1 h2; exact absurd ⟨h1, h2⟩ h
theorem add_may {l : List Int} {id : Int} (h0 : 0 ≤ id) (h : addE l id = 0) : mayP (addL l id) = true ∧ (addL l id).Perm (l ++ [id]) := by
  obtain ⟨hm, hid, hn, h7⟩ := addE_iff.1 h
  have hp : (addL l id).Perm (l ++ [id]) := by unfold addL; rw [if_pos h]; exact srt_perm _
  refine ⟨?_, hp⟩
  rw [mayP_iff] at hm ⊢
  have hnd : (addL l id).Nodup := hp.nodup_iff.2 (List.nodup_append.2 ⟨rise_nodup hm.1, by simp, fun x hx y hy e => by
    rw [List.mem_singleton] at hy; exact hn (hy ▸ e ▸ hx)⟩)
  have hs : (addL l id).Pairwise (· ≤ ·) := by unfold addL; rw [if_pos h]; exact srt_sorted _
  refine ⟨rise_of_pairwise ((hs.and hnd).imp fun ⟨h1, h2⟩ => Int.lt_iff_le_and_ne.2 ⟨h1, h2⟩) fun x hx => ?_, ?_, ?_⟩
  · rcases List.mem_append.1 (hp.mem_iff.1 hx) with hx | hx
    · exact rise_lt hm.1 hx
    · rw [List.mem_singleton] at hx; omega
  · rw [hp.length_eq]; simp
  · rw [hp.length_eq]; simp; omega
theorem mem_wo {l : List Int} {id x : Int} : x ∈ wo l id ↔ x ∈ l ∧ x ≠ id := by unfold wo; simp
theorem rem_may {l : List Int} {id : Int} (h : remE l id = 0) : mayP (remL l id) = true ∧ remL l id = wo l id ∧ (wo l id).length + 1 = l.length := by
  obtain ⟨hm, hid, hn, h1⟩ := remE_iff.1 h
  rw [mayP_iff] at hm
  have e : remL l id = wo l id := by unfold remL; rw [if_pos h]
  have hl := wo_one (rise_nodup hm.1) hn
  refine ⟨?_, e, hl⟩
  rw [e, mayP_iff]
  refine ⟨rise_of_pairwise ((rise_pairwise hm.1).filter _) fun x hx => rise_lt hm.1 (mem_wo.1 hx).1, by omega, by omega⟩
/-- One more. -/
theorem meet_add {l : List Int} {id : Int} (h0 : 0 ≤ id) (h : addE l id = 0) : mayP (addL l id) = true ∧ (∀ a b, winsP l a = true → winsP (addL l id) b = true → comL a b = true) ∧
    remE (addL l id) id = 0 ∧ (remL (addL l id) id).length = l.length ∧ winsP l (remL (addL l id) id) = true := by
  obtain ⟨hm, hp⟩ := add_may h0 h
  obtain ⟨hml, hid, hn, h7⟩ := addE_iff.1 h
  have hln : (addL l id).length = l.length + 1 := by rw [hp.length_eq]; simp
  have hl1 := (mayP_iff.1 hml).2.1
  have hr : remE (addL l id) id = 0 := remE_iff.2 ⟨hm, hid, hp.mem_iff.2 (by simp), by omega⟩
  obtain ⟨-, e, hlen⟩ := rem_may hr
  refine ⟨hm, fun a b ha hb => ?_, hr, by rw [e]; omega, wins_all hml fun x hx => ?_⟩
  · rw [winsP_iff] at ha hb
    rw [hln, cnt_perm hp, cnt_snoc] at hb
    refine com_of (l := l) ?_
    have : cnt l b + 1 ≥ (l.length + 1) / 2 + 1 := by
      have := hb.2
      split at this <;> omega
    omega
  · rw [e, mem_wo]
    exact ⟨hp.mem_iff.2 (by simp [hx]), fun e => hn (e ▸ hx)⟩
/-- One less. -/
theorem meet_rem {l : List Int} {id : Int} (h0 : 0 ≤ id) (h : remE l id = 0) : mayP (remL l id) = true ∧ (∀ a b, winsP l a = true → winsP (remL l id) b = true → comL a b = true) ∧
    addE (remL l id) id = 0 ∧ (addL (remL l id) id).length = l.length ∧ winsP l (addL (remL l id) id) = true := by
  obtain ⟨hm, e, hlen⟩ := rem_may h
  obtain ⟨hml, hid, hn, h1⟩ := remE_iff.1 h
  have h7 := (mayP_iff.1 hml).2.2
  have ha : addE (remL l id) id = 0 := addE_iff.2 ⟨hm, hid, by rw [e, mem_wo]; exact fun h => h.2 rfl, by rw [e]; omega⟩
  obtain ⟨-, hp⟩ := add_may h0 ha
  refine ⟨hm, fun a b hw hb => ?_, ha, by rw [hp.length_eq, e]; simp; omega, wins_all hml fun x hx => ?_⟩
  · rw [winsP_iff] at hw hb
    have hc : cnt (remL l id) b ≤ cnt l b := by
      rw [e]
      unfold cnt wo
      exact ((List.filter_sublist (l := l)).filter _).length_le
    rw [e] at hb
    rw [e] at hc
    exact com_of (l := l) (by omega)
  · rw [hp.mem_iff, e]
    by_cases hx2 : x = id
    · simp [hx2]
    · simp [mem_wo, hx, hx2]
end Go.Proofs.Ytdbodnpfeiplgaa
