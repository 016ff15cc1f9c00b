/- Contract of the reference's Add. -/
import Derived.Test.YtdbodnpfeiplgaaPeE
import Derived.Test.YtdbodnpfeiplgaaPeN
namespace Go.Proofs.Ytdbodnpfeiplgaa
set_option linter.unusedVariables false
open Go.RowKit

theorem refAdd_bad (A : Option Addr) (c : Nat) (l : List Int) (id : Int) (w : World) (h : Sl w .u64 A l) (hl : l.length ≤ 1000000) (hp : ∀ x ∈ l, 0 ≤ x) (hb : ¬ (mayP l = true ∧ id ≠ 0)) :
    Calls Try.prog 14 #[.slice A l.length c, .int .u64 id] w fun e w' => e = .returned (.tuple #[.slice none 0 0, .int .i64 2]) ∧ ∃ q, w' = w.drewN q := by
  have C := refMay_any A c l w h (by omega) hp
  by_cases hm : mayP l = true
  · have hid : id = 0 := Classical.byContradiction fun hne => hb ⟨hm, hne⟩
    subst hid
    rw [hm] at C
    have C := Lib.hid C
    clear hb hm
    go_enter Try.func14, Try.ntmps14
    go_wp2_with fail
    refine C.out.mono ?_
    rintro e w1 ⟨rfl, q, rfl⟩
    go_wp2_with fail
    go_ret2
    exact ⟨rfl, q, rfl⟩
  · rw [Bool.not_eq_true] at hm
    rw [hm] at C
    have C := Lib.hid C
    clear hb hm
    go_enter Try.func14, Try.ntmps14
    go_wp2_with fail
    refine C.out.mono ?_
    rintro e w1 ⟨rfl, q, rfl⟩
    go_wp2_with fail
    go_ret2
    exact ⟨rfl, q, rfl⟩

theorem refAdd_twice (A : Option Addr) (c : Nat) (l : List Int) (id : Int) (w : World) (h : Sl w .u64 A l) (hl : l.length ≤ 1000000) (hp : ∀ x ∈ l, 0 ≤ x) (hm : mayP l = true) (h0 : id ≠ 0) (hh : hasL l id = true) :
    Calls Try.prog 14 #[.slice A l.length c, .int .u64 id] w fun e w' => e = .returned (.tuple #[.slice none 0 0, .int .i64 130]) ∧ ∃ q, w' = w.drewN q := by
  have C := refMay_any A c l w h (by omega) hp
  have D := fun W (hW : Sl W .u64 A l) => refHas_any A c l id W hW (by omega)
  rw [hm] at C
  rw [hh] at D
  have C := Lib.hid C
  have D := Lib.hid D
  have b0 : (id == 0) = false := beq_eq_false_iff_ne.2 h0
  have H := Lib.hid h
  clear hm hh h0 h
  go_enter Try.func14, Try.ntmps14
  go_wp2_with fail
  refine C.out.mono ?_
  rintro e w1 ⟨rfl, q, rfl⟩
  go_wp2_with fail
  refine (D.out _ (H.out.drewN q)).mono ?_
  rintro e w1 ⟨rfl, rfl⟩
  go_wp2_with fail
  go_ret2
  exact ⟨rfl, q, rfl⟩

theorem refAdd_full (A : Option Addr) (c : Nat) (l : List Int) (id : Int) (w : World) (h : Sl w .u64 A l) (hp : ∀ x ∈ l, 0 ≤ x) (hm : mayP l = true) (h0 : id ≠ 0) (hh : hasL l id = false) (h7 : l.length = 7) :
    Calls Try.prog 14 #[.slice A l.length c, .int .u64 id] w fun e w' => e = .returned (.tuple #[.slice none 0 0, .int .i64 6]) ∧ ∃ q, w' = w.drewN q := by
  have C := refMay_any A c l w h (by omega) hp
  have D := fun W (hW : Sl W .u64 A l) => refHas_any A c l id W hW (by omega)
  rw [hm] at C
  rw [hh] at D
  have C := Lib.hid C
  have D := Lib.hid D
  have b0 : (id == 0) = false := beq_eq_false_iff_ne.2 h0
  have b7 : ((l.length : Int) == 7) = true := by rw [h7]; rfl
  have H := Lib.hid h
  clear hm hh h0 h h7
  go_enter Try.func14, Try.ntmps14
  go_wp2_with fail
  refine C.out.mono ?_
  rintro e w1 ⟨rfl, q, rfl⟩
  go_wp2_with fail
  refine (D.out _ (H.out.drewN q)).mono ?_
  rintro e w1 ⟨rfl, rfl⟩
  go_wp2_with fail
  go_ret2
  exact ⟨rfl, q, rfl⟩

set_option maxHeartbeats 1000000 in
theorem refAdd_ok (A : Option Addr) (c : Nat) (l : List Int) (id : Int) (w : World) (h : Sl w .u64 A l) (hp : ∀ x ∈ l, 0 ≤ x) (hm : mayP l = true) (h0 : id ≠ 0) (hh : hasL l id = false) (h7 : l.length < 7) :
    Calls Try.prog 14 #[.slice A l.length c, .int .u64 id] w fun e w' => ∃ B d, e = .returned (.tuple #[.slice B (srt (l ++ [id])).length d, .int .i64 0]) ∧ OwnU w.heap.size w' B d (srt (l ++ [id])) ∧ Below w.heap.size w w' := by
  have hins := insF_srt id l (rise_pairwise (mayP_iff.1 hm).1) (hasL_false.1 hh)
  have C := refMay_any A c l w h (by omega) hp
  have D := fun W (hW : Sl W .u64 A l) => refHas_any A c l id W hW (by omega)
  rw [hm] at C
  rw [hh] at D
  have C := Lib.hid C
  have D := Lib.hid D
  have HI := Lib.hid hins
  have b0 : (id == 0) = false := beq_eq_false_iff_ne.2 h0
  have b7 : ((l.length : Int) == 7) = false := by rw [beq_eq_false_iff_ne]; omega
  have H := Lib.hid h
  clear hm hh h0 h hins
  go_enter Try.func14, Try.ntmps14
  go_wp2_with fail
  refine C.out.mono ?_
  rintro e w1 ⟨rfl, q, rfl⟩
  go_wp2_with fail
  refine (D.out _ (H.out.drewN q)).mono ?_
  rintro e w1 ⟨rfl, rfl⟩
  go_wp2_with fail
  go_loopw [6, 7, 8] (fun v p i wr => ∃ (k : Nat) (B : Option Addr) (d : Nat), k ≤ l.length ∧ i = .int .i64 k ∧ p = .bool (insS id (l.take k)).2 ∧ v = .slice B (insS id (l.take k)).1.length d ∧ OwnU w.heap.size wr B d (insS id (l.take k)).1 ∧ Below w.heap.size w wr)
    (fun _ _ i _ => l.length - (intOf i).toNat)
  case atStart => exact ⟨0, none, 0, by omega, rfl, rfl, rfl, OwnU.nil _ _, below_drewN (Below.refl _ _) _⟩
  case round =>
    obtain ⟨k, B, d, hk, rfl, rfl, rfl, hown, hnx⟩ := hrel
    have HO := Lib.hid hown
    have HN := Lib.hid hnx
    have hz := hnx.size
    have hlen := (insS_len id l k hk).1
    clear hown hnx
    by_cases hlt : k < l.length
    · obtain ⟨ad, rfl, hb, hc0⟩ := H.out k hlt
      have hc := (HN.out.cell (p := ad.add k) (by rw [add_block]; exact hb)).trans hc0
      have hs : insS id (l.take (k + 1)) = insStep id (insS id (l.take k)) l[k] := by rw [List.take_succ_eq_append_getElem hlt, insS_snoc]
      obtain ⟨x, hx⟩ : ∃ x, l[k] = x := ⟨_, rfl⟩
      rw [hx] at hc hs
      clear hc0 hx
      generalize insS id (l.take k) = s at *
      obtain ⟨o, p⟩ := s
      have HS := Lib.hid hs; clear hs
      simp only at HO hlen ⊢
      by_cases hid : p = false ∧ id < x
      · obtain ⟨rfl, hid⟩ := hid
        have e1 : insStep id (o, false) x = (o ++ [id] ++ [x], true) := by unfold insStep; rw [if_pos ⟨rfl, hid⟩]
        have E1 := Lib.hid e1; clear e1
        go_wp2_with (at_builtin; refine app1U rfl _ _ rfl w.heap.size B _ d o id rfl rfl HO.out rfl hz (by omega) ?_)
        intro B1 d1 w2 hown2 hgrow hb2
        have hc2 := (hb2.cell (p := ad.add k) (by rw [add_block]; exact Nat.lt_of_lt_of_le hb (by simp))).trans hc
        have HO2 := Lib.hid hown2
        have HN2 := Lib.hid (HN.out.trans hb2)
        have hz2 := HN2.out.size
        clear hown2 hgrow hb2 hc HO
        go_wp2_with (at_builtin; refine app1U rfl _ _ rfl w.heap.size B1 _ d1 (o ++ [id]) x (by simp) rfl HO2.out rfl hz2 (by simp; omega) ?_)
        intro B2 d2 w3 hown3 hgrow hb3
        have HO3 := Lib.hid hown3
        have HN3 := Lib.hid (HN2.out.trans hb3)
        clear hown3 hgrow hb3 hc2 HO2
        go_wp2
        go_roundw
        case rel =>
          refine ⟨k + 1, B2, d2, by omega, by go_num, ?_, ?_, ?_, HN3.out⟩
          · rw [HS.out, E1.out]
          · rw [HS.out, E1.out]; simp
          · rw [HS.out, E1.out]; simpa using HO3.out
        case measure => simp [intOf]; omega
      · have e1 : insStep id (o, p) x = (o ++ [x], p) := by unfold insStep; rw [if_neg hid]
        have E1 := Lib.hid e1; clear e1
        have hcase : p = true ∨ (p = false ∧ decide (id < x) = false) := by
          cases p
          · exact .inr ⟨rfl, decide_eq_false fun h => hid ⟨rfl, h⟩⟩
          · exact .inl rfl
        clear hid
        rcases hcase with rfl | ⟨rfl, hid⟩
        all_goals
          go_wp2_with (at_builtin; refine app1U rfl _ _ rfl w.heap.size B _ d o x rfl rfl HO.out rfl hz (by omega) ?_)
          intro B2 d2 w3 hown3 hgrow hb3
          have HO3 := Lib.hid hown3
          have HN3 := Lib.hid (HN.out.trans hb3)
          clear hown3 hgrow hb3 HO
          go_wp2
          go_roundw
          case rel =>
            refine ⟨k + 1, B2, d2, by omega, by go_num, ?_, ?_, ?_, HN3.out⟩
            · rw [HS.out, E1.out]
            · rw [HS.out, E1.out]; simp
            · rw [HS.out, E1.out]; exact HO3.out
          case measure => simp [intOf]; omega
    · have e : k = l.length := by omega
      subst e
      have hF : insF id l = if (insS id (l.take l.length)).2 = true then (insS id (l.take l.length)).1 else (insS id (l.take l.length)).1 ++ [id] := by rw [List.take_length]; rfl
      generalize insS id (l.take l.length) = s at *
      obtain ⟨o, p⟩ := s
      simp only at HO hlen hF ⊢
      have HF := Lib.hid hF; clear hF
      cases p
      · have hr : srt (l ++ [id]) = o ++ [id] := by rw [← HI.out, HF.out]; rfl
        have HR := Lib.hid hr; clear hr HF HI
        go_wp2_with (at_builtin; refine app1U rfl _ _ rfl w.heap.size B _ d o id rfl rfl HO.out rfl hz (by omega) ?_)
        intro B2 d2 w3 hown3 hgrow hb3
        have HO3 := Lib.hid hown3
        have HN3 := Lib.hid (HN.out.trans hb3)
        clear hown3 hgrow hb3 HO
        go_wp2
        go_ret2
        exact ⟨B2, d2, by rw [HR.out]; simp, by rw [HR.out]; exact HO3.out, HN3.out⟩
      · have hr : srt (l ++ [id]) = o := by rw [← HI.out, HF.out]; rfl
        have HR := Lib.hid hr; clear hr HF HI
        go_wp2_with fail
        go_ret2
        exact ⟨B, d, by rw [HR.out]; rfl, by rw [HR.out]; exact HO.out, HN.out⟩

theorem refAdd_any (A : Option Addr) (c : Nat) (l : List Int) (id : Int) (w : World) (h : Sl w .u64 A l) (hl : l.length ≤ 1000000) (hp : ∀ x ∈ l, 0 ≤ x) :
    Calls Try.prog 14 #[.slice A l.length c, .int .u64 id] w fun e w' => ∃ B d, e = .returned (.tuple #[.slice B (addL l id).length d, .int .i64 (addE l id)]) ∧ OwnU w.heap.size w' B d (addL l id) ∧ Below w.heap.size w w' := by
  by_cases hb : mayP l = true ∧ id ≠ 0
  · obtain ⟨hm, h0⟩ := hb
    have h8 := (mayP_iff.1 hm).2.2
    by_cases hh : hasL l id = true
    · have e1 : addE l id = 130 := by unfold addE; rw [if_pos ⟨hm, h0⟩, if_pos hh]
      have e2 : addL l id = [] := by unfold addL; rw [e1]; rfl
      rw [e1, e2]
      exact (refAdd_twice A c l id w h hl hp hm h0 hh).mono fun e w' ⟨he, q, hw⟩ => ⟨none, 0, he, .nil _ _, hw ▸ below_drewN (Below.refl _ _) _⟩
    · by_cases h7 : 7 ≤ l.length
      · have e1 : addE l id = 6 := by unfold addE; rw [if_pos ⟨hm, h0⟩, if_neg hh, if_pos h7]
        have e2 : addL l id = [] := by unfold addL; rw [e1]; rfl
        rw [e1, e2]
        exact (refAdd_full A c l id w h hp hm h0 (by simpa using hh) (by omega)).mono fun e w' ⟨he, q, hw⟩ => ⟨none, 0, he, .nil _ _, hw ▸ below_drewN (Below.refl _ _) _⟩
      · have e1 : addE l id = 0 := by unfold addE; rw [if_pos ⟨hm, h0⟩, if_neg hh, if_neg h7]
        have e2 : addL l id = srt (l ++ [id]) := by unfold addL; rw [e1]; rfl
        rw [e1, e2]
        exact refAdd_ok A c l id w h hp hm h0 (by simpa using hh) (by omega)
  · have e1 : addE l id = 2 := by unfold addE; rw [if_neg hb]
    have e2 : addL l id = [] := by unfold addL; rw [e1]; rfl
    rw [e1, e2]
    exact (refAdd_bad A c l id w h hl hp hb).mono fun e w' ⟨he, q, hw⟩ => ⟨none, 0, he, .nil _ _, hw ▸ below_drewN (Below.refl _ _) _⟩
end Go.Proofs.Ytdbodnpfeiplgaa
