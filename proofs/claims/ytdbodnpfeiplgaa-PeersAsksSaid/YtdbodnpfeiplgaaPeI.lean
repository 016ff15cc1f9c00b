/- Contract of the reference's Remove. -/
import Derived.Test.YtdbodnpfeiplgaaPeH
namespace Go.Proofs.Ytdbodnpfeiplgaa
set_option linter.unusedVariables false
open Go.RowKit

theorem refRemove_bad (A : Option Addr) (c : Nat) (l : List Int) (id : Int) (w : World) (h : Sl w .u64 A l) (hl : l.length ≤ 1000000) (hp : ∀ x ∈ l, 0 ≤ x) (hb : ¬ (mayP l = true ∧ id ≠ 0)) :
    Calls Try.prog 16 #[.slice A l.length c, .int .u64 id] w fun e w' => e = .returned (.tuple #[.slice none 0 0, .int .i64 2]) ∧ ∃ q, w' = w.drewN q := by
  have C := refMay_any A c l w h (by omega) hp
  by_cases hm : mayP l = true
  · have hid : id = 0 := Classical.byContradiction fun hne => hb ⟨hm, hne⟩
    subst hid
    rw [hm] at C
    have C := Lib.hid C
    clear hb hm
    go_enter Try.func16, Try.ntmps16
    go_wp2_with fail
    refine C.out.mono ?_
    rintro e w1 ⟨rfl, q, rfl⟩
    go_wp2_with fail
    go_ret2
    exact ⟨rfl, q, rfl⟩
  · rw [Bool.not_eq_true] at hm
    rw [hm] at C
    have C := Lib.hid C
    clear hb hm
    go_enter Try.func16, Try.ntmps16
    go_wp2_with fail
    refine C.out.mono ?_
    rintro e w1 ⟨rfl, q, rfl⟩
    go_wp2_with fail
    go_ret2
    exact ⟨rfl, q, rfl⟩

theorem refRemove_none (A : Option Addr) (c : Nat) (l : List Int) (id : Int) (w : World) (h : Sl w .u64 A l) (hl : l.length ≤ 1000000) (hp : ∀ x ∈ l, 0 ≤ x) (hm : mayP l = true) (h0 : id ≠ 0) (hh : hasL l id = false) :
    Calls Try.prog 16 #[.slice A l.length c, .int .u64 id] w fun e w' => e = .returned (.tuple #[.slice none 0 0, .int .i64 5]) ∧ ∃ q, w' = w.drewN q := by
  have C := refMay_any A c l w h (by omega) hp
  have D := fun W (hW : Sl W .u64 A l) => refHas_any A c l id W hW (by omega)
  rw [hm] at C
  rw [hh] at D
  have C := Lib.hid C
  have D := Lib.hid D
  have b0 : (id == 0) = false := beq_eq_false_iff_ne.2 h0
  have H := Lib.hid h
  clear hm hh h0 h
  go_enter Try.func16, Try.ntmps16
  go_wp2_with fail
  refine C.out.mono ?_
  rintro e w1 ⟨rfl, q, rfl⟩
  go_wp2_with fail
  refine (D.out _ (H.out.drewN q)).mono ?_
  rintro e w1 ⟨rfl, rfl⟩
  go_wp2_with fail
  go_ret2
  exact ⟨rfl, q, rfl⟩


set_option maxHeartbeats 1000000 in
theorem refRemove_has (A : Option Addr) (c : Nat) (l : List Int) (id : Int) (w : World) (h : Sl w .u64 A l) (hp : ∀ x ∈ l, 0 ≤ x) (hm : mayP l = true) (h0 : id ≠ 0) (hh : hasL l id = true) :
    Calls Try.prog 16 #[.slice A l.length c, .int .u64 id] w fun e w' => ∃ B d, e = .returned (.tuple #[.slice B (remL l id).length d, .int .i64 (remE l id)]) ∧ OwnU w.heap.size w' B d (remL l id) ∧ Below w.heap.size w w' := by
  obtain ⟨hr, hl1, h8⟩ := mayP_iff.1 hm
  have hone := wo_one (rise_nodup hr) (hasL_iff.1 hh)
  have C := refMay_any A c l w h (by omega) hp
  have D := fun W (hW : Sl W .u64 A l) => refHas_any A c l id W hW (by omega)
  have hE : remE l id = if (wo l id).length = 0 then 2 else 0 := by
    unfold remE
    rw [if_pos ⟨hm, h0⟩, if_pos hh]
    by_cases h1 : l.length = 1
    · rw [if_pos h1, if_pos (by omega)]
    · rw [if_neg h1, if_neg (by omega)]
  have hL : remL l id = wo l id := by
    unfold remL
    rw [hE]
    by_cases h1 : (wo l id).length = 0
    · rw [if_pos h1, List.length_eq_zero_iff.1 h1]; rfl
    · rw [if_neg h1]; rfl
  have HE := Lib.hid hE
  have HL := Lib.hid hL
  rw [hm] at C
  rw [hh] at D
  have C := Lib.hid C
  have D := Lib.hid D
  have b0 : (id == 0) = false := beq_eq_false_iff_ne.2 h0
  have H := Lib.hid h
  clear hm hh h0 h hE hL hone hr
  go_enter Try.func16, Try.ntmps16
  go_wp2_with fail
  refine C.out.mono ?_
  rintro e w1 ⟨rfl, q, rfl⟩
  go_wp2_with fail
  refine (D.out _ (H.out.drewN q)).mono ?_
  rintro e w1 ⟨rfl, rfl⟩
  go_wp2_with fail
  go_loopw [6, 7] (fun v i wr => ∃ (k : Nat) (B : Option Addr) (d : Nat), k ≤ l.length ∧ i = .int .i64 k ∧ v = .slice B (wo (l.take k) id).length d ∧ OwnU w.heap.size wr B d (wo (l.take k) id) ∧ Below w.heap.size w wr)
    (fun _ i _ => l.length - (intOf i).toNat)
  case atStart => exact ⟨0, none, 0, by omega, rfl, rfl, OwnU.nil _ _, below_drewN (Below.refl _ _) _⟩
  case round =>
    obtain ⟨k, B, d, hk, rfl, rfl, hown, hnx⟩ := hrel
    have HO := Lib.hid hown
    have HN := Lib.hid hnx
    have hz := hnx.size
    have hlen : (wo (l.take k) id).length ≤ k := Nat.le_trans (wo_len _ _) (List.length_take_le _ _)
    clear hown hnx
    by_cases hlt : k < l.length
    · obtain ⟨ad, rfl, hb, hc0⟩ := H.out k hlt
      have hc := (HN.out.cell (p := ad.add k) (by rw [add_block]; exact hb)).trans hc0
      have hs : wo (l.take (k + 1)) id = if l[k] = id then wo (l.take k) id else wo (l.take k) id ++ [l[k]] := by rw [List.take_succ_eq_append_getElem hlt, wo_snoc]
      obtain ⟨x, hx⟩ : ∃ x, l[k] = x := ⟨_, rfl⟩
      rw [hx] at hc hs
      clear hc0 hx
      generalize wo (l.take k) id = o at *
      by_cases hxi : x = id
      · rw [if_pos hxi] at hs
        subst hxi
        have HS := Lib.hid hs; clear hs
        go_wp2_with fail
        go_roundw
        case rel => exact ⟨k + 1, B, d, by omega, by go_num, by rw [HS.out], by rw [HS.out]; exact HO.out, HN.out⟩
        case measure => simp [intOf]; omega
      · rw [if_neg hxi] at hs
        have HS := Lib.hid hs; clear hs
        have t1 : (x != id) = true := by rw [bne_iff_ne]; exact hxi
        clear hxi
        go_wp2_with (at_builtin; refine app1U rfl _ _ rfl w.heap.size B _ d o x rfl rfl HO.out rfl hz (by omega) ?_)
        intro B2 d2 w3 hown3 hgrow hb3
        have HO3 := Lib.hid hown3
        have HN3 := Lib.hid (HN.out.trans hb3)
        clear hown3 hgrow hb3 HO
        go_wp2
        go_roundw
        case rel => exact ⟨k + 1, B2, d2, by omega, by go_num, by rw [HS.out]; simp, by rw [HS.out]; exact HO3.out, HN3.out⟩
        case measure => simp [intOf]; omega
    · have e : k = l.length := by omega
      subst e
      have ht : wo (l.take l.length) id = wo l id := by rw [List.take_length]
      rw [ht] at HO hlen ⊢
      obtain ⟨o, ho1⟩ : ∃ o, wo l id = o := ⟨_, rfl⟩
      rw [ho1] at HO hlen ⊢
      have HW := Lib.hid ho1
      clear ho1 ht
      by_cases h1 : o.length = 0
      · have b1 : ((o.length : Int) == 0) = true := by rw [h1]; rfl
        have ho : o = [] := List.length_eq_zero_iff.1 h1
        have HH := Lib.hid ho
        clear h1 ho
        go_wp2_with fail
        go_ret2
        rw [HL.out, HE.out, HW.out, HH.out]
        exact ⟨none, 0, rfl, .nil _ _, HN.out⟩
      · have b1 : ((o.length : Int) == 0) = false := by rw [beq_eq_false_iff_ne]; omega
        have H1 := Lib.hid h1
        clear h1
        go_wp2_with fail
        go_ret2
        rw [HL.out, HE.out, HW.out, if_neg H1.out]
        exact ⟨B, d, rfl, HO.out, HN.out⟩

theorem refRemove_any (A : Option Addr) (c : Nat) (l : List Int) (id : Int) (w : World) (h : Sl w .u64 A l) (hl : l.length ≤ 1000000) (hp : ∀ x ∈ l, 0 ≤ x) :
    Calls Try.prog 16 #[.slice A l.length c, .int .u64 id] w fun e w' => ∃ B d, e = .returned (.tuple #[.slice B (remL l id).length d, .int .i64 (remE l id)]) ∧ OwnU w.heap.size w' B d (remL l id) ∧ Below w.heap.size w w' := by
  by_cases hb : mayP l = true ∧ id ≠ 0
  · obtain ⟨hm, h0⟩ := hb
    by_cases hh : hasL l id = true
    · exact refRemove_has A c l id w h hp hm h0 hh
    · have e1 : remE l id = 5 := by unfold remE; rw [if_pos ⟨hm, h0⟩, if_neg hh]
      have e2 : remL l id = [] := by unfold remL; rw [e1]; rfl
      rw [e1, e2]
      exact (refRemove_none A c l id w h hl hp hm h0 (by simpa using hh)).mono fun e w' ⟨he, q, hw⟩ => ⟨none, 0, he, .nil _ _, hw ▸ below_drewN (Below.refl _ _) _⟩
  · have e1 : remE l id = 2 := by unfold remE; rw [if_neg hb]
    have e2 : remL l id = [] := by unfold remL; rw [e1]; rfl
    rw [e1, e2]
    exact (refRemove_bad A c l id w h hl hp hb).mono fun e w' ⟨he, q, hw⟩ => ⟨none, 0, he, .nil _ _, hw ▸ below_drewN (Below.refl _ _) _⟩
end Go.Proofs.Ytdbodnpfeiplgaa
