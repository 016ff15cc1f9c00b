/- Contract of the reference's Parse. -/
import Derived.Test.YtdbodnpfeiplgaaPkF
import Derived.Test.YtdbodnpfeiplgaaPkE
import Derived.Test.YtdbodnpfeiplgaaPkC
namespace Go.Proofs.Ytdbodnpfeiplgaa
set_option linter.unusedVariables false
open Go.RowKit
theorem rparse_none (A : Option Addr) (c : Nat) (b : List Int) (w : World) (h : Sl w .u8 A b) (hbl : b.length ≤ 1000000) (hx : b = [] ∨ 7 < b.headD 0) :
    Calls Try.prog 19 #[.slice A b.length c] w fun e w' => e = .returned (.tuple #[.slice none 0 0, .int .i64 4]) ∧ Below w.heap.size w w' := by
  rcases b with _ | ⟨x, t⟩
  · go_enter Try.func19, Try.ntmps19
    go_wp2_with fail
    go_ret2
    exact ⟨rfl, Below.refl _ _⟩
  · have h7 : 7 < x := by
      rcases hx with hx | hx
      · cases hx
      · exact hx
    obtain ⟨ad, rfl, hb, hc0⟩ := h 0 (by simp)
    simp only [List.getElem_cons_zero, Addr.add_zero'] at hc0
    obtain ⟨L, hL⟩ : ∃ L, (x :: t).length = L := ⟨_, rfl⟩
    have hL0 : 0 < L := by rw [← hL]; simp
    have hL0b : ((L : Int) == 0) = false := beq_eq_false_iff_ne.2 (by omega)
    have hLn : ¬ L = 0 := by omega
    rw [hL] at *
    clear hx h hL
    go_enter Try.func19, Try.ntmps19
    go_wp2_with fail
    go_ret2
    exact ⟨rfl, Below.refl _ _⟩
set_option maxHeartbeats 1000000 in
set_option maxRecDepth 100000 in
theorem rparse_go (A : Option Addr) (c : Nat) (x : Nat) (t b : List Int) (hbt : b = (x : Int) :: t) (w : World) (h : Sl w .u8 A b) (hc : b.length ≤ c) (hm : c ≤ maxLen) (hb : ∀ x ∈ b, 0 ≤ x ∧ x < 256) (hbl : b.length ≤ 1000000) (hx7 : x ≤ 7) :
    Calls Try.prog 19 #[.slice A b.length c] w (PrsOut (prsR b) w) := by
  obtain ⟨ans, hans⟩ : ∃ ans, prsR b = ans := ⟨_, rfl⟩
  rw [hans]
  have hans2 : (match tkA x [] 1 b with | none => none | some (l, _) => if mayP l = true ∧ putL l = b then some l else none) = ans := by
    rw [← hans, hbt]
    unfold prsR
    simp only
    rw [if_neg (by omega), Int.toNat_natCast]
    cases tkA x [] 1 ((x : Int) :: t) <;> rfl
  obtain ⟨R, hR⟩ : ∃ R, tkA x [] 1 b = R := ⟨_, rfl⟩
  rw [hR] at hans2
  have HT := Lib.hid (fun W (hW : Sl W .u8 A b) (p : Nat) (hp : p ≤ b.length) => refTake_in A c b p W hW hc hm hb (by omega) hbl _ rfl)
  have H := Lib.hid h
  have HB := Lib.hid hb
  have HA := Lib.hid hans2
  have HR := Lib.hid hR
  have hL0 : 0 < b.length := by rw [hbt]; simp
  obtain ⟨ad, hA, hbk, hc0⟩ := h 0 hL0
  subst hA
  have hc0 : w.cell? ad = some (.int .u8 (x : Int)) := by
    rw [Addr.add_zero'] at hc0
    simpa [hbt] using hc0
  have HBT := Lib.hid hbt
  clear h hb hans hans2 hR hbt
  have hLn : ¬ b.length = 0 := by omega
  have hL0b : ((b.length : Int) == 0) = false := beq_eq_false_iff_ne.2 (by omega)
  have h7n : decide (7 < x) = false := decide_eq_false (by omega)
  have h7i : decide ((7 : Int) < (x : Int)) = false := decide_eq_false (by omega)
  go_enter Try.func19, Try.ntmps19
  go_wp2_with fail
  go_loopw [4, 5, 6] (fun lv at_ i wr => ∃ (k p : Nat) (o : List Int) (B : Option Addr) (d : Nat), k ≤ x ∧ i = .int .i64 k ∧ at_ = .int .i64 p ∧ lv = .slice B k d ∧ o.length = k ∧ p ≤ b.length ∧ OwnU w.heap.size wr B d o ∧ Below w.heap.size w wr ∧ tkA (x - k) o p b = R ∧ fit o)
    (fun _ _ i _ => x - (intOf i).toNat)
  case atStart => exact ⟨0, 1, [], none, 0, by omega, rfl, rfl, rfl, rfl, by omega, OwnU.nil _ _, Below.refl _ _, HR.out, fun _ h => by cases h⟩
  case round =>
    obtain ⟨k, p, o, B, d, hk, rfl, rfl, rfl, hol, hpl, hown, hnx, htk, hfit⟩ := hrel
    have HO := Lib.hid hown
    have HN := Lib.hid hnx
    have HOL := Lib.hid hol
    have HF := Lib.hid hfit
    have hz := hnx.size
    have hcw : wr.cell? ad = some (.int .u8 (x : Int)) := (hnx.cell hbk).trans hc0
    clear hown hnx hol hfit
    by_cases hlt : k < x
    · have C1 := HT.out _ (H.out.over HN.out) p hpl
      rw [show x - k = (x - (k + 1)) + 1 by omega, tkA] at htk
      cases ht : tk 0 0 (b.drop p) with
      | none =>
        rw [ht] at htk C1
        have ha : ans = none := by rw [← HA.out, ← htk]
        have HNA := Lib.hid ha
        have C1 := Lib.hid C1
        clear ha htk ht
        go_wp2_with fail
        refine C1.out.mono ?_
        rintro e w1 ⟨rfl, hb1⟩
        simp only [rV, rX, rE]
        have HN1 := Lib.hid (HN.out.trans (hb1.mono hz))
        clear hb1
        go_wp2_with fail
        go_ret2
        rw [HNA.out]
        exact ⟨rfl, HN1.out⟩
      | some r =>
        obtain ⟨v, m'⟩ := r
        rw [ht] at htk C1
        simp only at htk
        have htf := tk_found (fun x hx => HB.out x (List.mem_of_mem_drop hx)) ht
        have hm' := htf.1
        rw [List.length_drop] at hm'
        have hv := htf.2.2.1
        have C1 := Lib.hid C1
        have HTK := Lib.hid htk
        clear htk ht htf
        go_wp2_with fail
        refine C1.out.mono ?_
        rintro e w1 ⟨rfl, hb1⟩
        simp only [rV, rX, rE]
        have HN1 := Lib.hid (HN.out.trans (hb1.mono hz))
        have HO1 := Lib.hid (HO.out.over hb1)
        have hz1 := HN1.out.size
        clear hb1
        go_wp2_with (at_builtin; refine app1U rfl _ _ rfl w.heap.size B k d o (v : Int) HOL.out.symm (by rfl) HO1.out rfl hz1 (by have := HOL.out; omega) ?_)
        intro B2 d2 w3 hown3 hgrow hb3
        have HO3 := Lib.hid hown3
        have HN3 := Lib.hid (HN1.out.trans hb3)
        clear hown3 hgrow hb3
        go_wp2_with fail
        go_roundw
        case rel =>
          refine ⟨k + 1, p + m', o ++ [(v : Int)], B2, d2, by omega, by go_num, by go_num, rfl, ?_, by omega, HO3.out, HN3.out, HTK.out, ?_⟩
          · rw [List.length_append, HOL.out]; rfl
          · intro z hz
            rcases List.mem_append.1 hz with hz | hz
            · exact HF.out z hz
            · rw [List.mem_singleton] at hz; omega
        case measure => simp [intOf]; omega
    · have hkn : k = x := by omega
      subst hkn
      rw [Nat.sub_self, tkA] at htk
      have HTK := Lib.hid htk
      clear htk
      cases hmy : mayP o with
      | false =>
        have C2 := rput_bad B d o wr HO.out.sl (by have := HOL.out; omega) (fun z hz => (HF.out z hz).1) hmy
        rw [HOL.out] at C2
        have C2 := Lib.hid C2
        have ha : ans = none := by rw [← HA.out, ← HTK.out]; exact if_neg fun h => by rw [hmy] at h; exact absurd h.1 (by decide)
        have HNA := Lib.hid ha
        clear ha
        go_wp2_with fail
        refine C2.out.mono ?_
        rintro e w1 ⟨rfl, hb1⟩
        have HN1 := Lib.hid (HN.out.trans (hb1.mono hz))
        clear hb1
        go_wp2_with fail
        go_ret2
        rw [HNA.out]
        exact ⟨rfl, HN1.out⟩
      | true =>
        have C2 := rput_ok B d o wr HO.out.sl (by have := HOL.out; omega) HF.out hmy
        rw [HOL.out] at C2
        have C2 := Lib.hid C2
        go_wp2_with fail
        refine C2.out.mono ?_
        rintro e w1 ⟨B1, d1, rfl, hown1, hb1⟩
        have HN1 := Lib.hid (HN.out.trans (hb1.mono hz))
        have HO1 := Lib.hid (HO.out.over hb1)
        have HS1 := Lib.hid (H.out.over HN1.out)
        have HP1 := Lib.hid hown1.sl
        have hpe : putL o ≠ [] := fun h => by
          have h0 := putN_len 9 o.length (by have := HOL.out; omega)
          rw [putL, List.append_eq_nil_iff] at h
          rw [h.1] at h0
          exact absurd h0.1 (by decide)
        have hpb : ∀ z ∈ putL o, 0 ≤ z ∧ z < 256 := fun z hz => by
          rw [putL, List.mem_append] at hz
          rcases hz with hz | hz
          · exact putN_bytes _ z hz
          · exact catN_bytes _ z hz
        obtain ⟨B', rfl⟩ := HP1.out.some_ hpe
        have hcv1 := conv_bytes (c := d1) HP1.out hpb
        have hcv2 := conv_bytes (c := c) HS1.out HB.out
        have heq := strI_eq hpb HB.out
        clear hown1 hb1
        by_cases hPT : putL o = b
        · have ha : ans = some o := by rw [← HA.out, ← HTK.out]; exact if_pos ⟨hmy, hPT⟩
          rw [decide_eq_true hPT] at heq
          have HNA := Lib.hid ha
          clear ha hPT
          go_wp2_with fail
          go_ret2
          rw [HNA.out]
          exact ⟨B, d, by rw [HOL.out]; rfl, HO1.out, HN1.out⟩
        · have ha : ans = none := by rw [← HA.out, ← HTK.out]; exact if_neg fun h => hPT h.2
          rw [decide_eq_false hPT] at heq
          have HNA := Lib.hid ha
          clear ha hPT
          go_wp2_with fail
          go_ret2
          rw [HNA.out]
          exact ⟨rfl, HN1.out⟩
end Go.Proofs.Ytdbodnpfeiplgaa
