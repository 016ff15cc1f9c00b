/- Contract of peers.Parse. -/
import Derived.Test.YtdbodnpfeiplgaaPkL
import Derived.Test.YtdbodnpfeiplgaaPkB
import Derived.Test.YtdbodnpfeiplgaaApp
namespace Go.Proofs.Ytdbodnpfeiplgaa
set_option linter.unusedVariables false
open Go.RowKit
/-- Parse's answer. -/
def PrsOut (r : Option (List Int)) (w : World) (e : Ending) (w' : World) : Prop := match r with
  | none => e = .returned (.tuple #[.slice none 0 0, .int .i64 4]) ∧ Below w.heap.size w w'
  | some l => ∃ B d, e = .returned (.tuple #[.slice B l.length d, .int .i64 0]) ∧ OwnU w.heap.size w' B d l ∧ Below w.heap.size w w'
set_option maxHeartbeats 1000000 in
set_option maxRecDepth 100000 in
theorem parse_any (A : Option Addr) (c : Nat) (b : List Int) (w : World) (h : Sl w .u8 A b) (hc : b.length ≤ c) (hm : c ≤ maxLen) (hb : ∀ x ∈ b, 0 ≤ x ∧ x < 256) :
    Calls Try.prog 18 #[.slice A b.length c] w (PrsOut (prsP b) w) := by
  obtain ⟨ans, hans⟩ : ∃ ans, prsP b = ans := ⟨_, rfl⟩
  rw [hans]
  unfold prsP at hans
  have HT := Lib.hid (fun W (hW : Sl W .u8 A b) (p : Nat) (hp : p ≤ b.length) => take_in A c b p W hW hc hm hb (by omega) (by omega) _ (by rw [Int.toNat_natCast]))
  have H := Lib.hid h
  have HB := Lib.hid hb
  have C0 := take_in A c b 0 w h hc hm hb (by omega) (by omega) (tk 0 0 b) rfl
  cases ht : tk 0 0 b with
  | none =>
    rw [ht] at hans C0
    have HA := Lib.hid hans
    have C0 := Lib.hid C0
    clear hans h hb ht
    go_enter Try.func18, Try.ntmps18
    go_wp2_with fail
    refine C0.out.mono ?_
    rintro e w1 ⟨rfl, rfl⟩
    simp only [rV, rX, rE]
    go_wp2_with fail
    go_ret2
    rw [← HA.out]
    exact ⟨rfl, Below.refl _ _⟩
  | some r =>
    obtain ⟨n, m⟩ := r
    rw [ht] at hans C0
    simp only at hans
    have hm1 := (tk_found hb ht).1
    have hn1 := (tk_found hb ht).2.2.1
    have C0 := Lib.hid C0
    by_cases h7 : 7 < n
    · rw [if_pos h7] at hans
      have HA := Lib.hid hans
      clear hans h hb ht
      go_enter Try.func18, Try.ntmps18
      go_wp2_with fail
      refine C0.out.mono ?_
      rintro e w1 ⟨rfl, rfl⟩
      simp only [rV, rX, rE, Int.zero_add]
      go_wp2_with fail
      go_ret2
      rw [← HA.out]
      exact ⟨rfl, Below.refl _ _⟩
    · rw [if_neg h7] at hans
      have h7' : decide (7 < n) = false := decide_eq_false h7
      have h7i : decide ((7 : Int) < (n : Int)) = false := decide_eq_false (by omega)
      have h7n : ¬ (7 : Int) < (n : Int) := by omega
      obtain ⟨R, hR⟩ : ∃ R, tkA n [] m b = R := ⟨_, rfl⟩
      rw [hR] at hans
      have HA := Lib.hid hans
      have HR := Lib.hid hR
      clear hans h hb ht h7 hR
      go_enter Try.func18, Try.ntmps18
      go_wp2_with fail
      refine C0.out.mono ?_
      rintro e w1 ⟨rfl, rfl⟩
      simp only [rV, rX, rE, Int.zero_add]
      go_wp2_with fail
      clear C0
      go_loopw [5, 7, 24] (fun at_ lv i wr => ∃ (k p : Nat) (o : List Int) (B : Option Addr) (d : Nat), k ≤ n ∧ i = .int .u64 k ∧ at_ = .int .i64 p ∧ lv = .slice B k d ∧ o.length = k ∧ p ≤ b.length ∧ OwnU w.heap.size wr B d o ∧ Below w.heap.size w wr ∧ tkA (n - k) o p b = R)
        (fun _ _ i _ => n - (intOf i).toNat)
      case atStart => exact ⟨0, m, [], none, 0, by omega, rfl, by simp, rfl, rfl, hm1, OwnU.nil _ _, Below.refl _ _, HR.out⟩
      case round =>
        obtain ⟨k, p, o, B, d, hk, rfl, rfl, rfl, hol, hpl, hown, hnx, htk⟩ := hrel
        have HO := Lib.hid hown
        have HN := Lib.hid hnx
        have HOL := Lib.hid hol
        have hz := hnx.size
        clear hown hnx hol
        by_cases hlt : k < n
        · have C1 := HT.out _ (H.out.over HN.out) p hpl
          rw [show n - k = (n - (k + 1)) + 1 by omega, tkA] at htk
          cases ht : tk 0 0 (b.drop p) with
          | none =>
            rw [ht] at htk C1
            have ha : ans = none := by rw [← HA.out, ← htk]
            have HNA := Lib.hid ha
            have C1 := Lib.hid C1
            clear ha htk ht
            go_wp2_with fail
            refine C1.out.mono ?_
            rintro e w1 ⟨rfl, rfl⟩
            simp only [rV, rX, rE]
            go_wp2_with fail
            go_ret2
            rw [HNA.out]
            exact ⟨rfl, HN.out⟩
          | some r =>
            obtain ⟨v, m'⟩ := r
            rw [ht] at htk C1
            simp only at htk
            have hm' := (tk_found (fun x hx => HB.out x (List.mem_of_mem_drop hx)) ht).1
            rw [List.length_drop] at hm'
            have C1 := Lib.hid C1
            have HTK := Lib.hid htk
            clear htk ht
            go_wp2_with fail
            refine C1.out.mono ?_
            rintro e w1 ⟨rfl, rfl⟩
            simp only [rV, rX, rE]
            go_wp2_with (at_builtin; refine app1U rfl _ _ rfl w.heap.size B k d o (v : Int) HOL.out.symm (by rfl) HO.out rfl hz (by have := HOL.out; omega) ?_)
            intro B2 d2 w3 hown3 hgrow hb3
            have HO3 := Lib.hid hown3
            have HN3 := Lib.hid (HN.out.trans hb3)
            clear hown3 hgrow hb3
            go_wp2_with fail
            go_roundw
            case rel =>
              refine ⟨k + 1, p + m', o ++ [(v : Int)], B2, d2, by omega, by go_num, by go_num, rfl, ?_, by omega, HO3.out, HN3.out, HTK.out⟩
              rw [List.length_append, HOL.out]; rfl
            case measure => simp [intOf]; omega
        · have hkn : k = n := by omega
          subst hkn
          rw [Nat.sub_self, tkA] at htk
          have HTK := Lib.hid htk
          have hk7 : k ≤ 7 := by omega
          have C2 := Lib.hid (may_any B d o _ HO.out.sl (by have := HOL.out; omega))
          rw [HOL.out] at C2
          clear htk hn1
          by_cases hpb : p = b.length
          · have hpbi : decide ((p : Int) = (b.length : Int)) = true := decide_eq_true (by omega)
            have hpbn : (p : Int) = (b.length : Int) := by omega
            go_wp2_with fail
            refine C2.out.mono ?_
            rintro e w1 ⟨rfl, rfl⟩
            cases hmy : mayP o with
            | false =>
              have ha : ans = none := by rw [← HA.out, ← HTK.out]; exact if_neg fun h => by rw [hmy] at h; exact absurd h.2 (by decide)
              have HNA := Lib.hid ha
              clear ha
              go_wp2_with fail
              go_ret2
              rw [HNA.out]
              exact ⟨rfl, HN.out⟩
            | true =>
              have ha : ans = some o := by rw [← HA.out, ← HTK.out]; exact if_pos ⟨hpb, hmy⟩
              have HNA := Lib.hid ha
              clear ha
              go_wp2_with fail
              go_ret2
              rw [HNA.out]
              exact ⟨B, d, by rw [HOL.out]; rfl, HO.out, HN.out⟩
          · have hpbi : ¬ (p : Int) = (b.length : Int) := by omega
            have hpbn : ¬ p = b.length := hpb
            have ha : ans = none := by rw [← HA.out, ← HTK.out]; exact if_neg fun h => hpb h.1
            have HNA := Lib.hid ha
            clear ha
            go_wp2_with fail
            go_ret2
            rw [HNA.out]
            exact ⟨rfl, HN.out⟩
end Go.Proofs.Ytdbodnpfeiplgaa
