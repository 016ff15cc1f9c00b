/- Contract of the reference's Put of a row. -/
import Derived.Test.YtdbodnpfeiplgaaPkD
import Derived.Test.YtdbodnpfeiplgaaPeB
namespace Go.Proofs.Ytdbodnpfeiplgaa
set_option linter.unusedVariables false
open Go.RowKit

theorem rput_bad (A : Option Addr) (c : Nat) (l : List Int) (w : World) (h : Sl w .u64 A l) (hl : l.length ≤ 1000000) (hp : ∀ x ∈ l, 0 ≤ x) (hm : mayP l = false) :
    Calls Try.prog 17 #[.slice A l.length c] w fun e w' => e = .returned (.tuple #[.slice none 0 0, .int .i64 2]) ∧ Below w.heap.size w w' := by
  have C := refMay_any A c l w h (by omega) hp
  rw [hm] at C
  have C := Lib.hid C
  clear hm
  go_enter Try.func17, Try.ntmps17
  go_wp2_with fail
  refine C.out.mono ?_
  rintro e w1 ⟨rfl, q, rfl⟩
  go_wp2_with fail
  go_ret2
  exact ⟨rfl, below_drewN (Below.refl _ _) _⟩

set_option maxHeartbeats 1000000 in
set_option maxRecDepth 100000 in
theorem rput_ok (A : Option Addr) (c : Nat) (l : List Int) (w : World) (h : Sl w .u64 A l) (hl : l.length ≤ 1000000) (hp : ∀ x ∈ l, 0 ≤ x ∧ x < 18446744073709551616) (hm : mayP l = true) :
    Calls Try.prog 17 #[.slice A l.length c] w fun e w' => ∃ B d, e = .returned (.tuple #[.slice B (putL l).length d, .int .i64 0]) ∧ OwnB w.heap.size w' B d (putL l) ∧ Below w.heap.size w w' := by
  have C := refMay_any A c l w h (by omega) (fun x hx => (hp x hx).1)
  have hm7 := (mayP_iff.1 hm).2
  rw [hm] at C
  have C := Lib.hid C
  have H := Lib.hid h
  have HP := Lib.hid hp
  clear hm h hp
  go_enter Try.func17, Try.ntmps17
  go_wp2_with fail
  refine C.out.mono ?_
  rintro e w1 ⟨rfl, q, rfl⟩
  go_wp2_with fail
  have hO0 : OwnB w.heap.size ((w.drewN q).alloc (.cells #[.int .u8 (l.length : Int)] 5)) (some ⟨w.heap.size, 0, none⟩) 1 [(l.length : Int)] := OwnB.made1 (w.drewN q) _
  have hB0 : Below w.heap.size w ((w.drewN q).alloc (.cells #[.int .u8 (l.length : Int)] 5)) := (below_drewN (Below.refl _ _) _).alloc (Nat.le_refl _) _
  have hfin : putL l = [(l.length : Int)] ++ catN l := by rw [putL, putN_small (by omega)]
  have HF := Lib.hid hfin
  have HO0 := Lib.hid hO0
  have HB0 := Lib.hid hB0
  have h70 : [(l.length : Int)].length ≤ 10 := by simp
  have hP0l : [(l.length : Int)].length = 1 := rfl
  clear hfin hO0 hB0
  generalize hP0 : [(l.length : Int)] = P0 at *
  clear hP0
  go_loopw [4, 5] (fun v i wr => ∃ (k : Nat) (B : Option Addr) (d : Nat), k ≤ l.length ∧ i = .int .i64 k ∧ v = .slice B (P0 ++ catN (l.take k)).length d ∧ OwnB w.heap.size wr B d (P0 ++ catN (l.take k)) ∧ Below w.heap.size w wr)
    (fun _ i _ => l.length - (intOf i).toNat)
  case atStart => exact ⟨0, some ⟨w.heap.size, 0, none⟩, 1, by omega, rfl, by simp [catN, hP0l], by simpa [catN] using HO0.out, HB0.out⟩
  case round =>
    obtain ⟨k, B, d, hk, rfl, rfl, hown, hnx⟩ := hrel
    have HO := Lib.hid hown
    have HN := Lib.hid hnx
    have hz := hnx.size
    clear hown hnx
    by_cases hlt : k < l.length
    · obtain ⟨ad, rfl, hb, hc0⟩ := H.out k hlt
      have hc := (HN.out.cell (p := ad.add k) (by rw [add_block]; exact hb)).trans hc0
      have hx := HP.out l[k] (List.getElem_mem _)
      obtain ⟨x, hxe⟩ : ∃ x : Nat, l[k] = (x : Int) := ⟨l[k].toNat, by omega⟩
      have hs : P0 ++ catN (l.take (k + 1)) = (P0 ++ catN (l.take k)) ++ putN x := by
        rw [List.take_succ_eq_append_getElem hlt, catN_snoc, hxe, Int.toNat_natCast, List.append_assoc]
      rw [hxe] at hc hx
      have hx2 : x < 18446744073709551616 := by omega
      have hPl := (putN_len 9 x (by omega)).2
      have hol : (P0 ++ catN (l.take k)).length ≤ 10000010 := by
        have h1 := (catN_len (l.take k) fun z hz => HP.out z (List.mem_of_mem_take hz)).2
        rw [List.length_append]
        rw [List.length_take] at h1
        omega
      have C2 := Lib.hid (fun W => refPut_any x hx2 W)
      have HS := Lib.hid hs
      clear hc0 hxe hx hx2 hs
      generalize P0 ++ catN (l.take k) = o at *
      generalize putN x = P at *
      go_wp2_with fail
      refine (C2.out _).mono ?_
      rintro e w2 ⟨B1, d1, rfl, hown1, hb1⟩
      have HO1 := Lib.hid hown1
      have HO2 := Lib.hid (HO.out.over hb1)
      have HN1 := Lib.hid (HN.out.trans (hb1.mono hz))
      have hz1 := HN1.out.size
      clear hown1 hb1
      go_wp2_with (at_builtin; refine appSB rfl _ _ rfl w.heap.size B _ d o rfl (by rfl) HO2.out B1 d1 P (by rfl) HO1.out.sl HO1.out.nil_cap hz1 (by omega) ?_)
      intro B2 d2 w3 hown3 hgrow hb3
      have HO3 := Lib.hid hown3
      have HN3 := Lib.hid (HN1.out.trans hb3)
      clear hown3 hgrow hb3
      go_wp2_with fail
      go_roundw
      case rel =>
        refine ⟨k + 1, B2, d2, by omega, by go_num, ?_, ?_, HN3.out⟩
        · rw [HS.out]; simp
        · rw [HS.out]; exact HO3.out
      case measure => simp [intOf]; omega
    · have hd : decide (k < l.length) = false := decide_eq_false (by omega)
      have hk2 : l.take k = l := List.take_of_length_le (by omega)
      rw [hk2, ← HF.out] at HO
      have HK := Lib.hid hk2
      clear hk2
      go_wp2_with fail
      go_ret2
      rw [HK.out, ← HF.out]
      exact ⟨B, d, rfl, HO.out, HN.out⟩
end Go.Proofs.Ytdbodnpfeiplgaa
