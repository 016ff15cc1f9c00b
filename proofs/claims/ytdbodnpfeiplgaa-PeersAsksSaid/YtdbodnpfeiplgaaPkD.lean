/- Contract of peers.Put, and its plain law. -/
import Derived.Test.YtdbodnpfeiplgaaPkA
import Derived.Test.YtdbodnpfeiplgaaPeA
namespace Go.Proofs.Ytdbodnpfeiplgaa
set_option linter.unusedVariables false
open Go.RowKit
/-- Numbers packed one behind the other. -/
def catN : List Int → List Int
  | [] => []
  | x :: t => putN x.toNat ++ catN t
theorem catN_snoc : ∀ (t : List Int) (x : Int), catN (t ++ [x]) = catN t ++ putN x.toNat
  | [], x => by simp [catN]
  | y :: t, x => by rw [List.cons_append, catN, catN, catN_snoc t x, List.append_assoc]
theorem catN_len : ∀ (t : List Int), (∀ x ∈ t, 0 ≤ x ∧ x < 18446744073709551616) → t.length ≤ (catN t).length ∧ (catN t).length ≤ 10 * t.length
  | [], _ => by simp [catN]
  | y :: t, h => by
    have h1 := catN_len t fun x hx => h x (by simp [hx])
    have h2 := putN_len 9 y.toNat (by have := h y (by simp); omega)
    rw [catN, List.length_append, List.length_cons]
    omega
theorem catN_bytes : ∀ (t : List Int), ∀ x ∈ catN t, 0 ≤ x ∧ x < 256
  | [], x, h => by simp [catN] at h
  | y :: t, x, h => by
    rw [catN, List.mem_append] at h
    rcases h with h | h
    · exact putN_bytes _ x h
    · exact catN_bytes t x h
/-- The bytes of a row. -/
def putL (l : List Int) : List Int := putN l.length ++ catN l

theorem pput_bad (A : Option Addr) (c : Nat) (l : List Int) (w : World) (h : Sl w .u64 A l) (hl : l.length ≤ 1000000) (hp : ∀ x ∈ l, 0 ≤ x) (hm : mayP l = false) :
    Calls Try.prog 11 #[.slice A l.length c] w fun e w' => e = .returned (.tuple #[.slice none 0 0, .int .i64 2]) ∧ w = w' := by
  have C := may_any A c l w h (by omega)
  rw [hm] at C
  have C := Lib.hid C
  clear hm
  go_enter Try.func11, Try.ntmps11
  go_wp2_with fail
  refine C.out.mono ?_
  rintro e w1 ⟨rfl, rfl⟩
  go_wp2_with fail
  go_ret2
  exact ⟨rfl, rfl⟩

set_option maxHeartbeats 1000000 in
set_option maxRecDepth 100000 in
theorem pput_ok (A : Option Addr) (c : Nat) (l : List Int) (w : World) (h : Sl w .u64 A l) (hl : l.length ≤ 1000000) (hp : ∀ x ∈ l, 0 ≤ x ∧ x < 18446744073709551616) (hm : mayP l = true) :
    Calls Try.prog 11 #[.slice A l.length c] w fun e w' => ∃ B d, e = .returned (.tuple #[.slice B (putL l).length d, .int .i64 0]) ∧ OwnB w.heap.size w' B d (putL l) ∧ Below w.heap.size w w' := by
  have C := may_any A c l w h (by omega)
  rw [hm] at C
  have C := Lib.hid C
  have D := Lib.hid (fun W => put_any l.length (by omega) W)
  have H := Lib.hid h
  have HP := Lib.hid hp
  clear hm h hp
  go_enter Try.func11, Try.ntmps11
  go_wp2_with fail
  refine C.out.mono ?_
  rintro e w1 ⟨rfl, rfl⟩
  go_wp2_with fail
  refine (D.out _).mono ?_
  rintro e w1 ⟨B0, d0, rfl, hown0, hb0⟩
  have hz0 := hb0.size
  have h70 : (putN l.length).length ≤ 10 := (putN_len 9 l.length (by omega)).2
  have HO0 := Lib.hid hown0
  have HB0 := Lib.hid hb0
  clear hown0 hb0
  have hput : ∀ k, putN l.length ++ catN (l.take k) = putN l.length ++ catN (l.take k) := fun _ => rfl
  have hfin : putL l = putN l.length ++ catN l := rfl
  have HF := Lib.hid hfin
  clear hfin hput
  generalize putN l.length = P0 at *
  go_wp2_with fail
  go_loopw [4, 16] (fun v i wr => ∃ (k : Nat) (B : Option Addr) (d : Nat), k ≤ l.length ∧ i = .int .i64 k ∧ v = .slice B (P0 ++ catN (l.take k)).length d ∧ OwnB w.heap.size wr B d (P0 ++ catN (l.take k)) ∧ Below w.heap.size w wr)
    (fun _ i _ => l.length - (intOf i).toNat)
  case atStart => exact ⟨0, B0, d0, by omega, rfl, by simp [catN], by simpa [catN] using HO0.out, HB0.out⟩
  case round =>
    obtain ⟨k, B, d, hk, rfl, rfl, hown, hnx⟩ := hrel
    have HO := Lib.hid hown
    have HN := Lib.hid hnx
    have hz := hnx.size
    clear hown hnx
    by_cases hlt : k < l.length
    · obtain ⟨ad, rfl, hb, hc0⟩ := H.out k hlt
      have hc := (HN.out.cell (p := ad.add k) (by rw [add_block]; exact hb)).trans hc0
      have hx := HP.out l[k] (List.getElem_mem _)
      obtain ⟨x, hxe⟩ : ∃ x : Nat, l[k] = (x : Int) := ⟨l[k].toNat, by omega⟩
      have hs : P0 ++ catN (l.take (k + 1)) = (P0 ++ catN (l.take k)) ++ putN x := by
        rw [List.take_succ_eq_append_getElem hlt, catN_snoc, hxe, Int.toNat_natCast, List.append_assoc]
      rw [hxe] at hc hx
      have hx2 : x < 18446744073709551616 := by omega
      have hPl := (putN_len 9 x (by omega)).2
      have hol : (P0 ++ catN (l.take k)).length ≤ 10000010 := by
        have h1 := (catN_len (l.take k) fun z hz => HP.out z (List.mem_of_mem_take hz)).2
        rw [List.length_append]
        rw [List.length_take] at h1
        omega
      have C2 := Lib.hid (fun W => put_any x hx2 W)
      have HS := Lib.hid hs
      clear hc0 hxe hx hx2 hs
      generalize P0 ++ catN (l.take k) = o at *
      generalize putN x = P at *
      go_wp2_with fail
      refine (C2.out _).mono ?_
      rintro e w2 ⟨B1, d1, rfl, hown1, hb1⟩
      have HO1 := Lib.hid hown1
      have HO2 := Lib.hid (HO.out.over hb1)
      have HN1 := Lib.hid (HN.out.trans (hb1.mono hz))
      have hz1 := HN1.out.size
      clear hown1 hb1
      go_wp2_with (at_builtin; refine appSB rfl _ _ rfl w.heap.size B _ d o rfl (by rfl) HO2.out B1 d1 P (by rfl) HO1.out.sl HO1.out.nil_cap hz1 (by omega) ?_)
      intro B2 d2 w3 hown3 hgrow hb3
      have HO3 := Lib.hid hown3
      have HN3 := Lib.hid (HN1.out.trans hb3)
      clear hown3 hgrow hb3
      go_wp2_with fail
      go_roundw
      case rel =>
        refine ⟨k + 1, B2, d2, by omega, by go_num, ?_, ?_, HN3.out⟩
        · rw [HS.out]; simp
        · rw [HS.out]; exact HO3.out
      case measure => simp [intOf]; omega
    · have hd : decide (k < l.length) = false := decide_eq_false (by omega)
      have hk2 : l.take k = l := List.take_of_length_le (by omega)
      rw [hk2, ← HF.out] at HO
      have HK := Lib.hid hk2
      clear hk2
      go_wp2_with fail
      go_ret2
      rw [HK.out, ← HF.out]
      exact ⟨B, d, rfl, HO.out, HN.out⟩
end Go.Proofs.Ytdbodnpfeiplgaa
