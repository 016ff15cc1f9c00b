/- Contracts of pack.Put and of the reference's Put. -/
import Derived.Test.YtdbodnpfeiplgaaAppB
import Derived.Test.YtdbodnpfeiplgaaPkM
import Derived.Test.YtdbodnpfeiplgaaSl
import Derived.WalkKit
import Derived.WalkSpells
import Derived.WalkLawsBesides
import Derived.Outline
import Derived.Lib.Hide
import Derived.IntWalk
namespace Go.Proofs.Ytdbodnpfeiplgaa
set_option linter.unusedVariables false
open Go.RowKit
theorem or_u8 : ∀ k < 256, bits BinOp.or IntKind.u8 ((k : Nat) : Int) 128 = ((k % 128 + 128 : Nat) : Int) := by decide +kernel

set_option maxHeartbeats 1000000 in
set_option maxRecDepth 100000 in
theorem put_any (n : Nat) (hn : n < 18446744073709551616) (w : World) :
    Calls Try.prog 30 #[.int .u64 n] w fun e w' => ∃ B d, e = .returned (.slice B (putN n).length d) ∧ OwnB w.heap.size w' B d (putN n) ∧ Below w.heap.size w w' := by
  have hp := (putN_len 9 n (by omega)).2
  have HU := Lib.hid hn
  clear hn
  go_enter Try.func30, Try.ntmps30
  go_wp2_with fail
  go_loopw [0, 3] (fun a v wr => ∃ (m : Nat) (o : List Int) (B : Option Addr) (d : Nat), a = .int .u64 m ∧ m ≤ n ∧ o ++ putN m = putN n ∧ v = .slice B o.length d ∧ OwnB w.heap.size wr B d o ∧ Below w.heap.size w wr)
    (fun a _ _ => (intOf a).toNat)
  case atStart => exact ⟨n, [], none, 0, rfl, Nat.le_refl _, rfl, rfl, OwnB.nil _ _, Below.refl _ _⟩
  case round =>
    obtain ⟨m, o, B, d, rfl, hm, he, rfl, hown, hnx⟩ := hrel
    have HE := Lib.hid he
    have HO := Lib.hid hown
    have HN := Lib.hid hnx
    have hz := hnx.size
    have hlen : o.length ≤ 10 := by
      rw [← he, List.length_append] at hp
      omega
    clear he hown hnx
    by_cases hlt : m < 128
    · have hlt' : decide (128 ≤ m) = false := decide_eq_false (by omega)
      have hs : putN m = [(m : Int)] := putN_small hlt
      have HS := Lib.hid hs; clear hs
      have hmm : (m : Int) % 256 = (m : Int) := by omega
      go_wp2_with (at_builtin; refine app1B rfl _ _ rfl w.heap.size B _ d o (m : Int) rfl rfl HO.out rfl hz (by omega) ?_)
      intro B2 d2 w3 hown3 hgrow hb3
      have HO3 := Lib.hid hown3
      have HN3 := Lib.hid (HN.out.trans hb3)
      clear hown3 hgrow hb3 HO
      go_wp2
      go_ret
      refine ⟨B2, d2, by rw [← HE.out, HS.out]; simp, by rw [← HE.out, HS.out]; exact HO3.out, HN3.out⟩
    · have hge : 128 ≤ m := by omega
      have hs : putN m = ((m % 128 + 128 : Nat) : Int) :: putN (m / 128) := putN_big hlt
      have HS := Lib.hid hs; clear hs hlt
      have hor : bits BinOp.or IntKind.u8 ((m : Int) % 256) 128 = ((m % 128 + 128 : Nat) : Int) := by
        rw [show (m : Int) % 256 = ((m % 256 : Nat) : Int) by omega, or_u8 _ (by omega)]
        omega
      obtain ⟨z, hz1⟩ : ∃ z : Int, ((m % 128 + 128 : Nat) : Int) = z := ⟨_, rfl⟩
      rw [hz1] at hor HS
      clear hz1
      go_wp2_with (at_builtin; refine app1B rfl _ _ rfl w.heap.size B _ d o z rfl rfl HO.out rfl hz (by omega) ?_)
      intro B2 d2 w3 hown3 hgrow hb3
      have HO3 := Lib.hid hown3
      have HN3 := Lib.hid (HN.out.trans hb3)
      clear hown3 hgrow hb3 HO hor
      go_wp2
      go_roundw
      case rel => exact ⟨m / 128, o ++ [z], B2, d2, by congr 1, by omega, by rw [← HE.out, HS.out]; simp, by simp, HO3.out, HN3.out⟩
      case measure => simp [intOf]; omega

set_option maxHeartbeats 1000000 in
set_option maxRecDepth 100000 in
theorem refPut_small (n : Nat) (w : World) (hlt : n < 128) :
    Calls Try.prog 36 #[.int .u64 n] w fun e w' => ∃ B d, e = .returned (.slice B (putN n).length d) ∧ OwnB w.heap.size w' B d (putN n) ∧ Below w.heap.size w w' := by
  have hs : putN n = [(n : Int)] := putN_small hlt
  have hmm : (n : Int) % 256 = (n : Int) := by omega
  have HS := Lib.hid hs
  clear hs
  go_enter Try.func36, Try.ntmps36
  go_wp2_with fail
  go_ret
  rw [HS.out]
  exact ⟨_, _, rfl, OwnB.made1 w n, (Below.refl _ _).alloc (Nat.le_refl _) _⟩

set_option maxHeartbeats 1000000 in
set_option maxRecDepth 100000 in
theorem refPut_k (k : Nat) : ∀ (n : Nat) (w : World), n < 128 ^ (k + 1) → n < 18446744073709551616 →
    Calls Try.prog 36 #[.int .u64 n] w fun e w' => ∃ B d, e = .returned (.slice B (putN n).length d) ∧ OwnB w.heap.size w' B d (putN n) ∧ Below w.heap.size w w' := by
  induction k with
  | zero => intro n w hn _; exact refPut_small n w (by simpa using hn)
  | succ k ih =>
    intro n w hn h64
    by_cases hlt : n < 128
    · exact refPut_small n w hlt
    · have hge : 128 ≤ n := by omega
      have hs : putN n = ((n % 128 + 128 : Nat) : Int) :: putN (n / 128) := putN_big hlt
      have hn2 : n / 128 < 128 ^ (k + 1) := by rw [Nat.pow_succ] at hn; omega
      have hl := (putN_len k (n / 128) hn2).2
      have hwr : IntKind.u64.wrap ((n : Int) / 128) = (n : Int) / 128 := by rw [IntKind.wrap_u64]; omega
      have IH := Lib.hid fun W => ih (n / 128) W hn2 (by omega)
      have hl10 := (putN_len 9 (n / 128) (by omega)).2
      obtain ⟨z, hz1⟩ : ∃ z : Int, (n : Int) % 128 + 128 = z := ⟨_, rfl⟩
      have hz2 : (n : Int) % 128 % 256 = (n : Int) % 128 := by omega
      have hzz1 : putN n = z :: putN (n / 128) := by
        rw [hs, ← hz1]
        rfl
      have HZ := Lib.hid hzz1
      clear hzz1
      rw [show (((n / 128 : Nat)) : Int) = (n : Int) / 128 by omega] at IH
      generalize hP : putN (n / 128) = P at *
      clear hP hn hn2 hs ih hlt h64
      go_enter Try.func36, Try.ntmps36
      go_wp2_with fail
      refine (IH.out _).mono ?_
      rintro e w1 ⟨B, d, rfl, hown, hb1⟩
      have hz := hb1.size
      have HO := Lib.hid hown
      have HB := Lib.hid ((OwnB.made1 w z).over hb1)
      have HN := Lib.hid (((Below.refl w.heap.size w).alloc (Nat.le_refl _) (.cells #[.int .u8 z] 5)).trans (hb1.mono (by simp)))
      have hzz := HN.out.size
      clear hown hb1
      go_wp2_with (at_builtin; refine appSB rfl _ _ rfl w.heap.size (some ⟨w.heap.size, 0, none⟩) 1 1 [z] rfl (by rfl) HB.out B d P (by rfl) HO.out.sl HO.out.nil_cap hzz (by simp; omega) ?_)
      intro B2 d2 w3 hown3 hgrow hb3
      have HO3 := Lib.hid hown3
      have HN3 := Lib.hid (HN.out.trans hb3)
      clear hown3 hgrow hb3
      go_wp2
      go_ret
      rw [HZ.out]
      exact ⟨B2, d2, by simp [Nat.add_comm], HO3.out, HN3.out⟩

theorem refPut_any (n : Nat) (hn : n < 18446744073709551616) (w : World) :
    Calls Try.prog 36 #[.int .u64 n] w fun e w' => ∃ B d, e = .returned (.slice B (putN n).length d) ∧ OwnB w.heap.size w' B d (putN n) ∧ Below w.heap.size w w' :=
  refPut_k 9 n w (by omega) hn
end Go.Proofs.Ytdbodnpfeiplgaa
