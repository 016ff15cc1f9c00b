/- Contract of pack.Take. -/
import Derived.Test.YtdbodnpfeiplgaaPkA
import Derived.Laws.BitsAllLaws
import Derived.Laws.BitsLemmas
namespace Go.Proofs.Ytdbodnpfeiplgaa
set_option linter.unusedVariables false
open Go.RowKit
/-- What Take answers, by what is found. -/
def rV (r : Option (Nat × Nat)) : Int := match r with | some (v, _) => (v : Int) | none => 0
def rX (at_ : Int) (r : Option (Nat × Nat)) : Int := match r with | some (_, m) => at_ + (m : Int) | none => 0
def rE (r : Option (Nat × Nat)) : Int := match r with | some _ => 0 | none => 4
theorem and_u8 : ∀ k < 256, bits BinOp.and IntKind.u8 ((k : Nat) : Int) 127 = ((k % 128 : Nat) : Int) := by decide +kernel

theorem or_step (acc x k : Nat) (ha : acc < 128 ^ k) (hk : k ≤ 9) (hx : x < 256) (h9 : k = 9 → x ≤ 1) :
    bits BinOp.or IntKind.u64 (acc : Int) (IntKind.u64.wrap ((x : Int) % 128 * 2 ^ (7 * k))) = ((acc + x % 128 * 128 ^ k : Nat) : Int) := by
  have hp : 128 ^ k = 2 ^ (7 * k) := by rw [show (128 : Nat) = 2 ^ 7 by rfl, ← Nat.pow_mul]
  have hy : x % 128 < 2 ^ (64 - 7 * k) := by
    rcases Nat.lt_or_ge k 9 with h | h
    · rw [pow_step (by omega)]
      have := Nat.one_le_two_pow (n := 64 - 7 * (k + 1))
      omega
    · have e : k = 9 := by omega
      subst e
      have : (2 : Nat) ^ (64 - 7 * 9) = 2 := by decide
      have := h9 rfl
      omega
  have hpos : 0 < 2 ^ (7 * k) := Nat.pow_pos (by decide)
  have hm : x % 128 * 2 ^ (7 * k) < 18446744073709551616 := by
    have h1 : x % 128 * 2 ^ (7 * k) < 2 ^ (64 - 7 * k) * 2 ^ (7 * k) := Nat.mul_lt_mul_of_pos_right hy hpos
    rw [← Nat.pow_add, show 64 - 7 * k + 7 * k = 64 by omega] at h1
    exact h1
  have ha2 : acc < 18446744073709551616 := by
    have h1 : 2 ^ (7 * k) ≤ 2 ^ 63 := Nat.pow_le_pow_right (by decide) (by omega)
    rw [hp] at ha
    have h2 : (2 : Nat) ^ 63 = 9223372036854775808 := by decide
    omega
  have hc : (x : Int) % 128 * 2 ^ (7 * k) = ((x % 128 * 2 ^ (7 * k) : Nat) : Int) := by
    rw [Int.natCast_mul, Int.natCast_pow]
    rfl
  rw [hc, IntKind.wrap_u64, Int.emod_eq_of_lt (by omega) (by omega), u64_or_nat _ _ ha2 hm, hp]
  congr 1
  rw [hp] at ha
  have := Nat.two_pow_add_eq_or_of_lt ha (x % 128)
  rw [Nat.or_comm, Nat.mul_comm, ← this, Nat.add_comm]

set_option maxHeartbeats 1000000 in
set_option maxRecDepth 100000 in
theorem take_in (A : Option Addr) (c : Nat) (b : List Int) (at_ : Int) (w : World) (h : Sl w .u8 A b) (hc : b.length ≤ c) (hm : c ≤ maxLen) (hb : ∀ x ∈ b, 0 ≤ x ∧ x < 256) (h0 : 0 ≤ at_) (h1 : at_ ≤ b.length) (r : Option (Nat × Nat)) (hr : tk 0 0 (b.drop at_.toNat) = r) :
    Calls Try.prog 37 #[.slice A b.length c, .int .i64 at_] w fun e w' =>
      e = .returned (.tuple #[.int .u64 (rV r), .int .i64 (rX at_ r), .int .i64 (rE r)]) ∧ w = w' := by
  unfold maxLen at hm
  have hsz : ∀ W, (sizeOf (Try.prog.elem 29)).run Try.prog W = .ok 1 W := fun W => by kernel_rfl
  have hut : Try.prog.underlying 29 = some (.slice (Try.prog.elem 29)) := by kernel_rfl
  have hcut := h.cut (n := at_.toNat) hc
  obtain ⟨A', hA'⟩ : ∃ A', (if c = at_.toNat then A else A.map (·.add at_.toNat)) = A' := ⟨_, rfl⟩
  obtain ⟨L, hL⟩ : ∃ L, b.drop at_.toNat = L := ⟨_, rfl⟩
  have hlen : L.length = b.length - at_.toNat := by rw [← hL, List.length_drop]
  obtain ⟨d, hd⟩ : ∃ d, c - at_.toNat = d := ⟨_, rfl⟩
  have hs : ∀ W, (Instr.slice 29 (.slice A b.length c) (some (.int .i64 at_)) none none).run Try.prog W = .ok (.slice A' L.length d) W := fun W => by
    rw [run_slice_l W _ _ _ _ hut .i64 at_ (by omega) (by omega), hsz]
    simp only [Result.andThen, sliced]
    rw [Nat.mul_one, hA', hlen, hd]
  rw [hA', hL] at hcut
  rw [hL] at hr
  have hLb : ∀ x ∈ L, 0 ≤ x ∧ x < 256 := fun x hx => hb x (List.mem_of_mem_drop (hL ▸ hx))
  have hLl : L.length ≤ 9223372036854775807 := by omega
  have HC := Lib.hid hcut
  have HR := Lib.hid hr
  have HB := Lib.hid hLb
  have hal : at_ + L.length ≤ 9223372036854775807 := by omega
  clear hcut hr hLb hsz hut hA' hL hlen hd h hb hm
  go_enter Try.func37, Try.ntmps37
  go_wp2_with fail
  go_loop [4, 21] (fun v i => ∃ (k acc : Nat), k ≤ L.length ∧ k ≤ 9 ∧ i = .int .i64 k ∧ v = .int .u64 acc ∧ acc < 128 ^ k ∧ tk k acc (L.drop k) = r) (fun _ i => L.length - (intOf i).toNat)
  case atStart => exact ⟨0, 0, by omega, by omega, rfl, rfl, by decide, by rw [List.drop_zero]; exact HR.out⟩
  case round =>
    obtain ⟨k, acc, hk, hk9, rfl, rfl, hacc, htk⟩ := hrel
    have HA := Lib.hid hacc
    by_cases hlt : k < L.length
    · obtain ⟨ad, rfl, hb1, hcell⟩ := HC.out k hlt
      rw [List.drop_eq_getElem_cons hlt, tk] at htk
      have hx := HB.out L[k] (List.getElem_mem _)
      obtain ⟨x, hxe⟩ : ∃ x : Nat, L[k] = (x : Int) := ⟨L[k].toNat, by omega⟩
      rw [hxe] at hcell htk hx
      have hx2 : x < 256 := by omega
      clear hxe hx hacc
      by_cases hbad : (k = 9 ∧ (1 : Int) < (x : Int)) ∨ (0 < k ∧ (x : Int) = 0)
      · rw [if_pos hbad] at htk
        have HT := Lib.hid htk
        clear htk
        have hc2 : (((k : Int) == 9) = true ∧ (1 : Int) < (x : Int)) ∨ (((k : Int) == 9) = false ∧ (0 : Int) < (k : Int) ∧ ((x : Int) == 0) = true) ∨ (((k : Int) == 9) = true ∧ decide ((1 : Int) < (x : Int)) = false ∧ (0 : Int) < (k : Int) ∧ ((x : Int) == 0) = true) := by
          rcases hbad with ⟨h, h2⟩ | ⟨h, h2⟩
          · exact .inl ⟨by rw [h]; rfl, h2⟩
          · by_cases h9 : k = 9
            · exact .inr (.inr ⟨by rw [h9]; rfl, decide_eq_false (by omega), by omega, by rw [h2]; rfl⟩)
            · exact .inr (.inl ⟨beq_eq_false_iff_ne.2 (by omega), by omega, by rw [h2]; rfl⟩)
        clear hbad
        rcases hc2 with ⟨k1, k2⟩ | ⟨k1, k2, k3⟩ | ⟨k1, k2, k3, k4⟩
        all_goals
          go_wp2_with fail
          go_ret3
          rw [← HT.out]
          exact ⟨rfl, rfl⟩
      · rw [if_neg hbad] at htk
        have hstep := or_step acc x k HA.out hk9 hx2 (fun e => by
          have : ¬ (1 : Int) < (x : Int) := fun h => hbad (.inl ⟨e, h⟩)
          omega)
        obtain ⟨acc2, ha2⟩ : ∃ a2, acc + x % 128 * 128 ^ k = a2 := ⟨_, rfl⟩
        rw [ha2] at hstep
        have hand : bits BinOp.and IntKind.u8 (x : Int) 127 = (x : Int) % 128 := by rw [and_u8 x hx2]; omega
        have hcases : (((k : Int) == 9) = false ∧ decide (0 < k) = false) ∨ (((k : Int) == 9) = false ∧ (0 : Int) < (k : Int) ∧ ((x : Int) == 0) = false) ∨ (((k : Int) == 9) = true ∧ decide ((1 : Int) < (x : Int)) = false ∧ (0 : Int) < (k : Int) ∧ ((x : Int) == 0) = false) := by
          have n1 : ¬ (k = 9 ∧ (1 : Int) < (x : Int)) := fun h => hbad (.inl h)
          have n2 : ¬ (0 < k ∧ (x : Int) = 0) := fun h => hbad (.inr h)
          by_cases h9 : k = 9
          · exact .inr (.inr ⟨by rw [h9]; rfl, decide_eq_false (by omega), by omega, beq_eq_false_iff_ne.2 (by omega)⟩)
          · by_cases h00 : 0 < k
            · exact .inr (.inl ⟨beq_eq_false_iff_ne.2 (by omega), by omega, beq_eq_false_iff_ne.2 (by omega)⟩)
            · exact .inl ⟨beq_eq_false_iff_ne.2 (by omega), decide_eq_false (by omega)⟩
        by_cases hx128 : x < 128
        · have hend : r = some (acc2, k + 1) := by
            rw [← htk, if_pos (by omega), ← ha2]
            congr 2
            rw [Int.toNat_natCast, Nat.mod_eq_of_lt hx128]
          have HT := Lib.hid hend
          have hxi : (x : Int) < 128 := by omega
          clear htk hend hbad ha2 hx128
          rcases hcases with ⟨k1, k2⟩ | ⟨k1, k2, k3⟩ | ⟨k1, k2, k3, k4⟩
          all_goals
            go_wp2_with fail
            go_ret3
            rw [HT.out]
            exact ⟨by simp [rV, rX, rE, Int.add_assoc], rfl⟩
        · have hx128' : decide ((x : Int) < 128) = false := decide_eq_false (by omega)
          have hlow : k ≤ 8 := by
            have n1 : ¬ (k = 9 ∧ (1 : Int) < (x : Int)) := fun h => hbad (.inl h)
            omega
          rw [if_neg (by omega), Int.toNat_natCast, ha2] at htk
          have hacc2 : acc2 < 128 ^ (k + 1) := by
            rw [← ha2, Nat.pow_succ]
            have := HA.out
            have h1 : x % 128 * 128 ^ k ≤ 127 * 128 ^ k := Nat.mul_le_mul_right _ (by omega)
            omega
          have HT := Lib.hid htk
          have HA2 := Lib.hid hacc2
          clear htk hacc2 hbad ha2 hx128
          rcases hcases with ⟨k1, k2⟩ | ⟨k1, k2, k3⟩ | ⟨k1, k2, k3, k4⟩
          all_goals
            go_wp2_with fail
            go_round
            case rel => exact ⟨k + 1, acc2, by omega, by omega, by go_num, rfl, HA2.out, HT.out⟩
            case measure => simp [intOf]; omega
    · have e : k = L.length := by omega
      subst e
      rw [List.drop_length, tk] at htk
      have HT := Lib.hid htk
      clear htk hacc
      go_wp2_with fail
      go_ret3
      rw [← HT.out]
      exact ⟨rfl, rfl⟩
end Go.Proofs.Ytdbodnpfeiplgaa
