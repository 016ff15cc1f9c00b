/- The laws' closures: where an identity stands in a row, and what the other row has there. -/
import Derived.Test.YtdbodnpfeiplgaaPeKb
import Derived.Test.YtdbodnpfeiplgaaPeL
namespace Go.Proofs.Ytdbodnpfeiplgaa
set_option linter.unusedVariables false
open Go.RowKit
def lookF : List Int → List Int → Int → Int
  | x :: l, r, id => if x = id then r.headD 0 else lookF l r.tail id
  | [], _, _ => 0
theorem lookF_at : ∀ (l r : List Int) (id : Int) (k : Nat), k < l.length → (∀ j, j < k → l.getD j 0 ≠ id) → l.getD k 0 = id → lookF l r id = r.getD k 0
  | [], _, _, k, hk, _, _ => by simp at hk
  | x :: l, r, id, 0, _, _, he => by
    simp at he
    subst he
    cases r <;> simp [lookF]
  | x :: l, r, id, k + 1, hk, hn, he => by
    have h0 := hn 0 (by omega)
    simp at h0
    rw [lookF, if_neg h0, lookF_at l r.tail id k (by simpa using hk) (fun j hj => by simpa using hn (j + 1) (by omega)) (by simpa using he)]
    cases r <;> simp
theorem lookF_none : ∀ (l r : List Int) (id : Int), (∀ j, j < l.length → l.getD j 0 ≠ id) → lookF l r id = 0
  | [], _, _, _ => rfl
  | x :: l, r, id, hn => by
    have h0 := hn 0 (by simp)
    simp at h0
    rw [lookF, if_neg h0]
    exact lookF_none l r.tail id fun j hj => by simpa using hn (j + 1) (by simpa using hj)
set_option maxHeartbeats 1000000 in
set_option maxRecDepth 100000 in
theorem look_reach (pl pr : Addr) (A R : Option Addr) (c rc : Nat) (l r : List Int) (id : Int) (w : World) (hpl : w.cell? pl = some (.slice A l.length c)) (hpr : w.cell? pr = some (.slice R r.length rc)) (h : Sl w .u64 A l) (g : Sl w .u64 R r) (hl : l.length ≤ 1000000) (hlr : l.length ≤ r.length) (hr : r.length ≤ 1000000) :
    Calls Try.prog 10 #[.int .u64 id, .pointer (some pl), .pointer (some pr)] w fun e w' => e = .returned (.int .u64 (lookF l r id)) ∧ ∃ q, w' = w.drewN q := by
  go_enter Try.func10, Try.ntmps10
  go_wp2_with fail
  go_loopw [5] (fun i wr => ∃ (k q : Nat), k ≤ l.length ∧ i = .int .i64 k ∧ wr = w.drewN q ∧ ∀ j, j < k → l.getD j 0 ≠ id) (fun i _ => l.length - (intOf i).toNat)
  case atStart => exact ⟨0, 0, by omega, rfl, by simp [World.drewN_zero], fun j hj => absurd hj (by omega)⟩
  case round =>
    obtain ⟨k, q, hk, rfl, rfl, hall⟩ := hrel
    have H := Lib.hid hall; clear hall
    by_cases hlt : k < l.length
    · have hlt' : k < r.length := by omega
      obtain ⟨ad, rfl, _, c1⟩ := h k hlt
      obtain ⟨rd, rfl, _, c2⟩ := g k hlt'
      obtain ⟨y, hy⟩ : ∃ y, l[k] = y := ⟨_, rfl⟩
      obtain ⟨z, hz⟩ : ∃ z, r[k] = z := ⟨_, rfl⟩
      rw [hy] at c1
      rw [hz] at c2
      have G1 := Lib.hid ((getD_at hlt).trans hy); clear hy
      have G2 := Lib.hid ((getD_at hlt').trans hz); clear hz
      by_cases ht : y = id
      · subst ht
        have hv := Lib.hid (lookF_at l r y k hlt H.out G1.out)
        go_wp2_with fail
        go_ret
        exact ⟨ret_int (by rw [hv.out, G2.out]), _, rfl⟩
      · have t1 : (y == id) = false := beq_eq_false_iff_ne.2 ht
        have T := Lib.hid ht; clear ht
        go_wp2_with fail
        go_round
        case rel =>
          refine ⟨k + 1, _, by omega, by go_num, rfl, fun j hj => ?_⟩
          rcases Nat.lt_succ_iff_lt_or_eq.1 hj with hj | rfl
          · exact H.out j hj
          · rw [G1.out]; exact T.out
        case measure => simp [intOf]; omega
    · have e : k = l.length := by omega
      subst e
      have hv := Lib.hid (lookF_none l r id H.out)
      go_wp2_with fail
      go_ret
      exact ⟨ret_int hv.out.symm, _, rfl⟩
set_option maxHeartbeats 1000000 in
set_option maxRecDepth 100000 in
theorem look_asks (pl pr : Addr) (A R : Option Addr) (c rc : Nat) (l r : List Int) (id : Int) (w : World) (hpl : w.cell? pl = some (.slice A l.length c)) (hpr : w.cell? pr = some (.slice R r.length rc)) (h : Sl w .u64 A l) (g : Sl w .u64 R r) (hl : l.length ≤ 1000000) (hlr : l.length ≤ r.length) (hr : r.length ≤ 1000000) :
    Calls Try.prog 21 #[.int .u64 id, .pointer (some pl), .pointer (some pr)] w fun e w' => e = .returned (.int .u64 (lookF l r id)) ∧ ∃ q, w' = w.drewN q := by
  go_enter Try.func21, Try.ntmps21
  go_wp2_with fail
  go_loopw [5] (fun i wr => ∃ (k q : Nat), k ≤ l.length ∧ i = .int .i64 k ∧ wr = w.drewN q ∧ ∀ j, j < k → l.getD j 0 ≠ id) (fun i _ => l.length - (intOf i).toNat)
  case atStart => exact ⟨0, 0, by omega, rfl, by simp [World.drewN_zero], fun j hj => absurd hj (by omega)⟩
  case round =>
    obtain ⟨k, q, hk, rfl, rfl, hall⟩ := hrel
    have H := Lib.hid hall; clear hall
    by_cases hlt : k < l.length
    · have hlt' : k < r.length := by omega
      obtain ⟨ad, rfl, _, c1⟩ := h k hlt
      obtain ⟨rd, rfl, _, c2⟩ := g k hlt'
      obtain ⟨y, hy⟩ : ∃ y, l[k] = y := ⟨_, rfl⟩
      obtain ⟨z, hz⟩ : ∃ z, r[k] = z := ⟨_, rfl⟩
      rw [hy] at c1
      rw [hz] at c2
      have G1 := Lib.hid ((getD_at hlt).trans hy); clear hy
      have G2 := Lib.hid ((getD_at hlt').trans hz); clear hz
      by_cases ht : y = id
      · subst ht
        have hv := Lib.hid (lookF_at l r y k hlt H.out G1.out)
        go_wp2_with fail
        go_ret
        exact ⟨ret_int (by rw [hv.out, G2.out]), _, rfl⟩
      · have t1 : (y == id) = false := beq_eq_false_iff_ne.2 ht
        have T := Lib.hid ht; clear ht
        go_wp2_with fail
        go_round
        case rel =>
          refine ⟨k + 1, _, by omega, by go_num, rfl, fun j hj => ?_⟩
          rcases Nat.lt_succ_iff_lt_or_eq.1 hj with hj | rfl
          · exact H.out j hj
          · rw [G1.out]; exact T.out
        case measure => simp [intOf]; omega
    · have e : k = l.length := by omega
      subst e
      have hv := Lib.hid (lookF_none l r id H.out)
      go_wp2_with fail
      go_ret
      exact ⟨ret_int hv.out.symm, _, rfl⟩
end Go.Proofs.Ytdbodnpfeiplgaa
