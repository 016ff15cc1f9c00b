/- Contracts of peers (layer 22): May. -/
import Derived.Test.YtdbodnpfeiplgaaSl
import Derived.Test.YtdbodnpfeiplgaaPeM
import Derived.Test.YtdbodnpfeiplgaaRows
import Derived.WalkKit
import Derived.WalkSpells
import Derived.WalkLawsBesides
import Derived.BigQuiet
import Derived.Deep.QuietTactic
import Derived.Deep.RegionHeld3
import Derived.StillTailTactics
import Derived.Outline
import Derived.Lib.Hide
import Derived.IntWalk
namespace Go.Proofs.Ytdbodnpfeiplgaa
set_option linter.unusedVariables false
open Go.RowKit
theorem ret_int {k : IntKind} {a b : Int} (h : a = b) : Ending.returned (.int k a) = .returned (.int k b) := by rw [h]
theorem ret_bool {a b : Bool} (h : a = b) : Ending.returned (.bool a) = .returned (.bool b) := by rw [h]

theorem may_any (A : Option Addr) (c : Nat) (l : List Int) (w : World) (h : Sl w .u64 A l) (hl : l.length ≤ 9223372036854775807) :
    Calls Try.prog 7 #[.slice A l.length c] w fun e w' => e = .returned (.bool (mayP l)) ∧ w = w' := by
  go_enter Try.func7, Try.ntmps7
  go_wp2_with fail
  go_loop [3, 8] (fun a i => ∃ k : Nat, k ≤ l.length ∧ i = .int .i64 k ∧ a = .int .u64 (prev 0 l k) ∧ ∀ j, j < k → prev 0 l j < l.getD j 0) (fun _ i => l.length - (intOf i).toNat)
  case atStart => exact ⟨0, by omega, rfl, rfl, fun j hj => absurd hj (by omega)⟩
  case round =>
    obtain ⟨k, hk, rfl, rfl, hall⟩ := hrel
    have H := Lib.hid hall; clear hall
    by_cases hlt : k < l.length
    · obtain ⟨ad, rfl, hb, hc⟩ := h k hlt
      have hp1 : prev 0 l (k + 1) = l[k] := by simp [prev, hlt]
      have hg : l.getD k 0 = l[k] := by simp [hlt]
      have P1 := Lib.hid hp1; clear hp1
      have G1 := Lib.hid hg; clear hg
      obtain ⟨x, hx⟩ : ∃ x, l[k] = x := ⟨_, rfl⟩
      rw [hx] at hc
      have P2 := Lib.hid hx; clear hx
      obtain ⟨q, hq⟩ : ∃ q, prev 0 l k = q := ⟨_, rfl⟩
      have Q := Lib.hid hq
      rw [hq]; clear hq
      by_cases ht : x ≤ q
      · go_wp2_with fail
        go_ret
        refine ⟨ret_bool ?_, rfl⟩
        symm
        rw [Bool.eq_false_iff]
        intro hm
        have := (rise_iff l 0).1 (mayP_iff.1 hm).1 k hlt
        rw [Q.out, G1.out, P2.out] at this
        omega
      · have ht' : decide (x ≤ q) = false := decide_eq_false ht
        clear ht
        go_wp2_with fail
        go_round
        case rel =>
          refine ⟨k + 1, by omega, by go_num, by rw [P1.out, P2.out], fun j hj => ?_⟩
          rcases Nat.lt_succ_iff_lt_or_eq.1 hj with hj | rfl
          · exact H.out j hj
          · rw [Q.out, G1.out, P2.out]; simp at ht'; omega
        case measure => simp [intOf]; omega
    · have e : k = l.length := by omega
      subst e
      have hr : rise 0 l = true := (rise_iff l 0).2 fun j hj => H.out j hj
      have hm : mayP l = (decide (1 ≤ l.length) && decide (l.length ≤ 7)) := by unfold mayP; rw [hr]; rfl
      have HM := Lib.hid hm
      clear hm hr H
      have hcases : l.length < 1 ∨ (7 < l.length) ∨ (1 ≤ l.length ∧ l.length ≤ 7) := by omega
      rcases hcases with h1 | h1 | ⟨h1, h2⟩
      · have hv : mayP l = false := by rw [HM.out, decide_eq_false (by omega : ¬ 1 ≤ l.length)]; rfl
        go_wp2_with fail
        all_goals
          go_ret
          first | exact ⟨rfl, rfl⟩ | exact ⟨ret_bool (by simp; omega), rfl⟩
      · have hv : mayP l = false := by rw [HM.out, decide_eq_false (by omega : ¬ l.length ≤ 7), Bool.and_false]
        go_wp2_with fail
        all_goals
          go_ret
          first | exact ⟨rfl, rfl⟩ | exact ⟨ret_bool (by simp; omega), rfl⟩
      · have hv : mayP l = true := by rw [HM.out, decide_eq_true h1, decide_eq_true h2]; rfl
        go_wp2_with fail
        all_goals
          go_ret
          first | exact ⟨rfl, rfl⟩ | exact ⟨ret_bool (by simp; omega), rfl⟩
end Go.Proofs.Ytdbodnpfeiplgaa
