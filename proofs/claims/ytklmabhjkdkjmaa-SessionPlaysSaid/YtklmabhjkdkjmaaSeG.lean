/- Contract: the reference's Same, of rows that are alike; likes are not unlike. -/
import Derived.Test.YtklmabhjkdkjmaaSeT
import Derived.BigQuiet
namespace Go.Proofs.Ytklmabhjkdkjmaa
set_option linter.unusedVariables false
open Go.RowKit
theorem neqT (W : World) (a b c d : Int) : (binOp .neq 32 (.agg #[.int .u64 a, .int .u64 b, .int .i64 c, .int .u64 d]) (.agg #[.int .u64 a, .int .u64 b, .int .i64 c, .int .u64 d])).run Try.prog W = .ok (.bool false) W := by
  go_simp
theorem neqR (W : World) (a b : Int) : (binOp .neq 30 (.agg #[.int .i64 a, .int .u64 b]) (.agg #[.int .i64 a, .int .u64 b])).run Try.prog W = .ok (.bool false) W := by
  go_simp
set_option maxHeartbeats 1000000 in
theorem same_self (A B : Option Addr) (c d : Nat) (ts : List Tk) (w : World) (ha : TkS w A ts) (hb : TkS w B ts) (hl : ts.length ≤ 1000000) :
    Calls Try.prog 11 #[.slice A ts.length c, .slice B ts.length d] w fun e w' => e = .returned (.bool true) ∧ ∃ q, w' = w.drewN q := by
  have tl : ((ts.length : Int) != (ts.length : Int)) = false := by simp
  have HA := Lib.hid ha
  have HB := Lib.hid hb
  clear ha hb
  go_enter Try.func11, Try.ntmps11
  go_wp2_with fail
  go_loopw [5] (fun i wr => ∃ (k q : Nat), k ≤ ts.length ∧ i = .int .i64 k ∧ wr = w.drewN q) (fun i _ => ts.length - (intOf i).toNat)
  case atStart => exact ⟨0, 0, by omega, rfl, by simp [World.drewN_zero]⟩
  case round =>
    obtain ⟨k, q, hk, rfl, rfl⟩ := hrel
    by_cases hlt : k < ts.length
    · obtain ⟨ad, rfl, -⟩ := HA.out k hlt
      obtain ⟨bd, rfl, -⟩ := HB.out k hlt
      obtain ⟨-, a1, a2, a3, a4⟩ := HA.out.cells4 k hlt
      obtain ⟨-, b1, b2, b3, b4⟩ := HB.out.cells4 k hlt
      generalize ts[k] = t at a1 a2 a3 a4 b1 b2 b3 b4
      have hne := fun W => neqT W t.cl t.sq t.e t.n
      go_wp2_with fail
      go_big_quiet (fail)
      go_wp2_with fail
      go_round
      case rel => exact ⟨k + 1, q + nq, by omega, by go_num, rfl⟩
      case measure => simp [intOf]; omega
    · obtain rfl : k = ts.length := by omega
      go_wp2_with fail
      go_ret
      exact ⟨rfl, q, rfl⟩
end Go.Proofs.Ytklmabhjkdkjmaa
