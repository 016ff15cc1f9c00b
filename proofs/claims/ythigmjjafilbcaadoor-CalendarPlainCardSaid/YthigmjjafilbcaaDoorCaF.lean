/- Contracts of package field (Has, May) and of the reference's (layer 6). -/
import Derived.Test.YthigmjjafilbcaaDoorStC
import Derived.Test.YthigmjjafilbcaaDoorCaM
import Derived.Test.YthigmjjafilbcaaDoorMa
import Derived.Deep.DeepCutAuto
import Derived.Laws.BitsAllLaws
namespace Go.Proofs.YthigmjjafilbcaaDoor
set_option linter.unusedVariables false
open Go.RowKit
theorem shr_one (b : Nat) (n : Nat) (hb : b < 18446744073709551616) : (bits .and .u64 ((b : Int) / 2 ^ n) 1 == 1) = b.testBit n := by
  have e : ((b : Int) / 2 ^ n) = ((b / 2 ^ n : Nat) : Int) := by simp
  have hlt : b / 2 ^ n < 18446744073709551616 := Nat.lt_of_le_of_lt (Nat.div_le_self _ _) hb
  rw [e, show (1 : Int) = ((1 : Nat) : Int) from rfl, u64_and_nat _ 1 hlt (by decide), Nat.and_one_is_mod]
  rw [Nat.testBit_eq_decide_div_mod_eq]
  rcases Nat.mod_two_eq_zero_or_one (b / 2 ^ n) with h | h <;> simp [h]
theorem fhas_any (b : Nat) (s : Bool) (n : Int) (w : World) (hb : b < 18446744073709551616) :
    Calls Tryd.prog 44 #[.agg #[.int .u64 b, .bool s], .int .i64 n] w fun e w' => e = .returned (.bool (hasF b n)) ∧ Below w.heap.size w w' := by
  unfold hasF
  go_enter Tryd.func44, Tryd.ntmps44
  by_cases h0 : 0 ≤ n
  · by_cases h1 : n ≤ 63
    · go_wp2_with fail
      go_ret
      exact ⟨ret_bool (by rw [shr_one b _ hb]; simp [h0, h1]), (Below.refl _ _).alloc (Nat.le_refl _) _⟩
    · go_wp2_with fail
      go_ret
      exact ⟨ret_bool (by rw [decide_eq_false (show ¬ n ≤ 63 by omega)]; simp), (Below.refl _ _).alloc (Nat.le_refl _) _⟩
  · go_wp2_with fail
    go_ret
    exact ⟨ret_bool (by rw [decide_eq_false (show ¬ 0 ≤ n by omega)]; rfl), (Below.refl _ _).alloc (Nat.le_refl _) _⟩
theorem fis_any (k : Int) (w : World) (h0 : 0 ≤ k) (h4 : k ≤ 4) :
    Calls Tryd.prog 78 #[.int .i64 k] w fun e w' => e = .returned (.bool true) ∧ w' = w := by
  go_enter Tryd.func78, Tryd.ntmps78
  go_wp2_with fail
  go_ret
  exact ⟨rfl, rfl⟩
def mostK (k : Int) : Int := highK k
def topK (k : Int) : Int := if k = 4 then 7 else highK k
theorem five {k : Int} (h0 : 0 ≤ k) (h4 : k ≤ 4) : k = 0 ∨ k = 1 ∨ k = 2 ∨ k = 3 ∨ k = 4 := by omega
theorem beq0 (n : Nat) : ((n : Int) == 0) = (n == 0) := by
  rw [Bool.eq_iff_iff]; simp
set_option maxHeartbeats 2000000 in
theorem fbounds_any (k : Int) (w : World) (h0 : 0 ≤ k) (h4 : k ≤ 4) :
    Calls Tryd.prog 88 #[.int .i64 k] w fun e w' => e = .returned (.tuple #[.int .i64 (lowK k), .int .i64 (topK k), .int .i64 (highK k)]) ∧ Below w.heap.size w w' := by
  rcases five h0 h4 with rfl | rfl | rfl | rfl | rfl
  all_goals
    go_enter Tryd.func88, Tryd.ntmps88
    go_wp2_with fail
    go_quiet (fail)
    go_wp2
    go_ret3
    exact ⟨rfl, below_drewN ((Below.refl _ _).alloc (Nat.le_refl _) _) _⟩
theorem fall_any (k : Int) (w : World) (h0 : 0 ≤ k) (h4 : k ≤ 4) :
    Calls Tryd.prog 79 #[.int .i64 k] w fun e w' => e = .returned (.int .u64 (allK k)) ∧ Below w.heap.size w w' := by
  have c := (fbounds_any k · h0 h4)
  rcases five h0 h4 with rfl | rfl | rfl | rfl | rfl
  all_goals
    simp (decide := true) only [lowK, topK, highK, if_true, if_false] at c
    have C := Lib.hid c
    clear c
    go_enter Tryd.func79, Tryd.ntmps79
    go_wp2_with (go_at_call 88; refine (C.out _).mono ?_; rintro e w' ⟨rfl, hb⟩)
    go_quiet (fail)
    go_wp2
    go_ret
    exact ⟨rfl, below_drewN hb _⟩
theorem fmay_any (k : Int) (b : Nat) (s : Bool) (w : World) (h0 : 0 ≤ k) (h4 : k ≤ 4) (hb : b < 18446744073709551616) :
    Calls Tryd.prog 62 #[.int .i64 k, .agg #[.int .u64 b, .bool s]] w fun e w' => e = .returned (.bool (mayF k b)) ∧ Below w.heap.size w w' := by
  have C1 := Lib.hid (fis_any k · h0 h4)
  have c2 := (fall_any k · h0 h4)
  have hk : allK k < 18446744073709551616 := by rcases five h0 h4 with rfl | rfl | rfl | rfl | rfl <;> decide
  have hu := u64_andNot_nat b (allK k) hb hk
  unfold mayF
  generalize allK k = A at *
  have c1 : (w.alloc (.cells #[.int .u64 b, .bool s] 27)).drew.cell? ⟨w.heap.size, 0, none⟩ = some (.int .u64 b) := (Row.new w _ _).cell 0
  obtain ⟨T, F, hT, hF, hG⟩ := class_of (fun v => v.cell? ⟨w.heap.size, 0, none⟩ = some (.int .u64 b) ∧ Below (w.alloc (.cells #[.int .u64 b, .bool s] 27)).heap.size (w.alloc (.cells #[.int .u64 b, .bool s] 27)) v) (w.alloc (.cells #[.int .u64 b, .bool s] 27)).drew ⟨c1, (Below.refl _ _).drew⟩
  have q1 := fun n => (hF n).1
  have Q0 := Lib.hid (hG _ ⟨c1, (Below.refl _ _).drew⟩)
  have QB := Lib.hid (fun n => (hF n).2)
  have C3 := Lib.hid (fun n => show Calls Tryd.prog 78 #[.int .i64 k] (F n) fun e w' => e = .returned (.bool true) ∧ ∃ m, w' = F m from (C1.out (F n)).mono fun e w' ⟨he, hw⟩ => ⟨he, n, hw⟩)
  have C4 := Lib.hid (fun n => show Calls Tryd.prog 79 #[.int .i64 k] (F n) fun e w' => e = .returned (.int .u64 A) ∧ ∃ m, w' = F m from (c2 (F n)).mono fun e w' ⟨he, hw⟩ => ⟨he, hG _ ⟨(hw.cell (World.block_lt_of_cell? _ _ (q1 n))).trans (q1 n), nextC (QB.out n) hw⟩⟩)
  clear hF hG c2 C1 c1
  cases hz : ((b : Int) != 0)
  · have hz2 : (b == 0) = true := by simpa using hz
    go_enter Tryd.func62, Tryd.ntmps62
    go_wp2_with fail
    refine wp_region_class F (by kernel_rfl) (by kernel_rfl) Q0.out ?_
    repeat (go_big_quiet_step (first | (go_at_call 78; exact C3.out _) | (go_at_call 79; exact C4.out _)))
    refine wpQuiet_nil ?_
    rintro _ ⟨nq, rfl⟩
    go_wp2_with fail
    go_ret
    exact ⟨ret_bool (by rw [hz2]; rfl), nextA (Below.refl _ _) (QB.out nq)⟩
  · have hz2 : (b == 0) = false := by simpa using hz
    go_enter Tryd.func62, Tryd.ntmps62
    go_wp2_with fail
    refine wp_region_class F (by kernel_rfl) (by kernel_rfl) Q0.out ?_
    repeat (go_big_quiet_step (first | (go_at_call 78; exact C3.out _) | (go_at_call 79; exact C4.out _)))
    refine wpQuiet_nil ?_
    rintro _ ⟨nq, rfl⟩
    go_wp2_with fail
    go_ret
    exact ⟨ret_bool (by rw [hz2, beq0]; rfl), nextA (Below.refl _ _) (QB.out nq)⟩
end Go.Proofs.YthigmjjafilbcaaDoor
