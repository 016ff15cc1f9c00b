/- Slots: Set, Ask, Free at no book; Ask, Free of a name without a pool. -/
import Derived.Test.YtaikjobebbighaaSlI
import Derived.OwnWalk
namespace Go.Proofs.Ytaikjobebbighaa
set_option linter.unusedVariables false
set_option maxRecDepth 100000
open Go.RowKit
theorem free_nil (k : Key) (t : Int) (w : World) : Calls Try.prog 13 #[.pointer none, nm k, .int .u64 t] w fun e w' => e = .returned (.tuple #[.slice none 0 0, .int .i64 1]) ∧ w' = w := by
  go_enter Try.func13, Try.ntmps13
  go_wp2_with fail
  go_ret2
  exact ⟨rfl, rfl⟩
theorem set_nil (k : Key) (n : Int) (w : World) : Calls Try.prog 11 #[.pointer none, nm k, .int .i64 n] w fun e w' => e = .returned (.tuple #[.slice none 0 0, .int .i64 1]) ∧ w' = w := by
  go_enter Try.func11, Try.ntmps11
  go_wp2_with fail
  go_ret2
  exact ⟨rfl, rfl⟩
theorem ask_nil (k : Key) (x : Pl) (w : World) : Calls Try.prog 12 #[.pointer none, nm k, .agg #[.int .u64 x.1, .int .i64 x.2]] w fun e w' => e = .returned (.tuple #[.bool false, .int .i64 1]) ∧ Below w.heap.size w w' := by
  go_enter Try.func12, Try.ntmps12
  go_wp2_with fail
  go_ret2
  exact ⟨rfl, (Below.refl _ _).alloc (Nat.le_refl _) _⟩
theorem free_no (g b : Nat) (st : Bk) (ys : List Wh) (k : Key) (t : Int) (w : World) (h : BkAt w g b st ys) (hg : bkGet st ys k = none) (hk : k.length ≤ 1000000) :
    Calls Try.prog 13 #[.pointer (some ⟨g, 0, none⟩), nm k, .int .u64 t] w fun e w' => e = .returned (.tuple #[.slice none 0 0, .int .i64 5]) ∧ w' = w := by
  have c := h.row.cell 0
  simp at c
  have hl := h.look k hk
  rw [hg] at hl
  have hl2 : (Instr.lookup 72 (.map (some b)) (nm k) false).run Try.prog w = .ok (.pointer none) w := hl
  clear hl h
  go_enter Try.func13, Try.ntmps13
  go_wp2_with fail
  go_ret2
  exact ⟨rfl, rfl⟩
end Go.Proofs.Ytaikjobebbighaa
