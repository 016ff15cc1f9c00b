/- Slots: place, with one value. -/
import Derived.Test.YtaikjobebbighaaMe
import Derived.Test.YtaikjobebbighaaSlJ
namespace Go.Proofs.Ytaikjobebbighaa
set_option linter.unusedVariables false
set_option maxRecDepth 100000
open Go.RowKit
theorem place_val (A : Option Addr) (c : Nat) (l : List Pl) (t : Int) (w : World) (h : PlS w A l) (hl : l.length ≤ 100000000) :
    Calls Try.prog 28 #[.slice A l.length c, .int .u64 t] w fun e w' => e = .returned (.int .i64 (placeV l t)) ∧ Below w.heap.size w w' :=
  (place_any A c l t w h hl).mono fun e w' hh => by
    obtain ⟨⟨q, rfl, hq⟩, hb⟩ := hh
    exact ⟨by rw [placeI_val hq], hb⟩
/-- No pool of that name. -/
theorem ask_no (g b : Nat) (st : Bk) (ys : List Wh) (k : Key) (x : Pl) (w : World) (h : BkAt w g b st ys) (hg : bkGet st ys k = none) (hk : k.length ≤ 1000000) :
    Calls Try.prog 12 #[.pointer (some ⟨g, 0, none⟩), nm k, .agg #[.int .u64 x.1, .int .i64 x.2]] w fun e w' => e = .returned (.tuple #[.bool false, .int .i64 5]) ∧ Below w.heap.size w w' := by
  obtain ⟨W1, hW1⟩ : ∃ W1, w.alloc (.cells #[.int .u64 x.1, .int .i64 x.2] 38) = W1 := ⟨_, rfl⟩
  have hb1 : Below w.heap.size w W1 := by rw [← hW1]; exact (Below.refl _ w).alloc (Nat.le_refl _) _
  have h1 := h.over hb1
  have c := h1.row.cell 0
  simp at c
  have hl := h1.look k hk
  rw [hg] at hl
  have hl2 : (Instr.lookup 72 (.map (some b)) (nm k) false).run Try.prog W1 = .ok (.pointer none) W1 := hl
  clear hl h h1
  go_enter Try.func12, Try.ntmps12
  go_wp2_with fail
  go_ret2
  exact ⟨rfl, hb1⟩
end Go.Proofs.Ytaikjobebbighaa
