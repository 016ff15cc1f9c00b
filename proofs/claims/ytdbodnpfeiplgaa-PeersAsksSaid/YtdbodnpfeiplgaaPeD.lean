/- Contracts of slices' functions at []uint64: Clone. -/
import Derived.Test.YtdbodnpfeiplgaaPeC
import Derived.Test.YtdbodnpfeiplgaaApp
import Derived.OwnWalk
import Derived.Laws.OwnMore
import Derived.Shelf.Slices.Clone
namespace Go.Proofs.Ytdbodnpfeiplgaa
set_option linter.unusedVariables false
open Go.RowKit

theorem intsOne {k : IntKind} {xs : List Int} : ∀ u ∈ xs.map (Value.int k), u.oneCell' = true := fun u hu => by
  obtain ⟨x, _, rfl⟩ := List.mem_map.1 hu
  rfl

set_option maxHeartbeats 1000000 in
theorem clone_any (A : Option Addr) (c : Nat) (l : List Int) (w : World) (h : Sl w .u64 A l) (hl : l.length ≤ 1000000) :
    Calls Try.prog 32 #[.slice A l.length c] w fun e w' => ∃ B d, e = .returned (.slice B l.length d) ∧ OwnU w.heap.size w' B d l ∧ Below w.heap.size w w' := by
  obtain ⟨i0, hi, hz0, hz1, hz2⟩ := info_parts infoU
  have q22 : ∀ (w : World) (a : Option Addr) (n c n' c' : Nat), (binOp .eql 22 (.slice a n c) (.slice none n' c')).run Try.prog w = .ok (.bool a.isNone) w := fun w a n c n' c' => Lib.run_eql_slice_nil w _ _ a n c n' c' Try.underlying22
  cases A with
  | none =>
    have e : l = [] := by
      rcases l with _ | ⟨x, xs⟩
      · rfl
      · obtain ⟨ad, e, _⟩ := h 0 (by simp)
        cases e
    subst e
    go_enter Try.func32, Try.ntmps32
    go_wp2_with fail
    go_ret
    exact ⟨none, 0, rfl, OwnU.nil _ _, Below.refl _ _⟩
  | some ad =>
    have H := Lib.hid h; clear h
    go_enter Try.func32, Try.ntmps32
    go_wp2_with (at_builtin; refine wpList_append_own _ rfl _ _ 22 rfl w.heap.size 23 i0 (.int .u64 0) 1 8 Try.underlying22 hi hz0 hz1 hz2 rfl (by decide) _ _ _ rfl (World.ownsRow_made w #[] 0 (Nat.le_refl _) (Nat.zero_le _) rfl) ad l.length c (l.map (Value.int .u64)) rfl ?qc1 ?qc2 ?qc3 ?qc4 ?qc5 ?qc6 ?_)
    case qc1 => simp
    case qc2 => exact fun j u hj => Lib.cell?_alloc_some _ (H.out.cells j u hj)
    case qc3 => exact intsOne
    case qc4 => unfold maxLen; omega
    case qc5 => omega
    case qc6 => simp
    intro v' w1 hown hgrow hnil
    go_wp2
    go_ret
    obtain ⟨B, d, rfl, _, _⟩ := own_form hown
    exact ⟨B, d, rfl, by simpa [OwnU] using hown, ((Below.refl _ w).alloc (Nat.le_refl _) _).grown hgrow (by simp) (by intro k hk; simp [Value.ownBlock] at hk; omega)⟩
end Go.Proofs.Ytdbodnpfeiplgaa
