/- Slots: slices.Insert of one at places, at any place. -/
import Derived.Test.YtaikjobebbighaaSlC
import Derived.Test.YtaikjobebbighaaRm
namespace Go.Proofs.Ytaikjobebbighaa
set_option linter.unusedVariables false
set_option maxRecDepth 100000
open Go.RowKit
set_option maxHeartbeats 4000000 in
/-- Behind the last. -/
theorem insert_end (base : Nat) (B : Option Addr) (d : Nat) (l : List Pl) (x : Pl) (v : Nat) (w : World) (h : PlO base w B d l) (hv : Row w v 38 (enP x).toArray) (hl : l.length ≤ 1000000) (hbs : base ≤ w.heap.size) :
    Calls Try.prog 47 #[.slice B l.length d, .int .i64 l.length, .slice (some ⟨v, 0, none⟩) 1 1] w fun e w' => (∃ B' d', e = .returned (.slice B' (l.length + 1) d') ∧ PlO base w' B' d' (l ++ [x]) ∧ NearB w.heap.size B B') ∧ w.grownBy w' (Value.ownBlock (.slice B l.length d)) := by
  have hld : l.length ≤ d := by
    rcases h.form with ⟨_, e, el⟩ | ⟨g, _, _, _, e⟩
    · rw [el]; simp
    · exact e
  have hdm : d ≤ maxLen := by
    rcases h.2 with ⟨ev, _⟩ | ⟨g', cap, cur, ev, _, _, _, h4, _⟩
    · injection ev with _ _ e3; rw [e3]; unfold maxLen; omega
    · injection ev with _ _ e3; rw [e3]; exact h4
  have hdm' : d ≤ 9223372036854775807 := by unfold maxLen at hdm; omega
  have hs : PlS w (some ⟨v, 0, none⟩) [x] := RkS.of_row (t := 38) enP_len (by simpa [rkCs] using hv)
  have hrun : ∀ ty, ∃ B' d' w', (Builtin.append_ #[31, 31] ty #[.slice B l.length d, .slice (some ⟨v, 0, none⟩) 1 1]).run Try.prog w = .ok (.slice B' (l.length + 1) d') w' ∧ PlO base w' B' d' (l ++ [x]) ∧ w.grownBy w' (Value.ownBlock (.slice B l.length d)) ∧ NearB w.heap.size B B' := fun ty =>
    run_appK (ys := [x]) Try.underlying31 infoP rfl (by decide) (by decide) enP_len enP_one h ⟨v, 0, none⟩ 1 hs hbs (by simp; omega)
  obtain ⟨B', d', w2, hr, ho, hg, hn⟩ := hrun 31
  have HO := Lib.hid ho
  have HG := Lib.hid hg
  have HN := Lib.hid hn
  clear h hs hv hrun ho hg hn
  go_enter Try.func47, Try.ntmps47
  cases B with
  | none =>
    go_wp2_with (at_builtin; refine Lib.wpList_append_run _ rfl _ _ 31 31 rfl _ _ (by simp [Act.eval]) (by simp [Act.eval]) _ _ hr ?_)
    all_goals (go_ret; exact ⟨⟨_, _, rfl, HO.out, HN.out⟩, HG.out⟩)
  | some ad =>
    go_wp2_with (at_builtin; refine Lib.wpList_append_run _ rfl _ _ 31 31 rfl _ _ (by simp [Act.eval]) (by simp [Act.eval]) _ _ hr ?_)
    all_goals (go_ret; exact ⟨⟨_, _, rfl, HO.out, HN.out⟩, HG.out⟩)
/-- slices.Insert of one place: wherever, room or none. -/
theorem insert_any (base : Nat) (B : Option Addr) (d : Nat) (l : List Pl) (i : Nat) (x : Pl) (v : Nat) (w : World) (h : PlO base w B d l) (hi : i ≤ l.length) (hv : Row w v 38 (enP x).toArray) (hvb : ∀ g, B = some ⟨g, 0, none⟩ → v ≠ g) (hl : l.length ≤ 1000000) (hbs : base ≤ w.heap.size) :
    Calls Try.prog 47 #[.slice B l.length d, .int .i64 i, .slice (some ⟨v, 0, none⟩) 1 1] w fun e w' => (∃ B' d', e = .returned (.slice B' (l.length + 1) d') ∧ PlO base w' B' d' (insT l i x) ∧ NearB w.heap.size B B') ∧ w.grownBy w' (Value.ownBlock (.slice B l.length d)) := by
  by_cases he : i = l.length
  · subst he
    rw [insT_end]
    exact insert_end base B d l x v w h hv hl hbs
  · rcases h.form with ⟨_, _, el⟩ | ⟨g, rfl, _, _, hle⟩
    · subst el
      simp at hi he
      omega
    · by_cases hr : l.length + 1 ≤ d
      · refine (insert_room base g d l i x v w h (by omega) hr hv (hvb g rfl) hl).mono ?_
        rintro e w' ⟨rfl, ho, hg⟩
        exact ⟨⟨_, _, rfl, ho, NearB.same _ _⟩, hg⟩
      · refine (insert_grow base g d l i x v w h (by omega) (by omega) hv hl hbs).mono ?_
        rintro e w' ⟨⟨G, rfl, ho⟩, hb⟩
        exact ⟨⟨_, _, rfl, ho, NearB.new _ (Nat.le_refl _)⟩, ⟨hb.os, hb.tape, hb.output, hb.size, fun k hk _ => hb.block k hk⟩⟩
end Go.Proofs.Ytaikjobebbighaa
