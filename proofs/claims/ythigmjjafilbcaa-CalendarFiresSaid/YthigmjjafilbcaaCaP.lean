/- The reference's reading of fields and expressions, at the few texts that the chapter's rows name: '*', and short numbers. -/
import Derived.Test.YthigmjjafilbcaaRgN
import Derived.Handy
namespace Go.Proofs.Ythigmjjafilbcaa
set_option linter.unusedVariables false
set_option maxRecDepth 100000
open Go.RowKit Go.Maps
theorem infoS : (Try.prog.info? 9).map (fun i => (i.zero, i.size, i.bytes)) = some (some (.string ⟨#[]⟩), 1, 16) := by kernel_rfl
/-- A text without a byte. -/
structure NoSep (s : ByteArray) (by_ : Int) : Prop where
  ix : ∀ i : Nat, i < s.size → ∃ c : Int, (c == by_) = false ∧ ∀ W, (Instr.index 9 (.string s) (.int .i64 i)).run Try.prog W = .ok (.int .u8 c) W
  sl : ∀ W, (Instr.slice 9 (.string s) (some (.int .i64 0)) none none).run Try.prog W = .ok (.string s) W
theorem refSplitS (s : ByteArray) (by_ : Int) (hs : s.size ≤ 1000) (h : NoSep s by_) (w : World) :
    Calls Try.prog 75 #[.string s, .int .u8 by_] w fun e w' => (∃ g cap, e = .returned (.slice (some ⟨g, 0, none⟩) 1 cap) ∧ w'.cell? ⟨g, 0, none⟩ = some (.string s)) ∧ Below w.heap.size w w' := by
  obtain ⟨i0, hinfo, hz0, hz1, hz2⟩ := info_parts infoS
  have hsl := h.sl
  go_enter Try.func75, Try.ntmps75
  go_wp2_with fail
  go_loop [5, 6, 7] (fun o a i => ∃ k : Nat, k ≤ s.size ∧ i = .int .i64 k ∧ o = .slice none 0 0 ∧ a = .int .i64 0) (fun _ _ i => s.size - (intOf i).toNat)
  case atStart => exact ⟨0, by omega, rfl, rfl, rfl⟩
  case round =>
    obtain ⟨k, hk, rfl, rfl, rfl⟩ := hrel
    by_cases hlt : k < s.size
    · obtain ⟨c, hc1, hc2⟩ := h.ix k hlt
      go_wp2_with fail
      go_round
      case rel => exact ⟨k + 1, by omega, by go_num, rfl, rfl⟩
      case measure => simp [intOf]; omega
    · have e : k = s.size := by omega
      subst e
      go_wp2_with (at_builtin; refine wpList_append_own_at _ rfl _ _ 81 rfl w.heap.size 9 i0 (.string ⟨#[]⟩) 1 16 Try.underlying81 hinfo hz0 hz1 hz2 rfl (by decide) (.slice none 0 0) 0 [] rfl (World.ownsRow_nil _ _ _ _) ⟨w.heap.size, 0, none⟩ 1 1 [.string s] rfl rfl (cell_one_new _ _ _) (by simp [Value.oneCell']) (by unfold maxLen; omega) (by omega) (by simp) ?_; intro v' w1 hown' hgrow _ hat; obtain ⟨g', cap', rfl⟩ := ownsRow_succ hown')
      go_ret
      refine ⟨⟨g', ⟨cap', rfl⟩, ?_⟩, ((Below.refl w.heap.size w).alloc (Nat.le_refl _) _).grown hgrow (by simp) (fun q e => by simp [Value.ownBlock] at e)⟩
      have := hown'.cellAt 0 (by omega)
      simpa using this
/-- The texts. -/
def sStar : ByteArray := ⟨#[42]⟩
def s0T : ByteArray := ⟨#[48]⟩
def s6T : ByteArray := ⟨#[54]⟩
def s12T : ByteArray := ⟨#[49, 50]⟩
theorem noSep1 (c by_ : Int) (s : ByteArray) (hs : s.size = 1) (hc : (c == by_) = false) (h1 : ∀ W, (Instr.index 9 (.string s) (.int .i64 0)).run Try.prog W = .ok (.int .u8 c) W)
    (h2 : ∀ W, (Instr.slice 9 (.string s) (some (.int .i64 0)) none none).run Try.prog W = .ok (.string s) W) : NoSep s by_ :=
  ⟨fun i hi => ⟨c, hc, by have e : i = 0 := by omega
                          subst e; exact h1⟩, h2⟩
theorem nsStar (by_ : Int) (h : ((42 : Int) == by_) = false) : NoSep sStar by_ := noSep1 42 by_ _ rfl h (fun _ => by kernel_rfl) (fun _ => by kernel_rfl)
theorem ns0 (by_ : Int) (h : ((48 : Int) == by_) = false) : NoSep s0T by_ := noSep1 48 by_ _ rfl h (fun _ => by kernel_rfl) (fun _ => by kernel_rfl)
theorem ns6 (by_ : Int) (h : ((54 : Int) == by_) = false) : NoSep s6T by_ := noSep1 54 by_ _ rfl h (fun _ => by kernel_rfl) (fun _ => by kernel_rfl)
theorem ns12 (by_ : Int) (h : ((49 : Int) == by_) = false) (h' : ((50 : Int) == by_) = false) : NoSep s12T by_ := by
  have hix : ∀ W, (Instr.index 9 (.string s12T) (.int .i64 0)).run Try.prog W = .ok (.int .u8 49) W := fun _ => by kernel_rfl
  have hix2 : ∀ W, (Instr.index 9 (.string s12T) (.int .i64 1)).run Try.prog W = .ok (.int .u8 50) W := fun _ => by kernel_rfl
  refine ⟨fun i hi => ?_, fun _ => by kernel_rfl⟩
  have e : i = 0 ∨ i = 1 := by
    have : s12T.size = 2 := rfl
    omega
  rcases e with rfl | rfl
  · exact ⟨49, h, hix⟩
  · exact ⟨50, h', hix2⟩
/-- A short number: its text is read. -/
def NumS (s : ByteArray) (d : Int) : Prop := ∀ (kind : Int) (w : World), Calls Try.prog 82 #[.int .i64 kind, .string s] w fun e w' => e = .returned (.int .i64 d) ∧ w' = w
theorem num0 : NumS s0T 0 := fun kind w => by
  unfold s0T
  have hx0 : ∀ W, (Instr.index 9 (.string ⟨#[48]⟩) (.int .i64 0)).run Try.prog W = .ok (.int .u8 48) W := fun _ => by kernel_rfl
  go_enter Try.func82, Try.ntmps82
  go_wp2_with fail
  go_rounds 2
  go_ret
  exact ⟨rfl, rfl⟩
theorem num6 : NumS s6T 6 := fun kind w => by
  unfold s6T
  have hx0 : ∀ W, (Instr.index 9 (.string ⟨#[54]⟩) (.int .i64 0)).run Try.prog W = .ok (.int .u8 54) W := fun _ => by kernel_rfl
  go_enter Try.func82, Try.ntmps82
  go_wp2_with fail
  go_rounds 2
  go_ret
  exact ⟨rfl, rfl⟩
theorem num12 : NumS s12T 12 := fun kind w => by
  unfold s12T
  have hx0 : ∀ W, (Instr.index 9 (.string ⟨#[49, 50]⟩) (.int .i64 0)).run Try.prog W = .ok (.int .u8 49) W := fun _ => by kernel_rfl
  have hx1 : ∀ W, (Instr.index 9 (.string ⟨#[49, 50]⟩) (.int .i64 1)).run Try.prog W = .ok (.int .u8 50) W := fun _ => by kernel_rfl
  go_enter Try.func82, Try.ntmps82
  go_wp2_with fail
  go_rounds 3
  go_ret
  exact ⟨rfl, rfl⟩
end Go.Proofs.Ythigmjjafilbcaa
