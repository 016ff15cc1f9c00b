/- The reference's reading of fields and expressions, at the few texts that the chapter's rows name: '*', and short numbers. The reference's items: '*', and a short number. The reference's fields and expressions of the chapter's texts. The reference's reading of the chapter's two expressions. The reference's Fires. The law's of and heavy. -/
import Derived.Test.YthigmjjafilbcaaDoorRgN
import Derived.Handy
namespace Go.Proofs.YthigmjjafilbcaaDoor
set_option linter.unusedVariables false
set_option maxRecDepth 100000
open Go.RowKit Go.Maps
theorem infoS : (Tryd.prog.info? 9).map (fun i => (i.zero, i.size, i.bytes)) = some (some (.string ⟨#[]⟩), 1, 16) := by kernel_rfl
/-- A text without a byte. -/
structure NoSep (s : ByteArray) (by_ : Int) : Prop where
  ix : ∀ i : Nat, i < s.size → ∃ c : Int, (c == by_) = false ∧ ∀ W, (Instr.index 9 (.string s) (.int .i64 i)).run Tryd.prog W = .ok (.int .u8 c) W
  sl : ∀ W, (Instr.slice 9 (.string s) (some (.int .i64 0)) none none).run Tryd.prog W = .ok (.string s) W
theorem refSplitS (s : ByteArray) (by_ : Int) (hs : s.size ≤ 1000) (h : NoSep s by_) (w : World) :
    Calls Tryd.prog 84 #[.string s, .int .u8 by_] w fun e w' => (∃ g cap, e = .returned (.slice (some ⟨g, 0, none⟩) 1 cap) ∧ w'.cell? ⟨g, 0, none⟩ = some (.string s)) ∧ Below w.heap.size w w' := by
  obtain ⟨i0, hinfo, hz0, hz1, hz2⟩ := info_parts infoS
  have hsl := h.sl
  go_enter Tryd.func84, Tryd.ntmps84
  go_wp2_with fail
  go_loop [5, 6, 7] (fun o a i => ∃ k : Nat, k ≤ s.size ∧ i = .int .i64 k ∧ o = .slice none 0 0 ∧ a = .int .i64 0) (fun _ _ i => s.size - (intOf i).toNat)
  case atStart => exact ⟨0, by omega, rfl, rfl, rfl⟩
  case round =>
    obtain ⟨k, hk, rfl, rfl, rfl⟩ := hrel
    by_cases hlt : k < s.size
    · obtain ⟨c, hc1, hc2⟩ := h.ix k hlt
      go_wp2_with fail
      go_round
      case rel => exact ⟨k + 1, by omega, by go_num, rfl, rfl⟩
      case measure => simp [intOf]; omega
    · have e : k = s.size := by omega
      subst e
      go_wp2_with (at_builtin; refine wpList_append_own_at _ rfl _ _ 88 rfl w.heap.size 9 i0 (.string ⟨#[]⟩) 1 16 Tryd.underlying88 hinfo hz0 hz1 hz2 rfl (by decide) (.slice none 0 0) 0 [] rfl (World.ownsRow_nil _ _ _ _) ⟨w.heap.size, 0, none⟩ 1 1 [.string s] rfl rfl (cell_one_new _ _ _) (by simp [Value.oneCell']) (by unfold maxLen; omega) (by omega) (by simp) ?_; intro v' w1 hown' hgrow _ hat; obtain ⟨g', cap', rfl⟩ := ownsRow_succ hown')
      go_ret
      refine ⟨⟨g', ⟨cap', rfl⟩, ?_⟩, ((Below.refl w.heap.size w).alloc (Nat.le_refl _) _).grown hgrow (by simp) (fun q e => by simp [Value.ownBlock] at e)⟩
      have := hown'.cellAt 0 (by omega)
      simpa using this
/-- The texts. -/
def sStar : ByteArray := ⟨#[42]⟩
def s0T : ByteArray := ⟨#[48]⟩
def s6T : ByteArray := ⟨#[54]⟩
def s12T : ByteArray := ⟨#[49, 50]⟩
theorem noSep1 (c by_ : Int) (s : ByteArray) (hs : s.size = 1) (hc : (c == by_) = false) (h1 : ∀ W, (Instr.index 9 (.string s) (.int .i64 0)).run Tryd.prog W = .ok (.int .u8 c) W)
    (h2 : ∀ W, (Instr.slice 9 (.string s) (some (.int .i64 0)) none none).run Tryd.prog W = .ok (.string s) W) : NoSep s by_ :=
  ⟨fun i hi => ⟨c, hc, by have e : i = 0 := by omega
                          subst e; exact h1⟩, h2⟩
theorem nsStar (by_ : Int) (h : ((42 : Int) == by_) = false) : NoSep sStar by_ := noSep1 42 by_ _ rfl h (fun _ => by kernel_rfl) (fun _ => by kernel_rfl)
theorem ns0 (by_ : Int) (h : ((48 : Int) == by_) = false) : NoSep s0T by_ := noSep1 48 by_ _ rfl h (fun _ => by kernel_rfl) (fun _ => by kernel_rfl)
theorem ns6 (by_ : Int) (h : ((54 : Int) == by_) = false) : NoSep s6T by_ := noSep1 54 by_ _ rfl h (fun _ => by kernel_rfl) (fun _ => by kernel_rfl)
theorem ns12 (by_ : Int) (h : ((49 : Int) == by_) = false) (h' : ((50 : Int) == by_) = false) : NoSep s12T by_ := by
  have hix : ∀ W, (Instr.index 9 (.string s12T) (.int .i64 0)).run Tryd.prog W = .ok (.int .u8 49) W := fun _ => by kernel_rfl
  have hix2 : ∀ W, (Instr.index 9 (.string s12T) (.int .i64 1)).run Tryd.prog W = .ok (.int .u8 50) W := fun _ => by kernel_rfl
  refine ⟨fun i hi => ?_, fun _ => by kernel_rfl⟩
  have e : i = 0 ∨ i = 1 := by
    have : s12T.size = 2 := rfl
    omega
  rcases e with rfl | rfl
  · exact ⟨49, h, hix⟩
  · exact ⟨50, h', hix2⟩
/-- A short number: its text is read. -/
def NumS (s : ByteArray) (d : Int) : Prop := ∀ (kind : Int) (w : World), Calls Tryd.prog 91 #[.int .i64 kind, .string s] w fun e w' => e = .returned (.int .i64 d) ∧ w' = w
theorem num0 : NumS s0T 0 := fun kind w => by
  unfold s0T
  have hx0 : ∀ W, (Instr.index 9 (.string ⟨#[48]⟩) (.int .i64 0)).run Tryd.prog W = .ok (.int .u8 48) W := fun _ => by kernel_rfl
  go_enter Tryd.func91, Tryd.ntmps91
  go_wp2_with fail
  go_rounds 2
  go_ret
  exact ⟨rfl, rfl⟩
theorem num6 : NumS s6T 6 := fun kind w => by
  unfold s6T
  have hx0 : ∀ W, (Instr.index 9 (.string ⟨#[54]⟩) (.int .i64 0)).run Tryd.prog W = .ok (.int .u8 54) W := fun _ => by kernel_rfl
  go_enter Tryd.func91, Tryd.ntmps91
  go_wp2_with fail
  go_rounds 2
  go_ret
  exact ⟨rfl, rfl⟩
theorem num12 : NumS s12T 12 := fun kind w => by
  unfold s12T
  have hx0 : ∀ W, (Instr.index 9 (.string ⟨#[49, 50]⟩) (.int .i64 0)).run Tryd.prog W = .ok (.int .u8 49) W := fun _ => by kernel_rfl
  have hx1 : ∀ W, (Instr.index 9 (.string ⟨#[49, 50]⟩) (.int .i64 1)).run Tryd.prog W = .ok (.int .u8 50) W := fun _ => by kernel_rfl
  go_enter Tryd.func91, Tryd.ntmps91
  go_wp2_with fail
  go_rounds 3
  go_ret
  exact ⟨rfl, rfl⟩
end Go.Proofs.YthigmjjafilbcaaDoor
namespace Go.Proofs.YthigmjjafilbcaaDoor
set_option linter.unusedVariables false
set_option maxRecDepth 100000
open Go.RowKit Go.Maps
theorem kinds_bd {k : Int} (h0 : 0 ≤ k) (h4 : k ≤ 4) : 0 ≤ lowK k ∧ lowK k ≤ highK k ∧ highK k ≤ 59 := by
  rcases five h0 h4 with rfl | rfl | rfl | rfl | rfl <;> decide
set_option maxHeartbeats 1000000 in
theorem itemStar (k : Int) (h0 : 0 ≤ k) (h4 : k ≤ 4) (w : World) :
    Calls Tryd.prog 85 #[.int .i64 k, .string sStar] w fun e w' => (∃ u, e = .returned (.tuple #[u, .int .i64 0]) ∧ w'.ownsRow w.heap.size 3 1 u (highK k - lowK k + 1).toNat ((stepsL (lowK k) 1 (highK k - lowK k + 1).toNat).map (Value.int .i64))) ∧ Below w.heap.size w w' := by
  have hbd := kinds_bd h0 h4
  have CS := Lib.hid (refSplitS sStar 47 (by decide) (nsStar 47 rfl))
  have CL := Lib.hid (refLow_any k)
  have CH := Lib.hid (refHigh_any k · h0 h4)
  generalize lowK k = lo at *
  generalize highK k = hi at *
  unfold sStar at *
  go_enter Tryd.func85, Tryd.ntmps85
  go_wp2_with fail
  refine (CS.out _).mono ?_
  rintro e w1 ⟨⟨g, cap, rfl, hc⟩, hb1⟩
  have hblk := World.block_lt_of_cell? _ _ hc
  go_wp2_with fail
  refine (CL.out _).mono ?_
  rintro e w2 ⟨rfl, rfl⟩
  go_wp2_with fail
  refine (CH.out _).mono ?_
  rintro e w2 ⟨rfl, rfl⟩
  go_wp2_with fail
  have HQB := Lib.hid hb1
  clear hb1 hc
  obtain ⟨i0, hinfo, hz0, hz1, hz2⟩ := info_parts infoI
  go_loopw [12, 13] (fun o i wr => ∃ (m : Nat) (u : Value), (m : Int) ≤ hi - lo + 1 ∧ i = .int .i64 (lo + (m : Int)) ∧ u = o ∧ wr.ownsRow w2.heap.size 3 1 u m ((stepsL lo 1 m).map (Value.int .i64)) ∧ Below w2.heap.size w2 wr) (fun _ i _ => (hi + 1 - intOf i).toNat)
  case atStart => exact ⟨0, .slice none 0 0, by omega, by simp, rfl, World.ownsRow_nil _ _ _ _, Below.refl _ _⟩
  case round =>
    obtain ⟨m, u, hm, rfl, rfl, hown, hbw⟩ := hrel
    have HS := Lib.hid (stepsL_succ lo 1 m)
    have hzw := hbw.size
    by_cases hlt : lo + (m : Int) ≤ hi
    · obtain ⟨xx, hxx⟩ : ∃ xx, lo + (m : Int) = xx := ⟨_, rfl⟩
      have HXX := Lib.hid hxx
      rw [hxx] at hlt ⊢
      have hxr : xx ≤ 60 := by omega
      have hxr0 : 0 ≤ xx := by omega
      have hm60 : m ≤ 60 := by omega
      clear hxx
      go_wp2_with (at_builtin; refine wpList_append_own_at _ rfl _ _ 22 rfl w2.heap.size 3 i0 (.int .i64 0) 1 8 Tryd.underlying22 hinfo hz0 hz1 hz2 rfl (by decide) u m _ rfl (hown.alloc _) ⟨wr.heap.size, 0, none⟩ 1 1 [.int .i64 xx] rfl rfl (cell_one_new _ _ _) (by simp [Value.oneCell']) (by unfold maxLen; omega) (by omega) (by simp; omega) ?_; intro v' w1 hown' hgrow _ hat)
      have hb1 : Below w2.heap.size w2 w1 := (hbw.alloc hzw _).grown hgrow (by simp; omega) (fun q e => (hown.lt q e).1)
      have HB1 := Lib.hid hb1
      have HO1 := Lib.hid hown'
      clear hb1 hown' hgrow hat
      go_wp2_with fail
      go_roundw
      case rel =>
        refine ⟨m + 1, _, by have := HXX.out; omega, by have := HXX.out; go_num, rfl, ?_, HB1.out⟩
        rw [HS.out, List.map_append]
        rw [show (lo : Int) + 1 * (m : Int) = xx by have := HXX.out; omega]
        exact HO1.out
      case measure => simp [intOf]; omega
    · have e : (m : Int) = hi - lo + 1 := by omega
      have HE := Lib.hid e
      clear e
      go_wp2_with fail
      go_ret2
      have hmm : m = (hi - lo + 1).toNat := by have := HE.out; omega
      subst hmm
      exact ⟨⟨_, rfl, own_le hown (by have := HQB.out.size; omega)⟩, HQB.out.trans (hbw.mono HQB.out.size)⟩
set_option maxHeartbeats 1000000 in
theorem itemN0 (k : Int) (h0 : 0 ≤ k) (h4 : k ≤ 4) (hl : lowK k ≤ 0) (hh : 0 ≤ highK k) (w : World) :
    Calls Tryd.prog 85 #[.int .i64 k, .string s0T] w fun e w' => (∃ u, e = .returned (.tuple #[u, .int .i64 0]) ∧ w'.ownsRow w.heap.size 3 1 u ((0 : Int) - 0 + 1).toNat ((stepsL 0 1 ((0 : Int) - 0 + 1).toNat).map (Value.int .i64))) ∧ Below w.heap.size w w' := by
  have CS := Lib.hid (refSplitS s0T 47 (by decide) (ns0 47 rfl))
  have CS2 := Lib.hid (refSplitS s0T 45 (by decide) (ns0 45 rfl))
  have CN := Lib.hid (fun W => num0 k W)
  have CL := Lib.hid (refLow_any k)
  have CH := Lib.hid (refHigh_any k · h0 h4)
  generalize lowK k = lo at *
  generalize highK k = hi at *
  have c1 : decide ((0 : Int) < lo) = false := decide_eq_false (by omega)
  have c2 : decide (hi < (0 : Int)) = false := decide_eq_false (by omega)
  unfold s0T at *
  go_enter Tryd.func85, Tryd.ntmps85
  go_wp2_with fail
  refine (CS.out _).mono ?_
  rintro e w1 ⟨⟨g, cap, rfl, hc⟩, hb1⟩
  have hblk := World.block_lt_of_cell? _ _ hc
  go_wp2_with fail
  refine (CL.out _).mono ?_
  rintro e w2 ⟨rfl, rfl⟩
  go_wp2_with fail
  refine (CH.out _).mono ?_
  rintro e w2 ⟨rfl, rfl⟩
  go_wp2_with fail
  refine (CS2.out _).mono ?_
  rintro e w3 ⟨⟨g2, cap2, rfl, hc2⟩, hb3⟩
  go_wp2_with fail
  refine (CN.out _).mono ?_
  rintro e w4 ⟨rfl, rfl⟩
  go_wp2_with fail
  refine (CN.out _).mono ?_
  rintro e w4 ⟨rfl, rfl⟩
  go_wp2_with fail
  refine (CH.out _).mono ?_
  rintro e w5 ⟨rfl, rfl⟩
  by_cases hk4 : k = 4
  · subst hk4
    go_wp2_with fail
    refine (CL.out _).mono ?_
    rintro e w9 ⟨rfl, rfl⟩
    go_wp2_with fail
    have HQB := Lib.hid (nextC hb1 hb3)
    clear hb1 hc hb3 hc2
    obtain ⟨i0, hinfo, hz0, hz1, hz2⟩ := info_parts infoI
    go_loopw [12, 13] (fun o i wr => ∃ (m : Nat) (u : Value), (m : Int) ≤ (0 : Int) - 0 + 1 ∧ i = .int .i64 ((0 : Int) + (m : Int)) ∧ u = o ∧ wr.ownsRow w9.heap.size 3 1 u m ((stepsL 0 1 m).map (Value.int .i64)) ∧ Below w9.heap.size w9 wr) (fun _ i _ => ((0 : Int) + 1 - intOf i).toNat)
    case atStart => exact ⟨0, .slice none 0 0, by omega, by simp, rfl, World.ownsRow_nil _ _ _ _, Below.refl _ _⟩
    case round =>
      obtain ⟨m, u, hm, rfl, rfl, hown, hbw⟩ := hrel
      have HS := Lib.hid (stepsL_succ 0 1 m)
      have hzw := hbw.size
      by_cases hlt : (0 : Int) + (m : Int) ≤ 0
      · obtain ⟨xx, hxx⟩ : ∃ xx, (0 : Int) + (m : Int) = xx := ⟨_, rfl⟩
        have HXX := Lib.hid hxx
        rw [hxx] at hlt ⊢
        have hxr : xx ≤ 60 := by omega
        have hxr0 : 0 ≤ xx := by omega
        have hm60 : m ≤ 60 := by omega
        clear hxx
        go_wp2_with (at_builtin; refine wpList_append_own_at _ rfl _ _ 22 rfl w9.heap.size 3 i0 (.int .i64 0) 1 8 Tryd.underlying22 hinfo hz0 hz1 hz2 rfl (by decide) u m _ rfl (hown.alloc _) ⟨wr.heap.size, 0, none⟩ 1 1 [.int .i64 xx] rfl rfl (cell_one_new _ _ _) (by simp [Value.oneCell']) (by unfold maxLen; omega) (by omega) (by simp; omega) ?_; intro v' w1 hown' hgrow _ hat)
        have hb1 : Below w9.heap.size w9 w1 := (hbw.alloc hzw _).grown hgrow (by simp; omega) (fun q e => (hown.lt q e).1)
        have HB1 := Lib.hid hb1
        have HO1 := Lib.hid hown'
        clear hb1 hown' hgrow hat
        go_wp2_with fail
        go_roundw
        case rel =>
          refine ⟨m + 1, _, by have := HXX.out; omega, by have := HXX.out; go_num, rfl, ?_, HB1.out⟩
          rw [HS.out, List.map_append]
          rw [show (0 : Int) + 1 * (m : Int) = xx by have := HXX.out; omega]
          exact HO1.out
        case measure => simp [intOf]; omega
      · have e : (m : Int) = (0 : Int) - 0 + 1 := by omega
        have HE := Lib.hid e
        clear e
        go_wp2_with fail
        go_ret2
        have hmm : m = ((0 : Int) - 0 + 1).toNat := by have := HE.out; omega
        subst hmm
        exact ⟨⟨_, rfl, own_le hown (by have := HQB.out.size; omega)⟩, HQB.out.trans (hbw.mono HQB.out.size)⟩
  · have hk5 : (k == 4) = false := by simpa using hk4
    clear hk4
    go_wp2_with fail
    refine (CL.out _).mono ?_
    rintro e w9 ⟨rfl, rfl⟩
    go_wp2_with fail
    have HQB := Lib.hid (nextC hb1 hb3)
    clear hb1 hc hb3 hc2
    obtain ⟨i0, hinfo, hz0, hz1, hz2⟩ := info_parts infoI
    go_loopw [12, 13] (fun o i wr => ∃ (m : Nat) (u : Value), (m : Int) ≤ (0 : Int) - 0 + 1 ∧ i = .int .i64 ((0 : Int) + (m : Int)) ∧ u = o ∧ wr.ownsRow w9.heap.size 3 1 u m ((stepsL 0 1 m).map (Value.int .i64)) ∧ Below w9.heap.size w9 wr) (fun _ i _ => ((0 : Int) + 1 - intOf i).toNat)
    case atStart => exact ⟨0, .slice none 0 0, by omega, by simp, rfl, World.ownsRow_nil _ _ _ _, Below.refl _ _⟩
    case round =>
      obtain ⟨m, u, hm, rfl, rfl, hown, hbw⟩ := hrel
      have HS := Lib.hid (stepsL_succ 0 1 m)
      have hzw := hbw.size
      by_cases hlt : (0 : Int) + (m : Int) ≤ 0
      · obtain ⟨xx, hxx⟩ : ∃ xx, (0 : Int) + (m : Int) = xx := ⟨_, rfl⟩
        have HXX := Lib.hid hxx
        rw [hxx] at hlt ⊢
        have hxr : xx ≤ 60 := by omega
        have hxr0 : 0 ≤ xx := by omega
        have hm60 : m ≤ 60 := by omega
        clear hxx
        go_wp2_with (at_builtin; refine wpList_append_own_at _ rfl _ _ 22 rfl w9.heap.size 3 i0 (.int .i64 0) 1 8 Tryd.underlying22 hinfo hz0 hz1 hz2 rfl (by decide) u m _ rfl (hown.alloc _) ⟨wr.heap.size, 0, none⟩ 1 1 [.int .i64 xx] rfl rfl (cell_one_new _ _ _) (by simp [Value.oneCell']) (by unfold maxLen; omega) (by omega) (by simp; omega) ?_; intro v' w1 hown' hgrow _ hat)
        have hb1 : Below w9.heap.size w9 w1 := (hbw.alloc hzw _).grown hgrow (by simp; omega) (fun q e => (hown.lt q e).1)
        have HB1 := Lib.hid hb1
        have HO1 := Lib.hid hown'
        clear hb1 hown' hgrow hat
        go_wp2_with fail
        go_roundw
        case rel =>
          refine ⟨m + 1, _, by have := HXX.out; omega, by have := HXX.out; go_num, rfl, ?_, HB1.out⟩
          rw [HS.out, List.map_append]
          rw [show (0 : Int) + 1 * (m : Int) = xx by have := HXX.out; omega]
          exact HO1.out
        case measure => simp [intOf]; omega
      · have e : (m : Int) = (0 : Int) - 0 + 1 := by omega
        have HE := Lib.hid e
        clear e
        go_wp2_with fail
        go_ret2
        have hmm : m = ((0 : Int) - 0 + 1).toNat := by have := HE.out; omega
        subst hmm
        exact ⟨⟨_, rfl, own_le hown (by have := HQB.out.size; omega)⟩, HQB.out.trans (hbw.mono HQB.out.size)⟩
set_option maxHeartbeats 1000000 in
theorem itemN12 (k : Int) (h0 : 0 ≤ k) (h4 : k ≤ 4) (hk5 : (k == 4) = false) (hl : lowK k ≤ 12) (hh : 12 ≤ highK k) (w : World) :
    Calls Tryd.prog 85 #[.int .i64 k, .string s12T] w fun e w' => (∃ u, e = .returned (.tuple #[u, .int .i64 0]) ∧ w'.ownsRow w.heap.size 3 1 u ((12 : Int) - 12 + 1).toNat ((stepsL 12 1 ((12 : Int) - 12 + 1).toNat).map (Value.int .i64))) ∧ Below w.heap.size w w' := by
  have CS := Lib.hid (refSplitS s12T 47 (by decide) (ns12 47 rfl rfl))
  have CS2 := Lib.hid (refSplitS s12T 45 (by decide) (ns12 45 rfl rfl))
  have CN := Lib.hid (fun W => num12 k W)
  have CL := Lib.hid (refLow_any k)
  have CH := Lib.hid (refHigh_any k · h0 h4)
  generalize lowK k = lo at *
  generalize highK k = hi at *
  have c1 : decide ((12 : Int) < lo) = false := decide_eq_false (by omega)
  have c2 : decide (hi < (12 : Int)) = false := decide_eq_false (by omega)
  unfold s12T at *
  go_enter Tryd.func85, Tryd.ntmps85
  go_wp2_with fail
  refine (CS.out _).mono ?_
  rintro e w1 ⟨⟨g, cap, rfl, hc⟩, hb1⟩
  have hblk := World.block_lt_of_cell? _ _ hc
  go_wp2_with fail
  refine (CL.out _).mono ?_
  rintro e w2 ⟨rfl, rfl⟩
  go_wp2_with fail
  refine (CH.out _).mono ?_
  rintro e w2 ⟨rfl, rfl⟩
  go_wp2_with fail
  refine (CS2.out _).mono ?_
  rintro e w3 ⟨⟨g2, cap2, rfl, hc2⟩, hb3⟩
  go_wp2_with fail
  refine (CN.out _).mono ?_
  rintro e w4 ⟨rfl, rfl⟩
  go_wp2_with fail
  refine (CN.out _).mono ?_
  rintro e w4 ⟨rfl, rfl⟩
  go_wp2_with fail
  refine (CH.out _).mono ?_
  rintro e w5 ⟨rfl, rfl⟩
  go_wp2_with fail
  refine (CL.out _).mono ?_
  rintro e w9 ⟨rfl, rfl⟩
  go_wp2_with fail
  have HQB := Lib.hid (nextC hb1 hb3)
  clear hb1 hc hb3 hc2
  obtain ⟨i0, hinfo, hz0, hz1, hz2⟩ := info_parts infoI
  go_loopw [12, 13] (fun o i wr => ∃ (m : Nat) (u : Value), (m : Int) ≤ (12 : Int) - 12 + 1 ∧ i = .int .i64 ((12 : Int) + (m : Int)) ∧ u = o ∧ wr.ownsRow w9.heap.size 3 1 u m ((stepsL 12 1 m).map (Value.int .i64)) ∧ Below w9.heap.size w9 wr) (fun _ i _ => ((12 : Int) + 1 - intOf i).toNat)
  case atStart => exact ⟨0, .slice none 0 0, by omega, by simp, rfl, World.ownsRow_nil _ _ _ _, Below.refl _ _⟩
  case round =>
    obtain ⟨m, u, hm, rfl, rfl, hown, hbw⟩ := hrel
    have HS := Lib.hid (stepsL_succ 12 1 m)
    have hzw := hbw.size
    by_cases hlt : (12 : Int) + (m : Int) ≤ 12
    · obtain ⟨xx, hxx⟩ : ∃ xx, (12 : Int) + (m : Int) = xx := ⟨_, rfl⟩
      have HXX := Lib.hid hxx
      rw [hxx] at hlt ⊢
      have hxr : xx ≤ 60 := by omega
      have hxr0 : 0 ≤ xx := by omega
      have hm60 : m ≤ 60 := by omega
      clear hxx
      go_wp2_with (at_builtin; refine wpList_append_own_at _ rfl _ _ 22 rfl w9.heap.size 3 i0 (.int .i64 0) 1 8 Tryd.underlying22 hinfo hz0 hz1 hz2 rfl (by decide) u m _ rfl (hown.alloc _) ⟨wr.heap.size, 0, none⟩ 1 1 [.int .i64 xx] rfl rfl (cell_one_new _ _ _) (by simp [Value.oneCell']) (by unfold maxLen; omega) (by omega) (by simp; omega) ?_; intro v' w1 hown' hgrow _ hat)
      have hb1 : Below w9.heap.size w9 w1 := (hbw.alloc hzw _).grown hgrow (by simp; omega) (fun q e => (hown.lt q e).1)
      have HB1 := Lib.hid hb1
      have HO1 := Lib.hid hown'
      clear hb1 hown' hgrow hat
      go_wp2_with fail
      go_roundw
      case rel =>
        refine ⟨m + 1, _, by have := HXX.out; omega, by have := HXX.out; go_num, rfl, ?_, HB1.out⟩
        rw [HS.out, List.map_append]
        rw [show (12 : Int) + 1 * (m : Int) = xx by have := HXX.out; omega]
        exact HO1.out
      case measure => simp [intOf]; omega
    · have e : (m : Int) = (12 : Int) - 12 + 1 := by omega
      have HE := Lib.hid e
      clear e
      go_wp2_with fail
      go_ret2
      have hmm : m = ((12 : Int) - 12 + 1).toNat := by have := HE.out; omega
      subst hmm
      exact ⟨⟨_, rfl, own_le hown (by have := HQB.out.size; omega)⟩, HQB.out.trans (hbw.mono HQB.out.size)⟩
set_option maxHeartbeats 1000000 in
theorem itemN6 (k : Int) (h0 : 0 ≤ k) (h4 : k ≤ 4) (hl : lowK k ≤ 6) (hh : 6 ≤ highK k) (w : World) :
    Calls Tryd.prog 85 #[.int .i64 k, .string s6T] w fun e w' => (∃ u, e = .returned (.tuple #[u, .int .i64 0]) ∧ w'.ownsRow w.heap.size 3 1 u ((6 : Int) - 6 + 1).toNat ((stepsL 6 1 ((6 : Int) - 6 + 1).toNat).map (Value.int .i64))) ∧ Below w.heap.size w w' := by
  have CS := Lib.hid (refSplitS s6T 47 (by decide) (ns6 47 rfl))
  have CS2 := Lib.hid (refSplitS s6T 45 (by decide) (ns6 45 rfl))
  have CN := Lib.hid (fun W => num6 k W)
  have CL := Lib.hid (refLow_any k)
  have CH := Lib.hid (refHigh_any k · h0 h4)
  generalize lowK k = lo at *
  generalize highK k = hi at *
  have c1 : decide ((6 : Int) < lo) = false := decide_eq_false (by omega)
  have c2 : decide (hi < (6 : Int)) = false := decide_eq_false (by omega)
  unfold s6T at *
  go_enter Tryd.func85, Tryd.ntmps85
  go_wp2_with fail
  refine (CS.out _).mono ?_
  rintro e w1 ⟨⟨g, cap, rfl, hc⟩, hb1⟩
  have hblk := World.block_lt_of_cell? _ _ hc
  go_wp2_with fail
  refine (CL.out _).mono ?_
  rintro e w2 ⟨rfl, rfl⟩
  go_wp2_with fail
  refine (CH.out _).mono ?_
  rintro e w2 ⟨rfl, rfl⟩
  go_wp2_with fail
  refine (CS2.out _).mono ?_
  rintro e w3 ⟨⟨g2, cap2, rfl, hc2⟩, hb3⟩
  go_wp2_with fail
  refine (CN.out _).mono ?_
  rintro e w4 ⟨rfl, rfl⟩
  go_wp2_with fail
  refine (CN.out _).mono ?_
  rintro e w4 ⟨rfl, rfl⟩
  go_wp2_with fail
  refine (CH.out _).mono ?_
  rintro e w5 ⟨rfl, rfl⟩
  by_cases hk4 : k = 4
  · subst hk4
    go_wp2_with fail
    refine (CL.out _).mono ?_
    rintro e w9 ⟨rfl, rfl⟩
    go_wp2_with fail
    have HQB := Lib.hid (nextC hb1 hb3)
    clear hb1 hc hb3 hc2
    obtain ⟨i0, hinfo, hz0, hz1, hz2⟩ := info_parts infoI
    go_loopw [12, 13] (fun o i wr => ∃ (m : Nat) (u : Value), (m : Int) ≤ (6 : Int) - 6 + 1 ∧ i = .int .i64 ((6 : Int) + (m : Int)) ∧ u = o ∧ wr.ownsRow w9.heap.size 3 1 u m ((stepsL 6 1 m).map (Value.int .i64)) ∧ Below w9.heap.size w9 wr) (fun _ i _ => ((6 : Int) + 1 - intOf i).toNat)
    case atStart => exact ⟨0, .slice none 0 0, by omega, by simp, rfl, World.ownsRow_nil _ _ _ _, Below.refl _ _⟩
    case round =>
      obtain ⟨m, u, hm, rfl, rfl, hown, hbw⟩ := hrel
      have HS := Lib.hid (stepsL_succ 6 1 m)
      have hzw := hbw.size
      by_cases hlt : (6 : Int) + (m : Int) ≤ 6
      · obtain ⟨xx, hxx⟩ : ∃ xx, (6 : Int) + (m : Int) = xx := ⟨_, rfl⟩
        have HXX := Lib.hid hxx
        rw [hxx] at hlt ⊢
        have hxr : xx ≤ 60 := by omega
        have hxr0 : 0 ≤ xx := by omega
        have hm60 : m ≤ 60 := by omega
        clear hxx
        go_wp2_with (at_builtin; refine wpList_append_own_at _ rfl _ _ 22 rfl w9.heap.size 3 i0 (.int .i64 0) 1 8 Tryd.underlying22 hinfo hz0 hz1 hz2 rfl (by decide) u m _ rfl (hown.alloc _) ⟨wr.heap.size, 0, none⟩ 1 1 [.int .i64 xx] rfl rfl (cell_one_new _ _ _) (by simp [Value.oneCell']) (by unfold maxLen; omega) (by omega) (by simp; omega) ?_; intro v' w1 hown' hgrow _ hat)
        have hb1 : Below w9.heap.size w9 w1 := (hbw.alloc hzw _).grown hgrow (by simp; omega) (fun q e => (hown.lt q e).1)
        have HB1 := Lib.hid hb1
        have HO1 := Lib.hid hown'
        clear hb1 hown' hgrow hat
        go_wp2_with fail
        go_roundw
        case rel =>
          refine ⟨m + 1, _, by have := HXX.out; omega, by have := HXX.out; go_num, rfl, ?_, HB1.out⟩
          rw [HS.out, List.map_append]
          rw [show (6 : Int) + 1 * (m : Int) = xx by have := HXX.out; omega]
          exact HO1.out
        case measure => simp [intOf]; omega
      · have e : (m : Int) = (6 : Int) - 6 + 1 := by omega
        have HE := Lib.hid e
        clear e
        go_wp2_with fail
        go_ret2
        have hmm : m = ((6 : Int) - 6 + 1).toNat := by have := HE.out; omega
        subst hmm
        exact ⟨⟨_, rfl, own_le hown (by have := HQB.out.size; omega)⟩, HQB.out.trans (hbw.mono HQB.out.size)⟩
  · have hk5 : (k == 4) = false := by simpa using hk4
    clear hk4
    go_wp2_with fail
    refine (CL.out _).mono ?_
    rintro e w9 ⟨rfl, rfl⟩
    go_wp2_with fail
    have HQB := Lib.hid (nextC hb1 hb3)
    clear hb1 hc hb3 hc2
    obtain ⟨i0, hinfo, hz0, hz1, hz2⟩ := info_parts infoI
    go_loopw [12, 13] (fun o i wr => ∃ (m : Nat) (u : Value), (m : Int) ≤ (6 : Int) - 6 + 1 ∧ i = .int .i64 ((6 : Int) + (m : Int)) ∧ u = o ∧ wr.ownsRow w9.heap.size 3 1 u m ((stepsL 6 1 m).map (Value.int .i64)) ∧ Below w9.heap.size w9 wr) (fun _ i _ => ((6 : Int) + 1 - intOf i).toNat)
    case atStart => exact ⟨0, .slice none 0 0, by omega, by simp, rfl, World.ownsRow_nil _ _ _ _, Below.refl _ _⟩
    case round =>
      obtain ⟨m, u, hm, rfl, rfl, hown, hbw⟩ := hrel
      have HS := Lib.hid (stepsL_succ 6 1 m)
      have hzw := hbw.size
      by_cases hlt : (6 : Int) + (m : Int) ≤ 6
      · obtain ⟨xx, hxx⟩ : ∃ xx, (6 : Int) + (m : Int) = xx := ⟨_, rfl⟩
        have HXX := Lib.hid hxx
        rw [hxx] at hlt ⊢
        have hxr : xx ≤ 60 := by omega
        have hxr0 : 0 ≤ xx := by omega
        have hm60 : m ≤ 60 := by omega
        clear hxx
        go_wp2_with (at_builtin; refine wpList_append_own_at _ rfl _ _ 22 rfl w9.heap.size 3 i0 (.int .i64 0) 1 8 Tryd.underlying22 hinfo hz0 hz1 hz2 rfl (by decide) u m _ rfl (hown.alloc _) ⟨wr.heap.size, 0, none⟩ 1 1 [.int .i64 xx] rfl rfl (cell_one_new _ _ _) (by simp [Value.oneCell']) (by unfold maxLen; omega) (by omega) (by simp; omega) ?_; intro v' w1 hown' hgrow _ hat)
        have hb1 : Below w9.heap.size w9 w1 := (hbw.alloc hzw _).grown hgrow (by simp; omega) (fun q e => (hown.lt q e).1)
        have HB1 := Lib.hid hb1
        have HO1 := Lib.hid hown'
        clear hb1 hown' hgrow hat
        go_wp2_with fail
        go_roundw
        case rel =>
          refine ⟨m + 1, _, by have := HXX.out; omega, by have := HXX.out; go_num, rfl, ?_, HB1.out⟩
          rw [HS.out, List.map_append]
          rw [show (6 : Int) + 1 * (m : Int) = xx by have := HXX.out; omega]
          exact HO1.out
        case measure => simp [intOf]; omega
      · have e : (m : Int) = (6 : Int) - 6 + 1 := by omega
        have HE := Lib.hid e
        clear e
        go_wp2_with fail
        go_ret2
        have hmm : m = ((6 : Int) - 6 + 1).toNat := by have := HE.out; omega
        subst hmm
        exact ⟨⟨_, rfl, own_le hown (by have := HQB.out.size; omega)⟩, HQB.out.trans (hbw.mono HQB.out.size)⟩
end Go.Proofs.YthigmjjafilbcaaDoor
namespace Go.Proofs.YthigmjjafilbcaaDoor
set_option linter.unusedVariables false
set_option maxRecDepth 100000
open Go.RowKit Go.Maps
/-- `m` bits, from the `a`-th. -/
def bv (a m : Nat) : Nat := 2 ^ a * (2 ^ m - 1)
theorem bv_succ (a m : Nat) : bv a m + 2 ^ (a + m) = bv a (m + 1) := by
  unfold bv
  have : 0 < 2 ^ m := Nat.two_pow_pos _
  rw [Nat.pow_add, ← Nat.mul_add, Nat.pow_succ]
  congr 1; omega
theorem bv_lt (a m : Nat) : bv a m < 2 ^ (a + m) := by
  have := bv_succ a m
  unfold bv at *
  have h1 : 0 < 2 ^ m := Nat.two_pow_pos _
  have h2 : 0 < 2 ^ a := Nat.two_pow_pos _
  rw [Nat.pow_add]
  exact Nat.mul_lt_mul_of_pos_left (by omega) h2
theorem bv_small {a m : Nat} (h : a + m ≤ 60) : bv a m < 1152921504606846977 := by
  have := bv_lt a m
  have := Nat.pow_le_pow_right (n := 2) (by decide) h
  omega
theorem pow_small {a : Nat} (h : a ≤ 60) : 2 ^ a < 1152921504606846977 := by
  have := Nat.pow_le_pow_right (n := 2) (by decide) h
  omega
theorem bv_has {a m : Nat} (n : Int) (e : n = (a : Int) + (m : Int)) : hasF (bv a m) n = false := by
  unfold hasF
  have : n.toNat = a + m := by omega
  rw [this, Nat.testBit_lt_two_pow (bv_lt a m)]; simp
theorem results_row_tmp {P : Program} {fn : Func} {p u : Tmp} {ty : TypeId} (h : fn.results = #[.cell p ty, .tmp u]) (tmps : Array Value) (w : World) (g : Nat) (t : TypeId) (cs : Array Value) (fr : Nat × Nat) (d : TypeDesc) (x : Value)
    (hp : tmps[p]?.getD undef = .pointer (some ⟨g, 0, none⟩)) (hg : w.heap[g]? = some (.cells cs t fr))
    (hu : P.underlying ty = some d) (hd : (match d with | .struct _ | .array _ _ => true | _ => false) = true) (hi : (P.info? ty).map (·.size) = some cs.size) (hx : tmps[u]?.getD undef = x) :
    (results fn tmps).run P w = .ok (.tuple #[.agg cs, x]) w := by
  have e1 : (asAddr (tmps[p]?.getD undef)).run P w = .ok ⟨g, 0, none⟩ w := by rw [hp]; rfl
  have e2 := run_loadVar_row w g t ty cs fr d hg hu hd hi
  subst hx
  simp only [results, h]
  simp [Sem.run_bind, Result.andThen, e1, e2]
theorem size_alloc' (w : World) (o : Obj) : (w.alloc o).heap.size = w.heap.size + 1 := Array.size_push _
set_option maxHeartbeats 1000000 in
theorem parseS (k : Int) (h0 : 0 ≤ k) (h4 : k ≤ 4) (s : ByteArray) (hs : 0 < s.size) (hs' : s.size ≤ 10) (c : Int)
    (st : Bool) (hst : (c == 42) = st)
    (hix : ∀ W, (Instr.index 9 (.string s) (.int .i64 0)).run Tryd.prog W = .ok (.int .u8 c) W) (hn : NoSep s 44) (a cnt : Nat) (hpos : 0 < cnt) (hc : a + cnt ≤ 60) (h7 : k = 4 ∧ a + cnt ≤ 7 ∨ (k == 4) = false)
    (CI : ∀ w, Calls Tryd.prog 85 #[.int .i64 k, .string s] w fun e w' => (∃ u, e = .returned (.tuple #[u, .int .i64 0]) ∧ w'.ownsRow w.heap.size 3 1 u cnt ((stepsL (a : Int) 1 cnt).map (Value.int .i64))) ∧ Below w.heap.size w w') (w : World) :
    Calls Tryd.prog 72 #[.int .i64 k, .string s] w fun e w' => e = .returned (.tuple #[.agg #[.int .u64 (bv a cnt), .bool st], .int .i64 0]) ∧ Below w.heap.size w w' := by
  rcases h7 with ⟨rfl, h7⟩ | hk4
  all_goals
    obtain ⟨n1, rfl⟩ : ∃ n1, cnt = n1 + 1 := ⟨cnt - 1, by omega⟩
    have CS := Lib.hid (refSplitS s 44 (by omega) hn)
    have CI := Lib.hid CI
    have CH := Lib.hid refHas_any
    go_enter Tryd.func72, Tryd.ntmps72
    go_wp2_with fail
    refine (CS.out _).mono ?_
    rintro e w1 ⟨⟨g, cap, rfl, hcs⟩, hb1⟩
    have qb := newC hb1
    have qa : Row w1 w.heap.size 27 #[.int .u64 0, .bool false] := (Row.alloc (Row.new w _ _) _).over hb1
    have hq : Below w.heap.size w w1 := nextA (nextB (Below.refl w.heap.size w)) hb1
    have hwz := hq.size
    simp only [size_alloc'] at qb
    have hgne0 : g ≠ w.heap.size + 1 := by
      intro e
      subst e
      rw [qb.cell 0] at hcs
      simp at hcs
    clear hb1
    go_wp2_with fail
    go_loopw [8] (fun i wr => ∃ b : Nat, (i = .int .i64 0 ∧ b = 0 ∨ i = .int .i64 1 ∧ b = bv a (n1 + 1)) ∧ Row wr w.heap.size 27 #[.int .u64 0, .bool false] ∧ Row wr (w.heap.size + 1) 27 #[.int .u64 b, .bool st] ∧ wr.cell? ⟨g, 0, none⟩ = some (.string s) ∧ Below w.heap.size w wr) (fun i _ => (1 - intOf i).toNat)
    case atStart => exact ⟨0, .inl ⟨rfl, rfl⟩, qa, qb, hcs, hq⟩
    case round =>
      obtain ⟨b, hb, ra, rb, hrs, rq⟩ := hrel
      rcases hb with ⟨rfl, rfl⟩ | ⟨rfl, rfl⟩
      · go_wp2_with fail
        refine (CI.out _).mono ?_
        rintro e w2 ⟨⟨u, rfl, hown⟩, hb2⟩
        have sa := ra.over hb2
        have sb := rb.over hb2
        have sq := nextC rq hb2
        obtain ⟨g', cap', rfl⟩ := ownsRow_succ hown
        have hcl : ∀ j : Nat, j < n1 + 1 → w2.cell? ⟨g', j, none⟩ = some (.int .i64 ((a : Int) + (j : Int))) := fun j hj => by
          have := hown.cellAt j (by omega)
          simpa [stepsL, hj] using this
        have hcg : w2.cell? ⟨g, 0, none⟩ = some (.string s) := by rw [hb2.cell (World.block_lt_of_cell? _ _ hrs)]; exact hrs
        have hg' : g' < w2.heap.size ∧ wr.heap.size ≤ g' := ⟨World.block_lt_of_cell? _ _ (hcl 0 (by omega)), (hown.lt g' rfl).1⟩
        have hg2 := rb.lt
        have hgne : g ≠ w.heap.size + 1 := by
          have := hgne0; exact this
        have hgl := World.block_lt_of_cell? _ _ hcg
        clear hb2 hown hrs
        have HCL := Lib.hid hcl
        clear hcl
        go_wp2_with fail
        go_loopw [11] (fun i wr => ∃ m : Nat, m ≤ n1 + 1 ∧ i = .int .i64 m ∧ Row wr w.heap.size 27 #[.int .u64 0, .bool false] ∧ Row wr (w.heap.size + 1) 27 #[.int .u64 (bv a m), .bool st] ∧ wr.heap[g]? = w2.heap[g]? ∧ wr.heap[g']? = w2.heap[g']? ∧ Below w.heap.size w wr) (fun i _ => (n1 + 1 - (intOf i).toNat))
        case atStart => exact ⟨0, by omega, rfl, sa, sb, rfl, rfl, sq⟩
        case round =>
          obtain ⟨m, hm, rfl, ta, tb, tg, tg', tq⟩ := hrel
          by_cases hlt : m < n1 + 1
          · obtain ⟨xx, hxx⟩ : ∃ xx, (a : Int) + (m : Int) = xx := ⟨_, rfl⟩
            have hx := HCL.out m hlt
            rw [← World.cell?_of_block (a := ⟨g', m, none⟩) tg', hxx] at hx
            have HXX := Lib.hid hxx
            have hx60 : xx < 60 := by omega
            have hx00 : 0 ≤ xx := by omega
            try (have h7x : (xx == 7) = false := by simp; omega)
            have HB := Lib.hid (bv_has (a := a) (m := m) xx hxx.symm)
            have HS := Lib.hid (bv_succ a m)
            have hp2 := pow_small (show a + m ≤ 60 by omega)
            have hb2 := bv_small (show a + m ≤ 60 by omega)
            have hb3 := bv_small (show a + (m + 1) ≤ 60 by omega)
            clear hxx
            generalize hR : bv a m = R at *
            have k1 := fun o => tb.cell o
            clear HCL
            go_wp2_with fail
            refine (CH.out _ _ _ _ (by omega)).mono ?_
            rintro e w4 ⟨rfl, hb4⟩
            rw [HB.out]
            have ta4 := ta.over hb4
            have tb4 := tb.over hb4
            have tq4 := nextC tq hb4
            have hgl2 : g < wr.heap.size := World.block_lt_of_cell? _ _ ((World.cell?_of_block (a := ⟨g, 0, none⟩) tg).trans hcg)
            have hgl3 : g' < wr.heap.size := World.block_lt_of_cell? _ _ hx
            have tg4 : w4.heap[g]? = w2.heap[g]? := (hb4.block g hgl2).trans tg
            have tg4' : w4.heap[g']? = w2.heap[g']? := (hb4.block g' hgl3).trans tg'
            have k4 := fun o => tb4.cell o
            have f4 := fun o => tb4.free o
            go_wp2_with fail
            go_roundw
            case rel =>
              refine ⟨m + 1, by omega, by go_num, ta4.far (by simp) _, ?_, ?_, ?_, tq4.setCell (by simp) _⟩
              · refine (tb4.put 0 _).eq ?_
                rw [← HS.out, show xx.toNat = a + m by have := HXX.out; omega]
                have he : IntKind.u64.wrap ((R : Int) + IntKind.u64.wrap (2 ^ (a + m))) = ((R + 2 ^ (a + m) : Nat) : Int) := by
                  have e1 : ((2 : Int) ^ (a + m)) = ((2 ^ (a + m) : Nat) : Int) := by push_cast; rfl
                  have := hp2
                  rw [e1]
                  generalize 2 ^ (a + m) = Z at *
                  rw [IntKind.wrap_u64, IntKind.wrap_u64]
                  omega
                rw [he]; rfl
              · exact (Below.heap_setCell _ _ _ _ hgne).trans tg4
              · exact (Below.heap_setCell _ _ _ _ (show g' ≠ w.heap.size + 1 by omega)).trans tg4'
            case measure => simp [intOf]; omega
          · have e : m = n1 + 1 := by omega
            subst e
            go_wp2_with fail
            go_roundw
            case rel =>
              refine ⟨bv a (n1 + 1), .inr ⟨rfl, rfl⟩, ta, tb, ?_, tq⟩
              rw [World.cell?_of_block (a := ⟨g, 0, none⟩) tg]; exact hcg
            case measure => simp [intOf]
      · have k1 := fun o => rb.cell o
        have f1 := fun o => ra.free o
        have k2 := fun o => ra.cell o
        go_wp2_with fail
        refine bodyPost_ret (results_row_tmp Tryd.results72 _ _ w.heap.size 27 #[.int .u64 (bv a (n1 + 1)), .bool st] (0, 0) _ (.int .i64 0) rfl ?_ Tryd.underlying27 rfl (by kernel_rfl) rfl) rfl ⟨rfl, ?_⟩
        · exact ((ra.put 0 _).put 1 _).eq rfl
        · exact (rq.setCell (by simp) _).setCell (by simp) _
end Go.Proofs.YthigmjjafilbcaaDoor
namespace Go.Proofs.YthigmjjafilbcaaDoor
set_option linter.unusedVariables false
set_option maxRecDepth 100000
open Go.RowKit Go.Maps
/-- A field's text is read: bits and star. -/
def ParS (k : Int) (s : ByteArray) (b : Nat) (st : Bool) : Prop := ∀ w : World, Calls Tryd.prog 72 #[.int .i64 k, .string s] w fun e w' => e = .returned (.tuple #[.agg #[.int .u64 b, .bool st], .int .i64 0]) ∧ Below w.heap.size w w'
theorem parStar {k : Int} (h0 : 0 ≤ k) (h4 : k ≤ 4) (a cnt : Nat) (ha : lowK k = a) (hc : (highK k - lowK k + 1).toNat = cnt) (hp : 0 < cnt) (hb : a + cnt ≤ 60) (h7 : k = 4 ∧ a + cnt ≤ 7 ∨ (k == 4) = false) : ParS k sStar (bv a cnt) true := fun w => by
  subst hc
  exact parseS k h0 h4 sStar (by decide) (by decide) 42 true rfl (fun _ => by kernel_rfl) (nsStar 44 rfl) a _ hp hb h7 (fun W => by have := itemStar k h0 h4 W; rw [ha] at this ⊢; exact this) w
theorem par0 : ParS 0 s0T (bv 0 1) false := fun w =>
  parseS 0 (by decide) (by decide) s0T (by decide) (by decide) 48 false rfl (fun _ => by kernel_rfl) (ns0 44 rfl) 0 1 (by decide) (by decide) (.inr rfl) (fun W => itemN0 0 (by decide) (by decide) (by decide) (by decide) W) w
theorem par12 : ParS 1 s12T (bv 12 1) false := fun w =>
  parseS 1 (by decide) (by decide) s12T (by decide) (by decide) 49 false rfl (fun _ => by kernel_rfl) (ns12 44 rfl rfl) 12 1 (by decide) (by decide) (.inr rfl) (fun W => itemN12 1 (by decide) (by decide) rfl (by decide) (by decide) W) w
theorem par6 : ParS 4 s6T (bv 6 1) false := fun w =>
  parseS 4 (by decide) (by decide) s6T (by decide) (by decide) 54 false rfl (fun _ => by kernel_rfl) (ns6 44 rfl) 6 1 (by decide) (by decide) (.inl ⟨rfl, by decide⟩) (fun W => itemN6 4 (by decide) (by decide) (by decide) (by decide) W) w
theorem par2 : ParS 2 sStar (bv 1 31) true := parStar (by decide) (by decide) 1 31 rfl rfl (by decide) (by decide) (.inr rfl)
theorem par3 : ParS 3 sStar (bv 1 12) true := parStar (by decide) (by decide) 1 12 rfl rfl (by decide) (by decide) (.inr rfl)
theorem par4 : ParS 4 sStar (bv 0 7) true := parStar (by decide) (by decide) 0 7 rfl rfl (by decide) (by decide) (.inl ⟨rfl, by decide⟩)
/-- The expression that is read. -/
def xpOf (b : Nat) (st : Bool) : Xp := ⟨bv 0 1, bv 12 1, bv 1 31, bv 1 12, b, false, false, true, true, st⟩
/-- A text of the chapter's: '0 12 * * ' and a last word. -/
structure TxtS (s : ByteArray) (c : Int) (l : ByteArray) : Prop where
  size : s.size = 10
  i0 : ∀ W, (Instr.index 9 (.string s) (.int .i64 0)).run Tryd.prog W = .ok (.int .u8 48) W
  i1 : ∀ W, (Instr.index 9 (.string s) (.int .i64 1)).run Tryd.prog W = .ok (.int .u8 32) W
  i2 : ∀ W, (Instr.index 9 (.string s) (.int .i64 2)).run Tryd.prog W = .ok (.int .u8 49) W
  i3 : ∀ W, (Instr.index 9 (.string s) (.int .i64 3)).run Tryd.prog W = .ok (.int .u8 50) W
  i4 : ∀ W, (Instr.index 9 (.string s) (.int .i64 4)).run Tryd.prog W = .ok (.int .u8 32) W
  i5 : ∀ W, (Instr.index 9 (.string s) (.int .i64 5)).run Tryd.prog W = .ok (.int .u8 42) W
  i6 : ∀ W, (Instr.index 9 (.string s) (.int .i64 6)).run Tryd.prog W = .ok (.int .u8 32) W
  i7 : ∀ W, (Instr.index 9 (.string s) (.int .i64 7)).run Tryd.prog W = .ok (.int .u8 42) W
  i8 : ∀ W, (Instr.index 9 (.string s) (.int .i64 8)).run Tryd.prog W = .ok (.int .u8 32) W
  i9 : ∀ W, (Instr.index 9 (.string s) (.int .i64 9)).run Tryd.prog W = .ok (.int .u8 c) W
  c1 : (c == 32) = false
  s0 : ∀ W, (Instr.slice 9 (.string s) (some (.int .i64 0)) (some (.int .i64 1)) none).run Tryd.prog W = .ok (.string s0T) W
  s2 : ∀ W, (Instr.slice 9 (.string s) (some (.int .i64 2)) (some (.int .i64 4)) none).run Tryd.prog W = .ok (.string s12T) W
  s5 : ∀ W, (Instr.slice 9 (.string s) (some (.int .i64 5)) (some (.int .i64 6)) none).run Tryd.prog W = .ok (.string sStar) W
  s7 : ∀ W, (Instr.slice 9 (.string s) (some (.int .i64 7)) (some (.int .i64 8)) none).run Tryd.prog W = .ok (.string sStar) W
  s9 : ∀ W, (Instr.slice 9 (.string s) (some (.int .i64 9)) (some (.int .i64 10)) none).run Tryd.prog W = .ok (.string l) W
def tStar : ByteArray := ⟨#[48, 32, 49, 50, 32, 42, 32, 42, 32, 42]⟩
def tSix : ByteArray := ⟨#[48, 32, 49, 50, 32, 42, 32, 42, 32, 54]⟩
theorem txtStar : TxtS tStar 42 sStar := ⟨rfl, fun _ => by kernel_rfl, fun _ => by kernel_rfl, fun _ => by kernel_rfl, fun _ => by kernel_rfl, fun _ => by kernel_rfl, fun _ => by kernel_rfl, fun _ => by kernel_rfl, fun _ => by kernel_rfl, fun _ => by kernel_rfl, fun _ => by kernel_rfl, rfl, fun _ => by kernel_rfl, fun _ => by kernel_rfl, fun _ => by kernel_rfl, fun _ => by kernel_rfl, fun _ => by kernel_rfl⟩
theorem txtSix : TxtS tSix 54 s6T := ⟨rfl, fun _ => by kernel_rfl, fun _ => by kernel_rfl, fun _ => by kernel_rfl, fun _ => by kernel_rfl, fun _ => by kernel_rfl, fun _ => by kernel_rfl, fun _ => by kernel_rfl, fun _ => by kernel_rfl, fun _ => by kernel_rfl, fun _ => by kernel_rfl, rfl, fun _ => by kernel_rfl, fun _ => by kernel_rfl, fun _ => by kernel_rfl, fun _ => by kernel_rfl, fun _ => by kernel_rfl⟩
/-- What the loop over the text's bytes has, at an index. -/
def At (i at_ : Value) (n : Nat) : Prop :=
  i = .int .i64 0 ∧ at_ = .int .i64 0 ∧ n = 0 ∨ i = .int .i64 1 ∧ at_ = .int .i64 0 ∧ n = 0 ∨ i = .int .i64 2 ∧ at_ = .int .i64 2 ∧ n = 1 ∨ i = .int .i64 3 ∧ at_ = .int .i64 2 ∧ n = 1 ∨ i = .int .i64 4 ∧ at_ = .int .i64 2 ∧ n = 1 ∨
  i = .int .i64 5 ∧ at_ = .int .i64 5 ∧ n = 2 ∨ i = .int .i64 6 ∧ at_ = .int .i64 5 ∧ n = 2 ∨ i = .int .i64 7 ∧ at_ = .int .i64 7 ∧ n = 3 ∨ i = .int .i64 8 ∧ at_ = .int .i64 7 ∧ n = 3 ∨ i = .int .i64 9 ∧ at_ = .int .i64 9 ∧ n = 4 ∨
  i = .int .i64 10 ∧ at_ = .int .i64 9 ∧ n = 4 ∨ i = .int .i64 11 ∧ at_ = .int .i64 11 ∧ n = 5
/-- What the loop over the five parts has, at an index. -/
def At5 (b : Nat) (st : Bool) (i : Value) (cs : Array Value) : Prop :=
  i = .int .i64 0 ∧ cs = #[.int .u64 0, .bool false, .int .u64 0, .bool false, .int .u64 0, .bool false, .int .u64 0, .bool false, .int .u64 0, .bool false] ∨ i = .int .i64 1 ∧ cs = #[.int .u64 (bv 0 1 : Nat), .bool false, .int .u64 0, .bool false, .int .u64 0, .bool false, .int .u64 0, .bool false, .int .u64 0, .bool false] ∨ i = .int .i64 2 ∧ cs = #[.int .u64 (bv 0 1 : Nat), .bool false, .int .u64 (bv 12 1 : Nat), .bool false, .int .u64 0, .bool false, .int .u64 0, .bool false, .int .u64 0, .bool false] ∨ i = .int .i64 3 ∧ cs = #[.int .u64 (bv 0 1 : Nat), .bool false, .int .u64 (bv 12 1 : Nat), .bool false, .int .u64 (bv 1 31 : Nat), .bool true, .int .u64 0, .bool false, .int .u64 0, .bool false] ∨ i = .int .i64 4 ∧ cs = #[.int .u64 (bv 0 1 : Nat), .bool false, .int .u64 (bv 12 1 : Nat), .bool false, .int .u64 (bv 1 31 : Nat), .bool true, .int .u64 (bv 1 12 : Nat), .bool true, .int .u64 0, .bool false] ∨ i = .int .i64 5 ∧ cs = #[.int .u64 (bv 0 1 : Nat), .bool false, .int .u64 (bv 12 1 : Nat), .bool false, .int .u64 (bv 1 31 : Nat), .bool true, .int .u64 (bv 1 12 : Nat), .bool true, .int .u64 b, .bool st]
set_option maxHeartbeats 2000000 in
theorem parseX (s : ByteArray) (c : Int) (l : ByteArray) (b : Nat) (st : Bool) (hs : TxtS s c l) (hb : b < 18446744073709551616) (hP : ParS 4 l b st) (w : World) :
    Calls Tryd.prog 50 #[.string s] w fun e w' => e = .returned (.tuple #[xpV (xpOf b st), .int .i64 0]) ∧ Below w.heap.size w w' := by
  obtain ⟨hsize, x0, x1, x2, x3, x4, x5, x6, x7, x8, x9, c1, y0, y2, y5, y7, y9⟩ := hs
  obtain ⟨i0, hinfo, hz0, hz1, hz2⟩ := info_parts infoS
  have P0 := Lib.hid par0
  have P1 := Lib.hid par12
  have P2 := Lib.hid par2
  have P3 := Lib.hid par3
  have P4 := Lib.hid hP
  clear hP
  go_enter Tryd.func50, Tryd.ntmps50
  go_wp2_with fail
  have qa := Row.new w 29 #[.int .u64 0, .bool false, .int .u64 0, .bool false, .int .u64 0, .bool false, .int .u64 0, .bool false, .int .u64 0, .bool false]
  have q0 : Below w.heap.size w (w.alloc (.cells #[.int .u64 0, .bool false, .int .u64 0, .bool false, .int .u64 0, .bool false, .int .u64 0, .bool false, .int .u64 0, .bool false] 29)) := nextB (Below.refl _ _)
  generalize w.alloc (.cells #[.int .u64 0, .bool false, .int .u64 0, .bool false, .int .u64 0, .bool false, .int .u64 0, .bool false, .int .u64 0, .bool false] 29) = w2 at *
  go_loopw [6, 7, 8] (fun p a i wr => ∃ (n : Nat) (u : Value), At i a n ∧ u = p ∧ wr.ownsRow w2.heap.size 9 1 u n ([s0T, s12T, sStar, sStar, l].take n |>.map Value.string) ∧ Below w2.heap.size w2 wr) (fun _ _ i _ => (11 - intOf i).toNat)
  case atStart => exact ⟨0, _, .inl ⟨rfl, rfl, rfl⟩, rfl, World.ownsRow_nil _ _ _ _, Below.refl _ _⟩
  case round =>
    obtain ⟨n, u, hat, rfl, hown, hbw⟩ := hrel
    have hzw := hbw.size
    rcases hat with ⟨rfl, rfl, rfl⟩ | ⟨rfl, rfl, rfl⟩ | ⟨rfl, rfl, rfl⟩ | ⟨rfl, rfl, rfl⟩ | ⟨rfl, rfl, rfl⟩ | ⟨rfl, rfl, rfl⟩ | ⟨rfl, rfl, rfl⟩ | ⟨rfl, rfl, rfl⟩ | ⟨rfl, rfl, rfl⟩ | ⟨rfl, rfl, rfl⟩ | ⟨rfl, rfl, rfl⟩ | ⟨rfl, rfl, rfl⟩
    · go_wp2_with fail
      go_roundw
      case rel => exact ⟨0, _, .inr (.inl ⟨rfl, rfl, rfl⟩), rfl, hown, hbw⟩
      case measure => simp [intOf]
    · go_wp2_with (at_builtin; refine wpList_append_own_at _ rfl _ _ 88 rfl w2.heap.size 9 i0 (.string ⟨#[]⟩) 1 16 Tryd.underlying88 hinfo hz0 hz1 hz2 rfl (by decide) u 0 _ rfl (hown.alloc _) ⟨wr.heap.size, 0, none⟩ 1 1 [.string s0T] rfl rfl (cell_one_new _ _ _) (by simp [Value.oneCell']) (by unfold maxLen; omega) (by omega) (by simp; omega) ?_; intro v' w1 hown' hgrow _ hat)
      have HB1 := Lib.hid ((hbw.alloc hzw _).grown hgrow (by simp; omega) (fun q e => (hown.lt q e).1) : Below w2.heap.size w2 w1)
      have HO1 := Lib.hid hown'
      clear hown' hgrow hat
      go_wp2_with fail
      go_roundw
      case rel => exact ⟨1, _, .inr (.inr (.inl ⟨rfl, rfl, rfl⟩)), rfl, HO1.out, HB1.out⟩
      case measure => simp [intOf]
    · go_wp2_with fail
      go_roundw
      case rel => exact ⟨1, _, .inr (.inr (.inr (.inl ⟨rfl, rfl, rfl⟩))), rfl, hown, hbw⟩
      case measure => simp [intOf]
    · go_wp2_with fail
      go_roundw
      case rel => exact ⟨1, _, .inr (.inr (.inr (.inr (.inl ⟨rfl, rfl, rfl⟩)))), rfl, hown, hbw⟩
      case measure => simp [intOf]
    · go_wp2_with (at_builtin; refine wpList_append_own_at _ rfl _ _ 88 rfl w2.heap.size 9 i0 (.string ⟨#[]⟩) 1 16 Tryd.underlying88 hinfo hz0 hz1 hz2 rfl (by decide) u 1 _ rfl (hown.alloc _) ⟨wr.heap.size, 0, none⟩ 1 1 [.string s12T] rfl rfl (cell_one_new _ _ _) (by simp [Value.oneCell']) (by unfold maxLen; omega) (by omega) (by simp; omega) ?_; intro v' w1 hown' hgrow _ hat)
      have HB1 := Lib.hid ((hbw.alloc hzw _).grown hgrow (by simp; omega) (fun q e => (hown.lt q e).1) : Below w2.heap.size w2 w1)
      have HO1 := Lib.hid hown'
      clear hown' hgrow hat
      go_wp2_with fail
      go_roundw
      case rel => exact ⟨2, _, .inr (.inr (.inr (.inr (.inr (.inl ⟨rfl, rfl, rfl⟩))))), rfl, HO1.out, HB1.out⟩
      case measure => simp [intOf]
    · go_wp2_with fail
      go_roundw
      case rel => exact ⟨2, _, .inr (.inr (.inr (.inr (.inr (.inr (.inl ⟨rfl, rfl, rfl⟩)))))), rfl, hown, hbw⟩
      case measure => simp [intOf]
    · go_wp2_with (at_builtin; refine wpList_append_own_at _ rfl _ _ 88 rfl w2.heap.size 9 i0 (.string ⟨#[]⟩) 1 16 Tryd.underlying88 hinfo hz0 hz1 hz2 rfl (by decide) u 2 _ rfl (hown.alloc _) ⟨wr.heap.size, 0, none⟩ 1 1 [.string sStar] rfl rfl (cell_one_new _ _ _) (by simp [Value.oneCell']) (by unfold maxLen; omega) (by omega) (by simp; omega) ?_; intro v' w1 hown' hgrow _ hat)
      have HB1 := Lib.hid ((hbw.alloc hzw _).grown hgrow (by simp; omega) (fun q e => (hown.lt q e).1) : Below w2.heap.size w2 w1)
      have HO1 := Lib.hid hown'
      clear hown' hgrow hat
      go_wp2_with fail
      go_roundw
      case rel => exact ⟨3, _, .inr (.inr (.inr (.inr (.inr (.inr (.inr (.inl ⟨rfl, rfl, rfl⟩))))))), rfl, HO1.out, HB1.out⟩
      case measure => simp [intOf]
    · go_wp2_with fail
      go_roundw
      case rel => exact ⟨3, _, .inr (.inr (.inr (.inr (.inr (.inr (.inr (.inr (.inl ⟨rfl, rfl, rfl⟩)))))))), rfl, hown, hbw⟩
      case measure => simp [intOf]
    · go_wp2_with (at_builtin; refine wpList_append_own_at _ rfl _ _ 88 rfl w2.heap.size 9 i0 (.string ⟨#[]⟩) 1 16 Tryd.underlying88 hinfo hz0 hz1 hz2 rfl (by decide) u 3 _ rfl (hown.alloc _) ⟨wr.heap.size, 0, none⟩ 1 1 [.string sStar] rfl rfl (cell_one_new _ _ _) (by simp [Value.oneCell']) (by unfold maxLen; omega) (by omega) (by simp; omega) ?_; intro v' w1 hown' hgrow _ hat)
      have HB1 := Lib.hid ((hbw.alloc hzw _).grown hgrow (by simp; omega) (fun q e => (hown.lt q e).1) : Below w2.heap.size w2 w1)
      have HO1 := Lib.hid hown'
      clear hown' hgrow hat
      go_wp2_with fail
      go_roundw
      case rel => exact ⟨4, _, .inr (.inr (.inr (.inr (.inr (.inr (.inr (.inr (.inr (.inl ⟨rfl, rfl, rfl⟩))))))))), rfl, HO1.out, HB1.out⟩
      case measure => simp [intOf]
    · go_wp2_with fail
      go_roundw
      case rel => exact ⟨4, _, .inr (.inr (.inr (.inr (.inr (.inr (.inr (.inr (.inr (.inr (.inl ⟨rfl, rfl, rfl⟩)))))))))), rfl, hown, hbw⟩
      case measure => simp [intOf]
    · go_wp2_with (at_builtin; refine wpList_append_own_at _ rfl _ _ 88 rfl w2.heap.size 9 i0 (.string ⟨#[]⟩) 1 16 Tryd.underlying88 hinfo hz0 hz1 hz2 rfl (by decide) u 4 _ rfl (hown.alloc _) ⟨wr.heap.size, 0, none⟩ 1 1 [.string l] rfl rfl (cell_one_new _ _ _) (by simp [Value.oneCell']) (by unfold maxLen; omega) (by omega) (by simp; omega) ?_; intro v' w1 hown' hgrow _ hat)
      have HB1 := Lib.hid ((hbw.alloc hzw _).grown hgrow (by simp; omega) (fun q e => (hown.lt q e).1) : Below w2.heap.size w2 w1)
      have HO1 := Lib.hid hown'
      clear hown' hgrow hat
      go_wp2_with fail
      go_roundw
      case rel => exact ⟨5, _, .inr (.inr (.inr (.inr (.inr (.inr (.inr (.inr (.inr (.inr (.inr (⟨rfl, rfl, rfl⟩))))))))))), rfl, HO1.out, HB1.out⟩
      case measure => simp [intOf]
    · obtain ⟨g', cap', rfl⟩ := ownsRow_succ hown
      have z0 : wr.cell? ⟨g', 0, none⟩ = some (.string s0T) := by have := hown.cellAt 0 (by omega); simpa using this
      have z1 : wr.cell? ⟨g', 1, none⟩ = some (.string s12T) := by have := hown.cellAt 1 (by omega); simpa using this
      have z2 : wr.cell? ⟨g', 2, none⟩ = some (.string sStar) := by have := hown.cellAt 2 (by omega); simpa using this
      have z3 : wr.cell? ⟨g', 3, none⟩ = some (.string sStar) := by have := hown.cellAt 3 (by omega); simpa using this
      have z4 : wr.cell? ⟨g', 4, none⟩ = some (.string l) := by have := hown.cellAt 4 (by omega); simpa using this
      have hgl := World.block_lt_of_cell? _ _ z0
      have qb : Row wr w.heap.size 29 #[.int .u64 0, .bool false, .int .u64 0, .bool false, .int .u64 0, .bool false, .int .u64 0, .bool false, .int .u64 0, .bool false] := qa.below hbw qa.lt
      have qw : Below w.heap.size w wr := nextC q0 hbw
      clear hown hbw x0 x1 x2 x3 x4 x5 x6 x7 x8 x9 c1 y0 y2 y5 y7 y9
      go_wp2_with fail
      go_loopw [10] (fun i wy => ∃ cs : Array Value, At5 b st i cs ∧ Row wy wr.heap.size 29 cs ∧ Below wr.heap.size wr wy) (fun i _ => (5 - intOf i).toNat)
      case atStart => exact ⟨_, .inl ⟨rfl, rfl⟩, Row.new _ _ _, nextB (Below.refl _ _)⟩
      case round =>
        obtain ⟨cs, hat, rc, rq⟩ := hrel
        have u0 := (rq.cell (p := ⟨g', 0, none⟩) hgl).trans z0
        have u1 := (rq.cell (p := ⟨g', 1, none⟩) hgl).trans z1
        have u2 := (rq.cell (p := ⟨g', 2, none⟩) hgl).trans z2
        have u3 := (rq.cell (p := ⟨g', 3, none⟩) hgl).trans z3
        have u4 := (rq.cell (p := ⟨g', 4, none⟩) hgl).trans z4
        rcases hat with ⟨rfl, rfl⟩ | ⟨rfl, rfl⟩ | ⟨rfl, rfl⟩ | ⟨rfl, rfl⟩ | ⟨rfl, rfl⟩ | ⟨rfl, rfl⟩
        · go_wp2_with fail
          refine (P0.out _).mono ?_
          rintro e w5 ⟨rfl, hb5⟩
          have rd := rc.over hb5
          have rq5 := nextC rq hb5
          clear hb5
          go_upto_region 30 with fail
          have rd1 := rd.alloc (.cells #[.int .u64 (bv 0 1 : Nat), .bool false] 27)
          have rl := Row.new w5 27 #[.int .u64 (bv 0 1 : Nat), .bool false]
          have rq6 := nextB (o := .cells #[.int .u64 (bv 0 1 : Nat), .bool false] 27) rq5
          generalize w5.alloc _ = w6 at rd1 rl rq6 ⊢
          have kd := fun o => rd1.cell o
          have fd := fun o => rd1.free o
          have kl := fun o => rl.cell o
          go_wp2_with fail
          go_roundw
          case rel => exact ⟨_, .inr (.inl ⟨rfl, rfl⟩), ((rd1.put 0 _).put 1 _).eq rfl, (rq6.setCell (by simp) _).setCell (by simp) _⟩
          case measure => simp [intOf]
        · go_wp2_with fail
          refine (P1.out _).mono ?_
          rintro e w5 ⟨rfl, hb5⟩
          have rd := rc.over hb5
          have rq5 := nextC rq hb5
          clear hb5
          go_upto_region 30 with fail
          have rd1 := rd.alloc (.cells #[.int .u64 (bv 12 1 : Nat), .bool false] 27)
          have rl := Row.new w5 27 #[.int .u64 (bv 12 1 : Nat), .bool false]
          have rq6 := nextB (o := .cells #[.int .u64 (bv 12 1 : Nat), .bool false] 27) rq5
          generalize w5.alloc _ = w6 at rd1 rl rq6 ⊢
          have kd := fun o => rd1.cell o
          have fd := fun o => rd1.free o
          have kl := fun o => rl.cell o
          go_wp2_with fail
          go_roundw
          case rel => exact ⟨_, .inr (.inr (.inl ⟨rfl, rfl⟩)), ((rd1.put 2 _).put 3 _).eq rfl, (rq6.setCell (by simp) _).setCell (by simp) _⟩
          case measure => simp [intOf]
        · go_wp2_with fail
          refine (P2.out _).mono ?_
          rintro e w5 ⟨rfl, hb5⟩
          have rd := rc.over hb5
          have rq5 := nextC rq hb5
          clear hb5
          go_upto_region 30 with fail
          have rd1 := rd.alloc (.cells #[.int .u64 (bv 1 31 : Nat), .bool true] 27)
          have rl := Row.new w5 27 #[.int .u64 (bv 1 31 : Nat), .bool true]
          have rq6 := nextB (o := .cells #[.int .u64 (bv 1 31 : Nat), .bool true] 27) rq5
          generalize w5.alloc _ = w6 at rd1 rl rq6 ⊢
          have kd := fun o => rd1.cell o
          have fd := fun o => rd1.free o
          have kl := fun o => rl.cell o
          go_wp2_with fail
          go_roundw
          case rel => exact ⟨_, .inr (.inr (.inr (.inl ⟨rfl, rfl⟩))), ((rd1.put 4 _).put 5 _).eq rfl, (rq6.setCell (by simp) _).setCell (by simp) _⟩
          case measure => simp [intOf]
        · go_wp2_with fail
          refine (P3.out _).mono ?_
          rintro e w5 ⟨rfl, hb5⟩
          have rd := rc.over hb5
          have rq5 := nextC rq hb5
          clear hb5
          go_upto_region 30 with fail
          have rd1 := rd.alloc (.cells #[.int .u64 (bv 1 12 : Nat), .bool true] 27)
          have rl := Row.new w5 27 #[.int .u64 (bv 1 12 : Nat), .bool true]
          have rq6 := nextB (o := .cells #[.int .u64 (bv 1 12 : Nat), .bool true] 27) rq5
          generalize w5.alloc _ = w6 at rd1 rl rq6 ⊢
          have kd := fun o => rd1.cell o
          have fd := fun o => rd1.free o
          have kl := fun o => rl.cell o
          go_wp2_with fail
          go_roundw
          case rel => exact ⟨_, .inr (.inr (.inr (.inr (.inl ⟨rfl, rfl⟩)))), ((rd1.put 6 _).put 7 _).eq rfl, (rq6.setCell (by simp) _).setCell (by simp) _⟩
          case measure => simp [intOf]
        · go_wp2_with fail
          refine (P4.out _).mono ?_
          rintro e w5 ⟨rfl, hb5⟩
          have rd := rc.over hb5
          have rq5 := nextC rq hb5
          clear hb5
          go_upto_region 30 with fail
          have rd1 := rd.alloc (.cells #[.int .u64 b, .bool st] 27)
          have rl := Row.new w5 27 #[.int .u64 b, .bool st]
          have rq6 := nextB (o := .cells #[.int .u64 b, .bool st] 27) rq5
          generalize w5.alloc _ = w6 at rd1 rl rq6 ⊢
          have kd := fun o => rd1.cell o
          have fd := fun o => rd1.free o
          have kl := fun o => rl.cell o
          go_wp2_with fail
          go_roundw
          case rel => exact ⟨_, .inr (.inr (.inr (.inr (.inr (⟨rfl, rfl⟩))))), ((rd1.put 8 _).put 9 _).eq rfl, (rq6.setCell (by simp) _).setCell (by simp) _⟩
          case measure => simp [intOf]
        · have k1 := fun o => rc.cell o
          have qb2 := qb.over rq
          have f1 := fun o => qb2.free o
          have k2 := fun o => qb2.cell o
          go_wp2_with fail
          refine bodyPost_ret (results_row_tmp Tryd.results50 _ _ w.heap.size 29 (xpC (xpOf b st)) (0, 0) _ (.int .i64 0) rfl ?_ Tryd.underlying29 rfl (by kernel_rfl) rfl) rfl ⟨rfl, ?_⟩
          · exact ((((((((((qb2.put 0 _).put 1 _).put 2 _).put 3 _).put 4 _).put 5 _).put 6 _).put 7 _).put 8 _).put 9 _).eq rfl
          · exact (((((((((((nextC qw rq).setCell (by simp) _).setCell (by simp) _).setCell (by simp) _).setCell (by simp) _).setCell (by simp) _).setCell (by simp) _).setCell (by simp) _).setCell (by simp) _).setCell (by simp) _).setCell (by simp) _)
theorem put10 (a0 a1 a2 a3 a4 a5 a6 a7 a8 a9 b0 b1 b2 b3 b4 b5 b6 b7 b8 b9 : Value) : (((((((((((#[a0, a1, a2, a3, a4, a5, a6, a7, a8, a9] : Array Value).setIfInBounds 0 b0).setIfInBounds 1 b1).setIfInBounds 2 b2).setIfInBounds 3 b3).setIfInBounds 4 b4).setIfInBounds 5 b5).setIfInBounds 6 b6).setIfInBounds 7 b7).setIfInBounds 8 b8).setIfInBounds 9 b9) = #[b0, b1, b2, b3, b4, b5, b6, b7, b8, b9] := by kernel_rfl
set_option maxHeartbeats 1000000 in
theorem expr_of (s : ByteArray) (x : Xp) (H : ∀ w, Calls Tryd.prog 50 #[.string s] w fun e w' => e = .returned (.tuple #[xpV x, .int .i64 0]) ∧ Below w.heap.size w w') (w : World) :
    Calls Tryd.prog 21 #[.string s] w fun e w' => e = .returned (xpV x) ∧ Below w.heap.size w w' := by
  obtain ⟨b0, b1, b2, b3, b4, s0, s1, s2, s3, s4⟩ := x
  have C := Lib.hid H
  clear H
  unfold xpV at *
  dsimp only at *
  go_enter Tryd.func21, Tryd.ntmps21
  go_wp2_with fail
  refine (C.out _).mono ?_
  rintro e w1 ⟨rfl, hb1⟩
  have kr := newC hb1
  have q1 := nextA (Below.refl w.heap.size w) hb1
  go_upto_region 2 with fail
  have a1 := Row.alloc kr (.cells #[.int .u64 b0, .bool s0, .int .u64 b1, .bool s1, .int .u64 b2, .bool s2, .int .u64 b3, .bool s3, .int .u64 b4, .bool s4] 29)
  have a2 := Row.new w1 29 #[.int .u64 b0, .bool s0, .int .u64 b1, .bool s1, .int .u64 b2, .bool s2, .int .u64 b3, .bool s3, .int .u64 b4, .bool s4]
  have q2 := nextB (o := .cells #[.int .u64 b0, .bool s0, .int .u64 b1, .bool s1, .int .u64 b2, .bool s2, .int .u64 b3, .bool s3, .int .u64 b4, .bool s4] 29) q1
  have hz := kr.lt
  generalize w1.alloc _ = V at a1 a2 q2 ⊢
  have k1 := fun o => a1.cell o
  have f1 := fun o => a1.free o
  have k2 := fun o => a2.cell o
  go_wp2_with fail
  refine bodyPost_ret (results_row1 Tryd.results21 _ _ w.heap.size 29 #[.int .u64 b0, .bool s0, .int .u64 b1, .bool s1, .int .u64 b2, .bool s2, .int .u64 b3, .bool s3, .int .u64 b4, .bool s4] (0, 0) _ rfl ?_ Tryd.underlying29 rfl (by kernel_rfl)) rfl ⟨rfl, ?_⟩
  · refine ((((((((((a1.put 0 _).put 1 _).put 2 _).put 3 _).put 4 _).put 5 _).put 6 _).put 7 _).put 8 _).put 9 _).eq ?_
    exact put10 _ _ _ _ _ _ _ _ _ _ _ _ _ _ _ _ _ _ _ _
  · exact ((((((((((q2.setCell (by simp) _).setCell (by simp) _).setCell (by simp) _).setCell (by simp) _).setCell (by simp) _).setCell (by simp) _).setCell (by simp) _).setCell (by simp) _).setCell (by simp) _).setCell (by simp) _)
theorem exprStar (w : World) : Calls Tryd.prog 21 #[.string tStar] w fun e w' => e = .returned (xpV (xpOf (bv 0 7) true)) ∧ Below w.heap.size w w' :=
  expr_of _ _ (fun W => parseX tStar 42 sStar (bv 0 7) true txtStar (by decide) par4 W) w
theorem exprSix (w : World) : Calls Tryd.prog 21 #[.string tSix] w fun e w' => e = .returned (xpV (xpOf (bv 6 1) false)) ∧ Below w.heap.size w w' :=
  expr_of _ _ (fun W => parseX tSix 54 s6T (bv 6 1) false txtSix (by decide) par6 W) w
end Go.Proofs.YthigmjjafilbcaaDoor
namespace Go.Proofs.YthigmjjafilbcaaDoor
set_option linter.unusedVariables false
set_option maxRecDepth 100000
open Go.RowKit
/-- A day's firing goes to a day, by a mode. -/
def GoesTo (k : Nat) (off on : List Int) (mode d n : Int) : Prop :=
  (mode = 1 ∧ d = n) ∨ (mode ≠ 1 ∧ (worksC k off on d = true ∧ d = n ∨ worksC k off on d = false ∧ NearIs k off on d (if mode = 2 then 1 else -1) n))
def Hit (k : Nat) (off on : List Int) (mode : Int) (x : Xp) (n m d : Int) : Prop := inB d = true ∧ GoesTo k off on mode d n ∧ minFit x d m = true
/-- What Fires answers. -/
def FiresIs (k : Nat) (off on : List Int) (mode : Int) (x : Xp) (n m : Int) (e : Ending) : Prop := ∃ r, e = .returned (.bool r) ∧ (r = true ↔ worksC k off on n = true ∧ ∃ d, n - 250 ≤ d ∧ d ≤ n + 250 ∧ Hit k off on mode x n m d)
theorem near_one {k : Nat} {off on : List Int} {n s r r' : Int} (h : NearIs k off on n s r) (h' : NearIs k off on n s r') : r = r' := by
  have key : ∀ {a b : Nat}, (∀ j : Nat, j < b → inB (n + s * (j : Int)) = true ∧ worksC k off on (n + s * (j : Int)) = false) → (inB (n + s * (a : Int)) = false ∨ worksC k off on (n + s * (a : Int)) = true) → ¬ a < b := fun h1 h2 hlt => by
    obtain ⟨e1, e2⟩ := h1 _ hlt
    rcases h2 with h2 | h2
    · rw [e1] at h2; cases h2
    · rw [e2] at h2; cases h2
  rcases h with ⟨i, ha, hb, hc, rfl⟩ | ⟨i, ha, hb, rfl⟩ <;> rcases h' with ⟨i', ha', hb', hc', rfl⟩ | ⟨i', ha', hb', rfl⟩
  · have := key ha (.inr hc'); have := key ha' (.inr hc)
    rw [show i = i' by omega]
  · have := key ha (.inl hb'); have := key ha' (.inr hc)
    have e : i = i' := by omega
    subst e; rw [hb] at hb'; cases hb'
  · have := key ha (.inr hc'); have := key ha' (.inl hb)
    have e : i = i' := by omega
    subst e; rw [hb] at hb'; cases hb'
  · rfl
theorem step_hit {P : Int → Prop} {lo d : Int} (h : ∀ d', lo ≤ d' → d' < d → ¬ P d') (hd : ¬ P d) : ∀ d', lo ≤ d' → d' < d + 1 → ¬ P d' := fun d' h1 h2 => by
  by_cases e : d' = d
  · subst e; exact hd
  · exact h d' h1 (by omega)
theorem refSplit_min (n m : Int) (h0 : 0 ≤ n) (h1 : n < 157054) (m0 : 0 ≤ m) (m1 : m < 1440) (w : World) :
    Calls Tryd.prog 11 #[.int .i64 (n * 86400 + m * 60)] w fun e w' => e = .returned (.tuple #[.agg (clkA n m), .int .i64 0]) ∧ Below w.heap.size w w' := by
  have h := refSplit_yes (n * 86400 + m * 60) w (by omega) (by omega)
  have e1 : (n * 86400 + m * 60) / 86400 = n := by omega
  have e2 : (n * 86400 + m * 60) % 86400 / 3600 = m / 60 := by omega
  have e3 : (n * 86400 + m * 60) % 86400 % 3600 / 60 = m % 60 := by omega
  have e4 : (n * 86400 + m * 60) % 86400 % 60 = 0 := by omega
  rw [e1, e2, e3, e4] at h
  exact h
end Go.Proofs.YthigmjjafilbcaaDoor
namespace Go.Proofs.YthigmjjafilbcaaDoor
set_option linter.unusedVariables false
set_option maxRecDepth 100000
open Go.RowKit
theorem ofC_any (v : Value) (k : Nat) (off on : List Int) (w : World) (h : CalAt w v k off on) :
    Calls Tryd.prog 8 #[v] w fun e w' => e = .returned v ∧ Below w.heap.size w w' := by
  obtain ⟨A, cA, B, cB, rfl, ha, hb⟩ := h.ex
  clear h ha hb
  obtain ⟨WB, hWB⟩ : ∃ WB, (w.alloc (.cells #[.int .u8 k, .slice A off.length cA, .slice B on.length cB] 24)).alloc (.cells #[.int .u8 0, .slice none 0 0, .slice none 0 0] 33) = WB := ⟨_, rfl⟩
  have T2 := two rfl hWB
  have K := Lib.hid T2.1
  have K2 := Lib.hid T2.2.1
  have Q0 := Lib.hid T2.2.2.1
  have HW := Lib.hid hWB
  clear hWB T2
  go_enter Tryd.func8, Tryd.ntmps8
  go_upto_region 1 with fail
  rw [HW.out]
  have kd0 := fun o => K.out.cell o
  have kd1 := fun o => K2.out.cell o
  have fd1 := fun o => K2.out.free o
  go_wp2_with fail
  refine bodyPost_ret (results_row1 Tryd.results8 _ _ (w.heap.size + 1) 33 #[.int .u8 k, .slice A off.length cA, .slice B on.length cB] (0, 0) _ rfl ?_ Tryd.underlying33 rfl (by kernel_rfl)) rfl ⟨rfl, ?_⟩
  · exact (((K2.out.put 0 _).put 1 _).put 2 _).eq rfl
  · exact ((Q0.out.setCell (by simp) _).setCell (by simp) _).setCell (by simp) _
theorem heavy_any (v : Value) (k : Nat) (off on : List Int) (w : World) (h : CalAt w v k off on) :
    Calls Tryd.prog 6 #[v] w fun e w' => e = .returned (.bool (decide (30 < (off.length : Int)) || decide (30 < (on.length : Int)))) ∧ Below w.heap.size w w' := by
  obtain ⟨A, cA, B, cB, rfl, ha, hb⟩ := h.ex
  clear h ha hb
  obtain ⟨WB, hWB⟩ : ∃ WB, w.alloc (.cells #[.int .u8 k, .slice A off.length cA, .slice B on.length cB] 24) = WB := ⟨_, rfl⟩
  have K := Lib.hid (show Row WB w.heap.size _ _ by rw [← hWB]; exact Row.new _ _ _)
  have Q0 := Lib.hid (show Below w.heap.size w WB by rw [← hWB]; exact nextB (Below.refl _ _))
  have HW := Lib.hid hWB
  clear hWB
  go_enter Tryd.func6, Tryd.ntmps6
  go_upto_region 1 with fail
  rw [HW.out]
  have kd0 := fun o => K.out.cell o
  go_wp2_with fail
  all_goals
    go_ret
    exact ⟨rfl, Q0.out⟩
end Go.Proofs.YthigmjjafilbcaaDoor
