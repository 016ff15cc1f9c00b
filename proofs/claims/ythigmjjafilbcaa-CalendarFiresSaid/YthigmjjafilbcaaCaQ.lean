/- The reference's items: '*', and a short number. -/
import Derived.Test.YthigmjjafilbcaaCaP
namespace Go.Proofs.Ythigmjjafilbcaa
set_option linter.unusedVariables false
set_option maxRecDepth 100000
open Go.RowKit Go.Maps
theorem kinds_bd {k : Int} (h0 : 0 ≤ k) (h4 : k ≤ 4) : 0 ≤ lowK k ∧ lowK k ≤ highK k ∧ highK k ≤ 59 := by
  rcases five h0 h4 with rfl | rfl | rfl | rfl | rfl <;> decide
set_option maxHeartbeats 1000000 in
theorem itemStar (k : Int) (h0 : 0 ≤ k) (h4 : k ≤ 4) (w : World) :
    Calls Try.prog 76 #[.int .i64 k, .string sStar] w fun e w' => (∃ u, e = .returned (.tuple #[u, .int .i64 0]) ∧ w'.ownsRow w.heap.size 3 1 u (highK k - lowK k + 1).toNat ((stepsL (lowK k) 1 (highK k - lowK k + 1).toNat).map (Value.int .i64))) ∧ Below w.heap.size w w' := by
  have hbd := kinds_bd h0 h4
  have CS := Lib.hid (refSplitS sStar 47 (by decide) (nsStar 47 rfl))
  have CL := Lib.hid (refLow_any k)
  have CH := Lib.hid (refHigh_any k · h0 h4)
  generalize lowK k = lo at *
  generalize highK k = hi at *
  unfold sStar at *
  go_enter Try.func76, Try.ntmps76
  go_wp2_with fail
  refine (CS.out _).mono ?_
  rintro e w1 ⟨⟨g, cap, rfl, hc⟩, hb1⟩
  have hblk := World.block_lt_of_cell? _ _ hc
  go_wp2_with fail
  refine (CL.out _).mono ?_
  rintro e w2 ⟨rfl, rfl⟩
  go_wp2_with fail
  refine (CH.out _).mono ?_
  rintro e w2 ⟨rfl, rfl⟩
  go_wp2_with fail
  have HQB := Lib.hid hb1
  clear hb1 hc
  obtain ⟨i0, hinfo, hz0, hz1, hz2⟩ := info_parts infoI
  go_loopw [12, 13] (fun o i wr => ∃ (m : Nat) (u : Value), (m : Int) ≤ hi - lo + 1 ∧ i = .int .i64 (lo + (m : Int)) ∧ u = o ∧ wr.ownsRow w2.heap.size 3 1 u m ((stepsL lo 1 m).map (Value.int .i64)) ∧ Below w2.heap.size w2 wr) (fun _ i _ => (hi + 1 - intOf i).toNat)
  case atStart => exact ⟨0, .slice none 0 0, by omega, by simp, rfl, World.ownsRow_nil _ _ _ _, Below.refl _ _⟩
  case round =>
    obtain ⟨m, u, hm, rfl, rfl, hown, hbw⟩ := hrel
    have HS := Lib.hid (stepsL_succ lo 1 m)
    have hzw := hbw.size
    by_cases hlt : lo + (m : Int) ≤ hi
    · obtain ⟨xx, hxx⟩ : ∃ xx, lo + (m : Int) = xx := ⟨_, rfl⟩
      have HXX := Lib.hid hxx
      rw [hxx] at hlt ⊢
      have hxr : xx ≤ 60 := by omega
      have hxr0 : 0 ≤ xx := by omega
      have hm60 : m ≤ 60 := by omega
      clear hxx
      go_wp2_with (at_builtin; refine wpList_append_own_at _ rfl _ _ 22 rfl w2.heap.size 3 i0 (.int .i64 0) 1 8 Try.underlying22 hinfo hz0 hz1 hz2 rfl (by decide) u m _ rfl (hown.alloc _) ⟨wr.heap.size, 0, none⟩ 1 1 [.int .i64 xx] rfl rfl (cell_one_new _ _ _) (by simp [Value.oneCell']) (by unfold maxLen; omega) (by omega) (by simp; omega) ?_; intro v' w1 hown' hgrow _ hat)
      have hb1 : Below w2.heap.size w2 w1 := (hbw.alloc hzw _).grown hgrow (by simp; omega) (fun q e => (hown.lt q e).1)
      have HB1 := Lib.hid hb1
      have HO1 := Lib.hid hown'
      clear hb1 hown' hgrow hat
      go_wp2_with fail
      go_roundw
      case rel =>
        refine ⟨m + 1, _, by have := HXX.out; omega, by have := HXX.out; go_num, rfl, ?_, HB1.out⟩
        rw [HS.out, List.map_append]
        rw [show (lo : Int) + 1 * (m : Int) = xx by have := HXX.out; omega]
        exact HO1.out
      case measure => simp [intOf]; omega
    · have e : (m : Int) = hi - lo + 1 := by omega
      have HE := Lib.hid e
      clear e
      go_wp2_with fail
      go_ret2
      have hmm : m = (hi - lo + 1).toNat := by have := HE.out; omega
      subst hmm
      exact ⟨⟨_, rfl, own_le hown (by have := HQB.out.size; omega)⟩, HQB.out.trans (hbw.mono HQB.out.size)⟩
set_option maxHeartbeats 1000000 in
theorem itemN0 (k : Int) (h0 : 0 ≤ k) (h4 : k ≤ 4) (hl : lowK k ≤ 0) (hh : 0 ≤ highK k) (w : World) :
    Calls Try.prog 76 #[.int .i64 k, .string s0T] w fun e w' => (∃ u, e = .returned (.tuple #[u, .int .i64 0]) ∧ w'.ownsRow w.heap.size 3 1 u ((0 : Int) - 0 + 1).toNat ((stepsL 0 1 ((0 : Int) - 0 + 1).toNat).map (Value.int .i64))) ∧ Below w.heap.size w w' := by
  have CS := Lib.hid (refSplitS s0T 47 (by decide) (ns0 47 rfl))
  have CS2 := Lib.hid (refSplitS s0T 45 (by decide) (ns0 45 rfl))
  have CN := Lib.hid (fun W => num0 k W)
  have CL := Lib.hid (refLow_any k)
  have CH := Lib.hid (refHigh_any k · h0 h4)
  generalize lowK k = lo at *
  generalize highK k = hi at *
  have c1 : decide ((0 : Int) < lo) = false := decide_eq_false (by omega)
  have c2 : decide (hi < (0 : Int)) = false := decide_eq_false (by omega)
  unfold s0T at *
  go_enter Try.func76, Try.ntmps76
  go_wp2_with fail
  refine (CS.out _).mono ?_
  rintro e w1 ⟨⟨g, cap, rfl, hc⟩, hb1⟩
  have hblk := World.block_lt_of_cell? _ _ hc
  go_wp2_with fail
  refine (CL.out _).mono ?_
  rintro e w2 ⟨rfl, rfl⟩
  go_wp2_with fail
  refine (CH.out _).mono ?_
  rintro e w2 ⟨rfl, rfl⟩
  go_wp2_with fail
  refine (CS2.out _).mono ?_
  rintro e w3 ⟨⟨g2, cap2, rfl, hc2⟩, hb3⟩
  go_wp2_with fail
  refine (CN.out _).mono ?_
  rintro e w4 ⟨rfl, rfl⟩
  go_wp2_with fail
  refine (CN.out _).mono ?_
  rintro e w4 ⟨rfl, rfl⟩
  go_wp2_with fail
  refine (CH.out _).mono ?_
  rintro e w5 ⟨rfl, rfl⟩
  by_cases hk4 : k = 4
  · subst hk4
    go_wp2_with fail
    refine (CL.out _).mono ?_
    rintro e w9 ⟨rfl, rfl⟩
    go_wp2_with fail
    have HQB := Lib.hid (nextC hb1 hb3)
    clear hb1 hc hb3 hc2
    obtain ⟨i0, hinfo, hz0, hz1, hz2⟩ := info_parts infoI
    go_loopw [12, 13] (fun o i wr => ∃ (m : Nat) (u : Value), (m : Int) ≤ (0 : Int) - 0 + 1 ∧ i = .int .i64 ((0 : Int) + (m : Int)) ∧ u = o ∧ wr.ownsRow w9.heap.size 3 1 u m ((stepsL 0 1 m).map (Value.int .i64)) ∧ Below w9.heap.size w9 wr) (fun _ i _ => ((0 : Int) + 1 - intOf i).toNat)
    case atStart => exact ⟨0, .slice none 0 0, by omega, by simp, rfl, World.ownsRow_nil _ _ _ _, Below.refl _ _⟩
    case round =>
      obtain ⟨m, u, hm, rfl, rfl, hown, hbw⟩ := hrel
      have HS := Lib.hid (stepsL_succ 0 1 m)
      have hzw := hbw.size
      by_cases hlt : (0 : Int) + (m : Int) ≤ 0
      · obtain ⟨xx, hxx⟩ : ∃ xx, (0 : Int) + (m : Int) = xx := ⟨_, rfl⟩
        have HXX := Lib.hid hxx
        rw [hxx] at hlt ⊢
        have hxr : xx ≤ 60 := by omega
        have hxr0 : 0 ≤ xx := by omega
        have hm60 : m ≤ 60 := by omega
        clear hxx
        go_wp2_with (at_builtin; refine wpList_append_own_at _ rfl _ _ 22 rfl w9.heap.size 3 i0 (.int .i64 0) 1 8 Try.underlying22 hinfo hz0 hz1 hz2 rfl (by decide) u m _ rfl (hown.alloc _) ⟨wr.heap.size, 0, none⟩ 1 1 [.int .i64 xx] rfl rfl (cell_one_new _ _ _) (by simp [Value.oneCell']) (by unfold maxLen; omega) (by omega) (by simp; omega) ?_; intro v' w1 hown' hgrow _ hat)
        have hb1 : Below w9.heap.size w9 w1 := (hbw.alloc hzw _).grown hgrow (by simp; omega) (fun q e => (hown.lt q e).1)
        have HB1 := Lib.hid hb1
        have HO1 := Lib.hid hown'
        clear hb1 hown' hgrow hat
        go_wp2_with fail
        go_roundw
        case rel =>
          refine ⟨m + 1, _, by have := HXX.out; omega, by have := HXX.out; go_num, rfl, ?_, HB1.out⟩
          rw [HS.out, List.map_append]
          rw [show (0 : Int) + 1 * (m : Int) = xx by have := HXX.out; omega]
          exact HO1.out
        case measure => simp [intOf]; omega
      · have e : (m : Int) = (0 : Int) - 0 + 1 := by omega
        have HE := Lib.hid e
        clear e
        go_wp2_with fail
        go_ret2
        have hmm : m = ((0 : Int) - 0 + 1).toNat := by have := HE.out; omega
        subst hmm
        exact ⟨⟨_, rfl, own_le hown (by have := HQB.out.size; omega)⟩, HQB.out.trans (hbw.mono HQB.out.size)⟩
  · have hk5 : (k == 4) = false := by simpa using hk4
    clear hk4
    go_wp2_with fail
    refine (CL.out _).mono ?_
    rintro e w9 ⟨rfl, rfl⟩
    go_wp2_with fail
    have HQB := Lib.hid (nextC hb1 hb3)
    clear hb1 hc hb3 hc2
    obtain ⟨i0, hinfo, hz0, hz1, hz2⟩ := info_parts infoI
    go_loopw [12, 13] (fun o i wr => ∃ (m : Nat) (u : Value), (m : Int) ≤ (0 : Int) - 0 + 1 ∧ i = .int .i64 ((0 : Int) + (m : Int)) ∧ u = o ∧ wr.ownsRow w9.heap.size 3 1 u m ((stepsL 0 1 m).map (Value.int .i64)) ∧ Below w9.heap.size w9 wr) (fun _ i _ => ((0 : Int) + 1 - intOf i).toNat)
    case atStart => exact ⟨0, .slice none 0 0, by omega, by simp, rfl, World.ownsRow_nil _ _ _ _, Below.refl _ _⟩
    case round =>
      obtain ⟨m, u, hm, rfl, rfl, hown, hbw⟩ := hrel
      have HS := Lib.hid (stepsL_succ 0 1 m)
      have hzw := hbw.size
      by_cases hlt : (0 : Int) + (m : Int) ≤ 0
      · obtain ⟨xx, hxx⟩ : ∃ xx, (0 : Int) + (m : Int) = xx := ⟨_, rfl⟩
        have HXX := Lib.hid hxx
        rw [hxx] at hlt ⊢
        have hxr : xx ≤ 60 := by omega
        have hxr0 : 0 ≤ xx := by omega
        have hm60 : m ≤ 60 := by omega
        clear hxx
        go_wp2_with (at_builtin; refine wpList_append_own_at _ rfl _ _ 22 rfl w9.heap.size 3 i0 (.int .i64 0) 1 8 Try.underlying22 hinfo hz0 hz1 hz2 rfl (by decide) u m _ rfl (hown.alloc _) ⟨wr.heap.size, 0, none⟩ 1 1 [.int .i64 xx] rfl rfl (cell_one_new _ _ _) (by simp [Value.oneCell']) (by unfold maxLen; omega) (by omega) (by simp; omega) ?_; intro v' w1 hown' hgrow _ hat)
        have hb1 : Below w9.heap.size w9 w1 := (hbw.alloc hzw _).grown hgrow (by simp; omega) (fun q e => (hown.lt q e).1)
        have HB1 := Lib.hid hb1
        have HO1 := Lib.hid hown'
        clear hb1 hown' hgrow hat
        go_wp2_with fail
        go_roundw
        case rel =>
          refine ⟨m + 1, _, by have := HXX.out; omega, by have := HXX.out; go_num, rfl, ?_, HB1.out⟩
          rw [HS.out, List.map_append]
          rw [show (0 : Int) + 1 * (m : Int) = xx by have := HXX.out; omega]
          exact HO1.out
        case measure => simp [intOf]; omega
      · have e : (m : Int) = (0 : Int) - 0 + 1 := by omega
        have HE := Lib.hid e
        clear e
        go_wp2_with fail
        go_ret2
        have hmm : m = ((0 : Int) - 0 + 1).toNat := by have := HE.out; omega
        subst hmm
        exact ⟨⟨_, rfl, own_le hown (by have := HQB.out.size; omega)⟩, HQB.out.trans (hbw.mono HQB.out.size)⟩
set_option maxHeartbeats 1000000 in
theorem itemN12 (k : Int) (h0 : 0 ≤ k) (h4 : k ≤ 4) (hk5 : (k == 4) = false) (hl : lowK k ≤ 12) (hh : 12 ≤ highK k) (w : World) :
    Calls Try.prog 76 #[.int .i64 k, .string s12T] w fun e w' => (∃ u, e = .returned (.tuple #[u, .int .i64 0]) ∧ w'.ownsRow w.heap.size 3 1 u ((12 : Int) - 12 + 1).toNat ((stepsL 12 1 ((12 : Int) - 12 + 1).toNat).map (Value.int .i64))) ∧ Below w.heap.size w w' := by
  have CS := Lib.hid (refSplitS s12T 47 (by decide) (ns12 47 rfl rfl))
  have CS2 := Lib.hid (refSplitS s12T 45 (by decide) (ns12 45 rfl rfl))
  have CN := Lib.hid (fun W => num12 k W)
  have CL := Lib.hid (refLow_any k)
  have CH := Lib.hid (refHigh_any k · h0 h4)
  generalize lowK k = lo at *
  generalize highK k = hi at *
  have c1 : decide ((12 : Int) < lo) = false := decide_eq_false (by omega)
  have c2 : decide (hi < (12 : Int)) = false := decide_eq_false (by omega)
  unfold s12T at *
  go_enter Try.func76, Try.ntmps76
  go_wp2_with fail
  refine (CS.out _).mono ?_
  rintro e w1 ⟨⟨g, cap, rfl, hc⟩, hb1⟩
  have hblk := World.block_lt_of_cell? _ _ hc
  go_wp2_with fail
  refine (CL.out _).mono ?_
  rintro e w2 ⟨rfl, rfl⟩
  go_wp2_with fail
  refine (CH.out _).mono ?_
  rintro e w2 ⟨rfl, rfl⟩
  go_wp2_with fail
  refine (CS2.out _).mono ?_
  rintro e w3 ⟨⟨g2, cap2, rfl, hc2⟩, hb3⟩
  go_wp2_with fail
  refine (CN.out _).mono ?_
  rintro e w4 ⟨rfl, rfl⟩
  go_wp2_with fail
  refine (CN.out _).mono ?_
  rintro e w4 ⟨rfl, rfl⟩
  go_wp2_with fail
  refine (CH.out _).mono ?_
  rintro e w5 ⟨rfl, rfl⟩
  go_wp2_with fail
  refine (CL.out _).mono ?_
  rintro e w9 ⟨rfl, rfl⟩
  go_wp2_with fail
  have HQB := Lib.hid (nextC hb1 hb3)
  clear hb1 hc hb3 hc2
  obtain ⟨i0, hinfo, hz0, hz1, hz2⟩ := info_parts infoI
  go_loopw [12, 13] (fun o i wr => ∃ (m : Nat) (u : Value), (m : Int) ≤ (12 : Int) - 12 + 1 ∧ i = .int .i64 ((12 : Int) + (m : Int)) ∧ u = o ∧ wr.ownsRow w9.heap.size 3 1 u m ((stepsL 12 1 m).map (Value.int .i64)) ∧ Below w9.heap.size w9 wr) (fun _ i _ => ((12 : Int) + 1 - intOf i).toNat)
  case atStart => exact ⟨0, .slice none 0 0, by omega, by simp, rfl, World.ownsRow_nil _ _ _ _, Below.refl _ _⟩
  case round =>
    obtain ⟨m, u, hm, rfl, rfl, hown, hbw⟩ := hrel
    have HS := Lib.hid (stepsL_succ 12 1 m)
    have hzw := hbw.size
    by_cases hlt : (12 : Int) + (m : Int) ≤ 12
    · obtain ⟨xx, hxx⟩ : ∃ xx, (12 : Int) + (m : Int) = xx := ⟨_, rfl⟩
      have HXX := Lib.hid hxx
      rw [hxx] at hlt ⊢
      have hxr : xx ≤ 60 := by omega
      have hxr0 : 0 ≤ xx := by omega
      have hm60 : m ≤ 60 := by omega
      clear hxx
      go_wp2_with (at_builtin; refine wpList_append_own_at _ rfl _ _ 22 rfl w9.heap.size 3 i0 (.int .i64 0) 1 8 Try.underlying22 hinfo hz0 hz1 hz2 rfl (by decide) u m _ rfl (hown.alloc _) ⟨wr.heap.size, 0, none⟩ 1 1 [.int .i64 xx] rfl rfl (cell_one_new _ _ _) (by simp [Value.oneCell']) (by unfold maxLen; omega) (by omega) (by simp; omega) ?_; intro v' w1 hown' hgrow _ hat)
      have hb1 : Below w9.heap.size w9 w1 := (hbw.alloc hzw _).grown hgrow (by simp; omega) (fun q e => (hown.lt q e).1)
      have HB1 := Lib.hid hb1
      have HO1 := Lib.hid hown'
      clear hb1 hown' hgrow hat
      go_wp2_with fail
      go_roundw
      case rel =>
        refine ⟨m + 1, _, by have := HXX.out; omega, by have := HXX.out; go_num, rfl, ?_, HB1.out⟩
        rw [HS.out, List.map_append]
        rw [show (12 : Int) + 1 * (m : Int) = xx by have := HXX.out; omega]
        exact HO1.out
      case measure => simp [intOf]; omega
    · have e : (m : Int) = (12 : Int) - 12 + 1 := by omega
      have HE := Lib.hid e
      clear e
      go_wp2_with fail
      go_ret2
      have hmm : m = ((12 : Int) - 12 + 1).toNat := by have := HE.out; omega
      subst hmm
      exact ⟨⟨_, rfl, own_le hown (by have := HQB.out.size; omega)⟩, HQB.out.trans (hbw.mono HQB.out.size)⟩
set_option maxHeartbeats 1000000 in
theorem itemN6 (k : Int) (h0 : 0 ≤ k) (h4 : k ≤ 4) (hl : lowK k ≤ 6) (hh : 6 ≤ highK k) (w : World) :
    Calls Try.prog 76 #[.int .i64 k, .string s6T] w fun e w' => (∃ u, e = .returned (.tuple #[u, .int .i64 0]) ∧ w'.ownsRow w.heap.size 3 1 u ((6 : Int) - 6 + 1).toNat ((stepsL 6 1 ((6 : Int) - 6 + 1).toNat).map (Value.int .i64))) ∧ Below w.heap.size w w' := by
  have CS := Lib.hid (refSplitS s6T 47 (by decide) (ns6 47 rfl))
  have CS2 := Lib.hid (refSplitS s6T 45 (by decide) (ns6 45 rfl))
  have CN := Lib.hid (fun W => num6 k W)
  have CL := Lib.hid (refLow_any k)
  have CH := Lib.hid (refHigh_any k · h0 h4)
  generalize lowK k = lo at *
  generalize highK k = hi at *
  have c1 : decide ((6 : Int) < lo) = false := decide_eq_false (by omega)
  have c2 : decide (hi < (6 : Int)) = false := decide_eq_false (by omega)
  unfold s6T at *
  go_enter Try.func76, Try.ntmps76
  go_wp2_with fail
  refine (CS.out _).mono ?_
  rintro e w1 ⟨⟨g, cap, rfl, hc⟩, hb1⟩
  have hblk := World.block_lt_of_cell? _ _ hc
  go_wp2_with fail
  refine (CL.out _).mono ?_
  rintro e w2 ⟨rfl, rfl⟩
  go_wp2_with fail
  refine (CH.out _).mono ?_
  rintro e w2 ⟨rfl, rfl⟩
  go_wp2_with fail
  refine (CS2.out _).mono ?_
  rintro e w3 ⟨⟨g2, cap2, rfl, hc2⟩, hb3⟩
  go_wp2_with fail
  refine (CN.out _).mono ?_
  rintro e w4 ⟨rfl, rfl⟩
  go_wp2_with fail
  refine (CN.out _).mono ?_
  rintro e w4 ⟨rfl, rfl⟩
  go_wp2_with fail
  refine (CH.out _).mono ?_
  rintro e w5 ⟨rfl, rfl⟩
  by_cases hk4 : k = 4
  · subst hk4
    go_wp2_with fail
    refine (CL.out _).mono ?_
    rintro e w9 ⟨rfl, rfl⟩
    go_wp2_with fail
    have HQB := Lib.hid (nextC hb1 hb3)
    clear hb1 hc hb3 hc2
    obtain ⟨i0, hinfo, hz0, hz1, hz2⟩ := info_parts infoI
    go_loopw [12, 13] (fun o i wr => ∃ (m : Nat) (u : Value), (m : Int) ≤ (6 : Int) - 6 + 1 ∧ i = .int .i64 ((6 : Int) + (m : Int)) ∧ u = o ∧ wr.ownsRow w9.heap.size 3 1 u m ((stepsL 6 1 m).map (Value.int .i64)) ∧ Below w9.heap.size w9 wr) (fun _ i _ => ((6 : Int) + 1 - intOf i).toNat)
    case atStart => exact ⟨0, .slice none 0 0, by omega, by simp, rfl, World.ownsRow_nil _ _ _ _, Below.refl _ _⟩
    case round =>
      obtain ⟨m, u, hm, rfl, rfl, hown, hbw⟩ := hrel
      have HS := Lib.hid (stepsL_succ 6 1 m)
      have hzw := hbw.size
      by_cases hlt : (6 : Int) + (m : Int) ≤ 6
      · obtain ⟨xx, hxx⟩ : ∃ xx, (6 : Int) + (m : Int) = xx := ⟨_, rfl⟩
        have HXX := Lib.hid hxx
        rw [hxx] at hlt ⊢
        have hxr : xx ≤ 60 := by omega
        have hxr0 : 0 ≤ xx := by omega
        have hm60 : m ≤ 60 := by omega
        clear hxx
        go_wp2_with (at_builtin; refine wpList_append_own_at _ rfl _ _ 22 rfl w9.heap.size 3 i0 (.int .i64 0) 1 8 Try.underlying22 hinfo hz0 hz1 hz2 rfl (by decide) u m _ rfl (hown.alloc _) ⟨wr.heap.size, 0, none⟩ 1 1 [.int .i64 xx] rfl rfl (cell_one_new _ _ _) (by simp [Value.oneCell']) (by unfold maxLen; omega) (by omega) (by simp; omega) ?_; intro v' w1 hown' hgrow _ hat)
        have hb1 : Below w9.heap.size w9 w1 := (hbw.alloc hzw _).grown hgrow (by simp; omega) (fun q e => (hown.lt q e).1)
        have HB1 := Lib.hid hb1
        have HO1 := Lib.hid hown'
        clear hb1 hown' hgrow hat
        go_wp2_with fail
        go_roundw
        case rel =>
          refine ⟨m + 1, _, by have := HXX.out; omega, by have := HXX.out; go_num, rfl, ?_, HB1.out⟩
          rw [HS.out, List.map_append]
          rw [show (6 : Int) + 1 * (m : Int) = xx by have := HXX.out; omega]
          exact HO1.out
        case measure => simp [intOf]; omega
      · have e : (m : Int) = (6 : Int) - 6 + 1 := by omega
        have HE := Lib.hid e
        clear e
        go_wp2_with fail
        go_ret2
        have hmm : m = ((6 : Int) - 6 + 1).toNat := by have := HE.out; omega
        subst hmm
        exact ⟨⟨_, rfl, own_le hown (by have := HQB.out.size; omega)⟩, HQB.out.trans (hbw.mono HQB.out.size)⟩
  · have hk5 : (k == 4) = false := by simpa using hk4
    clear hk4
    go_wp2_with fail
    refine (CL.out _).mono ?_
    rintro e w9 ⟨rfl, rfl⟩
    go_wp2_with fail
    have HQB := Lib.hid (nextC hb1 hb3)
    clear hb1 hc hb3 hc2
    obtain ⟨i0, hinfo, hz0, hz1, hz2⟩ := info_parts infoI
    go_loopw [12, 13] (fun o i wr => ∃ (m : Nat) (u : Value), (m : Int) ≤ (6 : Int) - 6 + 1 ∧ i = .int .i64 ((6 : Int) + (m : Int)) ∧ u = o ∧ wr.ownsRow w9.heap.size 3 1 u m ((stepsL 6 1 m).map (Value.int .i64)) ∧ Below w9.heap.size w9 wr) (fun _ i _ => ((6 : Int) + 1 - intOf i).toNat)
    case atStart => exact ⟨0, .slice none 0 0, by omega, by simp, rfl, World.ownsRow_nil _ _ _ _, Below.refl _ _⟩
    case round =>
      obtain ⟨m, u, hm, rfl, rfl, hown, hbw⟩ := hrel
      have HS := Lib.hid (stepsL_succ 6 1 m)
      have hzw := hbw.size
      by_cases hlt : (6 : Int) + (m : Int) ≤ 6
      · obtain ⟨xx, hxx⟩ : ∃ xx, (6 : Int) + (m : Int) = xx := ⟨_, rfl⟩
        have HXX := Lib.hid hxx
        rw [hxx] at hlt ⊢
        have hxr : xx ≤ 60 := by omega
        have hxr0 : 0 ≤ xx := by omega
        have hm60 : m ≤ 60 := by omega
        clear hxx
        go_wp2_with (at_builtin; refine wpList_append_own_at _ rfl _ _ 22 rfl w9.heap.size 3 i0 (.int .i64 0) 1 8 Try.underlying22 hinfo hz0 hz1 hz2 rfl (by decide) u m _ rfl (hown.alloc _) ⟨wr.heap.size, 0, none⟩ 1 1 [.int .i64 xx] rfl rfl (cell_one_new _ _ _) (by simp [Value.oneCell']) (by unfold maxLen; omega) (by omega) (by simp; omega) ?_; intro v' w1 hown' hgrow _ hat)
        have hb1 : Below w9.heap.size w9 w1 := (hbw.alloc hzw _).grown hgrow (by simp; omega) (fun q e => (hown.lt q e).1)
        have HB1 := Lib.hid hb1
        have HO1 := Lib.hid hown'
        clear hb1 hown' hgrow hat
        go_wp2_with fail
        go_roundw
        case rel =>
          refine ⟨m + 1, _, by have := HXX.out; omega, by have := HXX.out; go_num, rfl, ?_, HB1.out⟩
          rw [HS.out, List.map_append]
          rw [show (6 : Int) + 1 * (m : Int) = xx by have := HXX.out; omega]
          exact HO1.out
        case measure => simp [intOf]; omega
      · have e : (m : Int) = (6 : Int) - 6 + 1 := by omega
        have HE := Lib.hid e
        clear e
        go_wp2_with fail
        go_ret2
        have hmm : m = ((6 : Int) - 6 + 1).toNat := by have := HE.out; omega
        subst hmm
        exact ⟨⟨_, rfl, own_le hown (by have := HQB.out.size; omega)⟩, HQB.out.trans (hbw.mono HQB.out.size)⟩
end Go.Proofs.Ythigmjjafilbcaa
