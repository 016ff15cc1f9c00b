/- Contract: Tell. -/
import Derived.Test.YtklmabhjkdkjmaaSeC
import Derived.StillTail
import Derived.Deep.RegionLaw
namespace Go.Proofs.Ytklmabhjkdkjmaa
set_option linter.unusedVariables false
open Go.RowKit
/-- All but two blocks is as it was. -/
structure Bes (g b : Nat) (w w' : World) : Prop where
  os : w'.os = w.os
  tape : w'.tape = w.tape
  output : w'.output = w.output
  size : w.heap.size ≤ w'.heap.size
  block : ∀ k, k < w.heap.size → k ≠ g → k ≠ b → w'.heap[k]? = w.heap[k]?
theorem Bes.refl (g b : Nat) (w : World) : Bes g b w w := ⟨rfl, rfl, rfl, Nat.le_refl _, fun _ _ _ _ => rfl⟩
theorem Bes.of_below {g b : Nat} {w w' : World} (h : Below w.heap.size w w') : Bes g b w w' := ⟨h.os, h.tape, h.output, h.size, fun k hk _ _ => h.block k hk⟩
theorem Bes.trans {g b : Nat} {w w' w'' : World} (h : Bes g b w w') (k : Bes g b w' w'') : Bes g b w w'' :=
  ⟨k.os.trans h.os, k.tape.trans h.tape, k.output.trans h.output, Nat.le_trans h.size k.size, fun j hj h1 h2 => (k.block j (Nat.lt_of_lt_of_le hj h.size) h1 h2).trans (h.block j hj h1 h2)⟩
theorem Bes.grown {g b : Nat} {w w' w'' : World} (h : Bes g b w w') {r : Option Nat} (hg : w'.grownBy w'' r) (hr : ∀ k, r = some k → k = g ∨ k = b ∨ w.heap.size ≤ k) : Bes g b w w'' :=
  ⟨hg.os.trans h.os, hg.tape.trans h.tape, hg.output.trans h.output, Nat.le_trans h.size hg.size, fun j hj h1 h2 => (hg.block j (Nat.lt_of_lt_of_le hj h.size) (fun e => by
    rcases hr j e.symm with h3 | h3 | h3
    · exact h1 h3
    · exact h2 h3
    · omega)).trans (h.block j hj h1 h2)⟩
theorem Bes.below {g b : Nat} {w w' : World} (h : Bes g b w w') {base : Nat} (hg : base ≤ g) (hb : base ≤ b) (hs : base ≤ w.heap.size) : Below base w w' :=
  ⟨h.os, h.tape, h.output, h.size, fun k hk => h.block k (by omega) (by omega) (by omega)⟩
theorem Bes.grow {g b : Nat} {w w' : World} (h : Bes g b w w') : ∀ k, k < w.heap.size → k ≠ g → k ≠ b → w'.heap[k]? = w.heap[k]? := h.block
theorem row_map {w : World} {g b m : Nat} {T : TypeId} {cs : Array Value} {ks : List Int} {f : Int → Value} (hr : Row w g T cs) (hm : MpS w b m ks f) : g ≠ b := fun e => by
  obtain ⟨n, D, ⟨es, clock, hb, _⟩, _⟩ := hm
  subst e
  have := hr.symm.trans hb
  cases this
theorem setCell_grown (w : World) (g i : Nat) (u : Value) : w.grownBy (w.setCell ⟨g, i, none⟩ u) (some g) := ⟨rfl, rfl, rfl, by simp, fun k _ hk => heap_setCell_other w ⟨g, i, none⟩ k u (fun e => hk (by simp [e]))⟩
set_option maxHeartbeats 1000000 in
theorem tell_no (g b m : Nat) (L : List Tk) (c s e n : Int) (w : World) (h : ClAt w g b m L) (hc : (Lit.int .u64 c).wf = true) (hz : tellE L c s ≠ 0) :
    Calls Try.prog 7 #[.pointer (some ⟨g, 0, none⟩), .int .u64 c, .int .u64 s, .agg #[.int .i64 e, .int .u64 n]] w fun ex w' => ex = .returned (.int .i64 (tellE L c s)) ∧ Below w.heap.size w w' := by
  obtain ⟨W1, hW1⟩ : ∃ W1, w.alloc (.cells #[.int .i64 e, .int .u64 n] 30) = W1 := ⟨_, rfl⟩
  have hb1 : Below w.heap.size w W1 := by rw [← hW1]; exact (Below.refl _ w).alloc (Nat.le_refl _) _
  have C1 := Lib.hid (ask_any g b m L c s W1 (h.below hb1) hc)
  have HB := Lib.hid hb1
  have hcase : (askE L c s ≠ 0 ∧ tellE L c s = askE L c s) ∨ (askE L c s = 0 ∧ askK L c s = true ∧ tellE L c s = 180) := by
    unfold tellE at hz ⊢
    by_cases h1 : askE L c s = 0
    · rw [if_neg (fun h => h h1)] at hz ⊢
      by_cases h2 : askK L c s = true
      · exact .inr ⟨h1, h2, by rw [if_pos h2]⟩
      · rw [if_neg h2] at hz; exact absurd rfl hz
    · exact .inl ⟨h1, by rw [if_pos h1]⟩
  generalize askR L c s = rr at C1
  generalize askE L c s = ae at C1 hcase
  generalize askK L c s = ak at C1 hcase
  clear h hb1 hz
  rcases hcase with ⟨h1, h2⟩ | ⟨rfl, rfl, h2⟩
  · rw [h2]
    have t1 : (ae != 0) = true := by simpa using h1
    clear h1 h2
    go_enter Try.func7, Try.ntmps7
    go_wp2_with fail
    refine C1.out.mono ?_
    rintro ex w2 ⟨rfl, hb2⟩
    have K2 := Lib.hid (nextC HB.out hb2)
    clear hb2 C1 hW1
    go_wp2_with fail
    go_ret
    exact ⟨rfl, nextB K2.out⟩
  · rw [h2]
    clear h2
    go_enter Try.func7, Try.ntmps7
    go_wp2_with fail
    refine C1.out.mono ?_
    rintro ex w2 ⟨rfl, hb2⟩
    have K2 := Lib.hid (nextC HB.out hb2)
    clear hb2 C1 hW1
    go_wp2_with fail
    go_ret
    exact ⟨rfl, nextB K2.out⟩
theorem tell_zero {L : List Tk} {c s : Int} (hz : tellE L c s = 0) : askE L c s = 0 ∧ askK L c s = false := by
  unfold tellE at hz
  by_cases h1 : askE L c s = 0
  · rw [if_neg (fun h => h h1)] at hz
    refine ⟨h1, ?_⟩
    cases h2 : askK L c s
    · rfl
    · rw [h2] at hz; simp at hz
  · rw [if_pos h1] at hz; exact absurd hz h1
set_option maxHeartbeats 2000000 in
set_option maxRecDepth 100000 in
theorem tell_ok (g b m : Nat) (L : List Tk) (t : Tk) (w : World) (h : ClAt w g b m L) (hc : (Lit.int .u64 t.cl).wf = true) (hz : tellE L t.cl t.sq = 0) (hm9 : m ≤ 900000) :
    Calls Try.prog 7 #[.pointer (some ⟨g, 0, none⟩), .int .u64 t.cl, .int .u64 t.sq, .agg #[.int .i64 t.e, .int .u64 t.n]] w fun ex w' => ex = .returned (.int .i64 0) ∧ ClAt w' g b (m + 1) (tellL L t) ∧ Bes g b w w' := by
  have hgood := tell_good h.good t
  obtain ⟨W1, hW1⟩ : ∃ W1, w.alloc (.cells #[.int .i64 t.e, .int .u64 t.n] 30) = W1 := ⟨_, rfl⟩
  have hb1 : Below w.heap.size w W1 := by rw [← hW1]; exact (Below.refl _ w).alloc (Nat.le_refl _) _
  have r1 : Row W1 w.heap.size 30 #[.int .i64 t.e, .int .u64 t.n] := by rw [← hW1]; exact Row.new w _ _
  have C1 := ask_any g b m L t.cl t.sq W1 (h.below hb1) hc
  obtain ⟨z1, z2⟩ := tell_zero hz
  rw [z1, z2] at C1
  generalize askR L t.cl t.sq = rr at C1
  have C1 := Lib.hid C1
  have HB := Lib.hid hb1
  have R1 := Lib.hid r1
  have HH := Lib.hid h
  have HZ := Lib.hid hz
  have HG := Lib.hid hgood
  clear h hb1 r1 hz hgood z1 z2
  go_enter Try.func7, Try.ntmps7
  go_wp2_with fail
  refine C1.out.mono ?_
  rintro ex w2 ⟨rfl, hb2⟩
  go_upto_region 4 with fail
  obtain ⟨W3, hW3⟩ : ∃ W3, w2.alloc (.cells #[.int .i64 rr.1, .int .u64 rr.2] 30) = W3 := ⟨_, rfl⟩
  have hb3 : Below w.heap.size w W3 := by rw [← hW3]; exact nextB (nextC HB.out hb2)
  have r3 : Row W3 w.heap.size 30 #[.int .i64 t.e, .int .u64 t.n] := by rw [← hW3]; exact (R1.out.over hb2).alloc _
  rw [hW3]
  obtain ⟨u, us, hr, hm, hu, hu0, hu1⟩ := (HH.out.below hb3).w_.ex
  have hgb : g ≠ b := row_map hr hm
  have hgl : g < w.heap.size := by
    obtain ⟨_, _, hr0, -⟩ := HH.out.w_.ex
    exact hr0.lt
  have hbl : b < w.heap.size := by
    obtain ⟨_, _, _, hm0, -⟩ := HH.out.w_.ex
    exact hm0.lt
  have c0 := hr.cell 0
  have c1 := hr.cell 1
  have f1 := hr.free 1
  simp at c0 c1
  have e1 : IntKind.i64.wrap (u + 1) = u + 1 := IntWalk.i64_in _ (by omega)
  have HR := Lib.hid hr
  have HM := Lib.hid hm
  have HU := Lib.hid hu
  have B3 := Lib.hid hb3
  have R3 := Lib.hid r3
  clear hr hm hu hb3 r3 hW3 hW1 hb2 C1 HB R1
  go_upto_region 7 with fail
  obtain ⟨W4, hW4⟩ : ∃ W4, W3.setCell ⟨g, 1, none⟩ (.int .i64 (u + 1)) = W4 := ⟨_, rfl⟩
  have hr4 : Row W4 g 48 #[.map (some b), .int .i64 (u + 1)] := by rw [← hW4]; exact (HR.out.put 1 _).eq (by simp)
  have r4 : Row W4 w.heap.size 30 #[.int .i64 t.e, .int .u64 t.n] := by rw [← hW4]; exact R3.out.far (by simp; omega) _
  have hm4 : MpS W4 b m (cls L) (atC L us) := by rw [← hW4]; exact HM.out.grown (setCell_grown W3 g 1 _) (by simp; omega)
  have B4 : Bes g b w W4 := by rw [← hW4]; exact (Bes.of_below B3.out).grown (setCell_grown W3 g 1 _) (fun k hk => by cases hk; exact .inl rfl)
  rw [hW4]
  have d0 := hr4.cell 0
  have d1 := hr4.cell 1
  have d2 := r4.cell 0
  have d3 := r4.cell 1
  simp at d0 d1 d2 d3
  have HR4 := Lib.hid hr4
  have HM4 := Lib.hid hm4
  have HB4 := Lib.hid B4
  clear hW4 hr4 r4 hm4 B4 c0 c1 f1 HR HM B3 R3
  refine wp_region_still_tail 12 (by kernel_rfl) (by kernel_rfl) ?_
  simp only [List.take_succ_cons, List.take_zero, List.drop_succ_cons, List.drop_zero]
  repeat still_step
  refine wpStill_nil ?_
  go_wp2_with (at_mapUpdate; refine putS (w := W4.drew) rfl _ _ _ rfl b m (cls L) (atC L us) t.cl (tkV t.sq t.e t.n (u + 1)) rfl rfl rfl HM4.out hc (by omega) ?_)
  intro W5 hm5 hg5
  obtain ⟨L1, hL1⟩ : ∃ L1, wo L t.cl ++ [t] = L1 := ⟨_, rfl⟩
  have hm5' : MpS W5 b (m + 1) (cls L1) (atC L1 (updU us t.cl (u + 1))) := by rw [← hL1]; exact hm5.congr (put_keys L t) (atC_put L us (u + 1) t)
  have hu5 : Uses L1 (updU us t.cl (u + 1)) (u + 1) := by rw [← hL1]; exact uses_put HU.out hu0 t
  have hn5 : (cls L1).Nodup := by rw [← hL1]; exact wo_nodup' HH.out.good.once t
  have hl5 : L1.length ≤ 17 := by
    rw [← hL1, List.length_append, List.length_singleton]
    have := wo_len L t.cl
    have := HH.out.good.few
    omega
  have hwf5 : ∀ x ∈ L1, (Lit.int .u64 x.cl).wf = true := fun x hx => by
    rw [← hL1] at hx
    rcases List.mem_append.1 hx with hx | hx
    · exact HH.out.w_.wf x (wo_mem.1 hx).1
    · rw [List.mem_singleton] at hx; subst hx; exact hc
  have hT : tellL L t = cut16 L1 := by unfold tellL; rw [if_pos HZ.out, hL1]
  have hr5 : Row W5 g 48 #[.map (some b), .int .i64 (u + 1)] := (hg5.block g HR4.out.lt (by simp; omega)).trans HR4.out
  have B5 : Bes g b w W5 := Bes.grown (w' := W4.drew) ⟨HB4.out.os, HB4.out.tape, HB4.out.output, HB4.out.size, HB4.out.block⟩ hg5 (fun k hk => by cases hk; exact .inr (.inl rfl))
  generalize updU us t.cl (u + 1) = us5 at hm5' hu5
  have hlen := fun ty => hm5'.len hn5 (fun x hx => by obtain ⟨y, hy, rfl⟩ := List.mem_map.1 hx; exact hwf5 y hy) ty
  rw [show (cls L1).length = L1.length by unfold cls; rw [List.length_map]] at hlen
  have c5 := hr5.cell 0
  simp at c5
  have HCW := Lib.hid (show ClW W5 g b (m + 1) L1 from ⟨hn5, hl5, hwf5, u + 1, us5, hr5, hm5', hu5, by omega, by omega⟩)
  have HT := Lib.hid hT
  have HB5 := Lib.hid B5
  have HGB := Lib.hid hgb
  have HGL := Lib.hid (show (⟨g, 0, none⟩ : Addr).block < W5.heap.size from hr5.lt)
  clear hm5 hm5' hu5 hn5 hwf5 hT hr5 B5 hg5 HR4 HM4 HB4 d0 d1 d2 d3 HU hL1 e1
  by_cases h17 : 16 < L1.length
  · have t1 : (16 : Int) < (L1.length : Int) := by omega
    obtain ⟨t0, L2, rfl⟩ : ∃ t0 L2, L1 = t0 :: L2 := by
      cases L1 with
      | nil => simp at h17
      | cons a l => exact ⟨a, l, rfl⟩
    rw [List.length_cons] at t1
    have t3 : (16 : Int) < (L2.length : Int) + 1 := by omega
    clear t1
    have hwf0 := HCW.out.wf t0 (by simp)
    have BD := Lib.hid (below_drewN (Below.refl W5.heap.size W5) 1)
    have C9 := Lib.hid (clients_any g b (m + 1) (t0 :: L2) W5.drew (HCW.out.below BD.out) (by omega))
    have SD := Lib.hid (show W5.drew.cell? ⟨g, 0, none⟩ = some (.map (some b)) ∧ Bes g b W5 W5.drew from ⟨c5, Bes.of_below BD.out⟩)
    have t2 : (0 : Int) < (L2.length : Int) + 1 := by omega
    go_wp2_with fail
    go_region_law (first
        | (refine stepDropS rfl (.tmp 52) (.tmp 56) rfl b (m + 1) (cls (t0 :: L2)) (atC (t0 :: L2) us8) t0.cl (by rfl) (by rfl) hm8.out hwf0 ?_; intro w9 hm9 hg9; have HM9 := Lib.hid hm9; have HG9 := Lib.hid hg9; clear hm9 hg9)
        | (go_simp; (with_reducible refine C9.out.mono ?_); rintro ex8 w8 ⟨B8, d8, rfl, ho8, hb8⟩; dsimp only; obtain ⟨ad8, hB8, -, hc8⟩ := ho8.sl 0 (by simp [cls]); subst hB8; simp [cls, Addr.add] at hc8; have K8 := Lib.hid (BD.out.trans (hb8.mono (Nat.le_refl _))); obtain ⟨u8, us8, hr8, hm8, hu8, hu80, hu81⟩ := (HCW.out.below K8.out).ex; have hm8 := Lib.hid hm8; have hr8 := Lib.hid hr8; have hu8 := Lib.hid hu8; have hmc8 : w8.cell? ⟨g, 0, none⟩ = some (.map (some b)) := (K8.out.cell (p := ⟨g, 0, none⟩) HGL.out).trans c5; clear ho8 hb8))
    all_goals go_wp2_with fail
    all_goals go_ret
    all_goals
      have hc16 : cut16 (t0 :: L2) = L2 := by unfold cut16; rw [if_pos h17]; rfl
      have hG := HG.out
      rw [HT.out, hc16] at hG ⊢
      have hn := HCW.out.once
      refine ⟨rfl, ⟨hG, (List.nodup_cons.1 (show (t0.cl :: cls L2).Nodup from hn)).2, by have := hG.few; omega, fun x hx => HCW.out.wf x (by simp [hx]), u8, updU us8 t0.cl 0, ?_, HM9.out.congr (drop_keys hn) (atC_drop hn us8), uses_drop hn hu8.out, hu80, hu81⟩, ?_⟩
      · exact (HG9.out.block g hr8.out.lt (by simp; exact HGB.out)).trans hr8.out
      · exact (HB5.out.trans (Bes.of_below K8.out)).grown HG9.out (fun k hk => by cases hk; exact .inr (.inl rfl))
  · have t1 : decide ((16 : Int) < (L1.length : Int)) = false := decide_eq_false (by omega)
    go_wp2_with fail
    go_ret
    have hc16 : cut16 L1 = L1 := by unfold cut16; rw [if_neg h17]
    have hG := HG.out
    rw [HT.out, hc16] at hG ⊢
    exact ⟨rfl, ⟨hG, HCW.out⟩, HB5.out⟩
end Go.Proofs.Ytklmabhjkdkjmaa
