/- Slots: the document's Free. -/
import Derived.Test.YtaikjobebbighaaSpU
import Derived.Deep.RegionLaw
namespace Go.Proofs.Ytaikjobebbighaa
set_option linter.unusedVariables false
set_option maxRecDepth 100000
open Go.RowKit
theorem RfAt.out {w : World} {p : Nat} {r : Rb} {z : Za} (h : RfZ w p r z) {q : Nat} (hq : q < r.L.length) (hll : r.L.length ≤ 1000) :
    ∃ (adL A2 : Addr) (B1 : Option Addr) (d1 : Nat) (w1 : World) (B2 : Option Addr) (d2 : Nat) (w2 : World), z.LA = some adL ∧ r.L.length ≤ z.cL ∧ z.cL ≤ maxLen ∧ (if z.cL = q + 1 then some adL else some (adL.add ((q + 1) * 4))) = some A2 ∧
      (∀ W, (Instr.slice 54 (.slice (some adL) r.L.length z.cL) none (some (.int .i64 (q : Nat))) none).run Try.prog W = .ok (.slice (some adL) q z.cL) W) ∧
      (∀ W, (Instr.slice 54 (.slice (some adL) r.L.length z.cL) (some (.int .i64 ((q : Int) + 1))) none none).run Try.prog W = .ok (.slice (some A2) (r.L.length - (q + 1)) (z.cL - (q + 1))) W) ∧
      (Builtin.append_ #[54, 54] 54 #[.slice (some ⟨w.heap.size, 0, none⟩) 0 0, .slice (some adL) q z.cL]).run Try.prog (w.alloc (.cells #[] 87)) = .ok (.slice B1 q d1) w1 ∧
      (Builtin.append_ #[54, 54] 54 #[.slice B1 q d1, .slice (some A2) (r.L.length - (q + 1)) (z.cL - (q + 1))]).run Try.prog w1 = .ok (.slice B2 (r.L.length - 1) d2) w2 ∧
      w1.cell? ⟨p, 2, none⟩ = some (.slice z.LA r.L.length z.cL) ∧ w2.cell? ⟨p, 2, none⟩ = some (.slice z.LA r.L.length z.cL) ∧ w2.frozen? ⟨p, 2, none⟩ = false ∧ RTurn w (w2.setCell ⟨p, 2, none⟩ (.slice B2 (r.L.length - 1) d2)) p z (outRb r q) { z with LA := B2, cL := d2 } := by
  rcases h.ens.form with ⟨-, -, e⟩ | ⟨g, hg, -, hgw, hgc⟩
  · rw [e] at hq; simp at hq
  have hcm : z.cL ≤ maxLen := by
    have h1 := h.ens
    rw [hg] at h1
    obtain ⟨cur, -, -, -, h2, -⟩ := h1.open_
    exact h2
  have hcm2 : z.cL ≤ 9223372036854775807 := by unfold maxLen at hcm; omega
  have hsz : ∀ W, (sizeOf (Try.prog.elem 54)).run Try.prog W = .ok 4 W := fun W => by kernel_rfl
  have hut : Try.prog.underlying 54 = some (.slice (Try.prog.elem 54)) := by kernel_rfl
  obtain ⟨adL, hadL⟩ : ∃ adL : Addr, (⟨g, 0, none⟩ : Addr) = adL := ⟨_, rfl⟩
  obtain ⟨A2, hA2⟩ : ∃ A2 : Addr, (if z.cL = q + 1 then some adL else (some adL).map (·.add ((q + 1) * 4))) = some A2 := by
    by_cases e : z.cL = q + 1
    · exact ⟨adL, by rw [if_pos e]⟩
    · exact ⟨adL.add ((q + 1) * 4), by rw [if_neg e]; rfl⟩
  have s1 : ∀ W, (Instr.slice 54 (.slice (some adL) r.L.length z.cL) none (some (.int .i64 (q : Nat))) none).run Try.prog W = .ok (.slice (some adL) q z.cL) W := fun W => by
    rw [run_slice_h W _ _ _ _ hut .i64 (q : Nat) (by omega) (by omega), hsz]
    simp [Result.andThen, sliced, Addr.add]
  have s2 : ∀ W, (Instr.slice 54 (.slice (some adL) r.L.length z.cL) (some (.int .i64 ((q : Int) + 1))) none none).run Try.prog W = .ok (.slice (some A2) (r.L.length - (q + 1)) (z.cL - (q + 1))) W := fun W => by
    rw [run_slice_l W _ _ _ _ hut .i64 ((q : Int) + 1) (by omega) (by omega), hsz]
    simp only [Result.andThen, sliced]
    have e : ((q : Int) + 1).toNat = q + 1 := by omega
    rw [e, hA2]
  obtain ⟨w0, hw0⟩ : ∃ w0, w.alloc (.cells #[] 87) = w0 := ⟨_, rfl⟩
  have hb0 : Below w.heap.size w w0 := by rw [← hw0]; exact (Below.refl _ _).alloc (Nat.le_refl _) _
  have hown0 : RkO enE 4 87 w.heap.size w0 (some ⟨w.heap.size, 0, none⟩) 0 ([] : List En) := by rw [← hw0]; exact RkO.made0 enE 4 _ w
  have hrs0 : RkS enE 4 w0 (some adL) (r.L.take q) := by
    have := (RkO.rks enE_len (h.over hb0).ens).take q
    rw [hg, hadL] at this
    exact this
  have hlt : (r.L.take q).length = q := by rw [List.length_take]; omega
  obtain ⟨B1, d1, w1, hr1, ho1, hg1, hn1⟩ := run_appK (P := Try.prog) (st := 54) (ty := 54) (ys := r.L.take q) Try.underlying54 infoE rfl (by decide) (by decide) enE_len enE_one hown0 adL z.cL hrs0 hb0.size (by rw [hlt]; simp; omega)
  rw [hlt] at hr1
  simp only [List.length_nil, Nat.zero_add, List.nil_append] at hr1 ho1
  have hz0 := hb0.size
  have hb1 : Below w.heap.size w w1 := hb0.grown hg1 hz0 (fun k e => by
    have := ownK hown0 e
    injection this with this; injection this with this
    omega)
  have hrs1 : RkS enE 4 w1 (some A2) (r.L.drop (q + 1)) := by
    have := (RkO.rks enE_len (h.over hb1).ens).cut (n := q + 1) hgc
    rw [hg, hadL, hA2] at this
    exact this
  have hld : (r.L.drop (q + 1)).length = r.L.length - (q + 1) := List.length_drop
  have ho1' : RkO enE 4 87 w.heap.size w1 B1 d1 (r.L.take q) := ho1
  obtain ⟨B2, d2, w2, hr2, ho2, hg2, hn2⟩ := run_appK (P := Try.prog) (st := 54) (ty := 54) (ys := r.L.drop (q + 1)) Try.underlying54 infoE rfl (by decide) (by decide) enE_len enE_one ho1' A2 (z.cL - (q + 1)) hrs1 hb1.size (by rw [hlt, hld]; omega)
  rw [hlt, hld] at hr2
  have hsum : q + (r.L.length - (q + 1)) = r.L.length - 1 := by omega
  rw [hsum] at hr2
  have hb2 : Below w.heap.size w w2 := hb1.grown hg2 hb1.size (fun k e => by
    have := ownK ho1' e
    rcases ho1'.fresh none k this with h1 | h1
    · cases h1
    · exact h1)
  have h2 := h.over hb2
  refine ⟨adL, A2, B1, d1, w1, B2, d2, w2, by rw [hg, hadL], hgc, hcm, hA2, s1, s2, by rw [hw0]; exact hr1, hr2, ((h.over hb1).row.cell 2).trans rfl, (h2.row.cell 2).trans rfl, h2.row.free 2, ⟨⟨?_, ?_, ?_, ?_⟩, (But.of_below hb2 (Nat.le_refl _)).put (.inl (.inl rfl)) _, fun j hj => ?_⟩⟩
  · have := h2.row.put 2 (.slice B2 (r.L.length - 1) d2)
    refine this.eq ?_
    show _ = #[_, _, Value.slice B2 (r.L.take q ++ r.L.drop (q + 1)).length d2]
    rw [List.length_append, hlt, hld, hsum]
    rfl
  · exact h2.nms.store h2.row (by decide) 2 _
  · exact h2.szs.store h2.row (by decide) 2 _
  · exact (ho2.low (Nat.zero_le _)).store h2.row (by decide) 2 _
  · rcases hj with e | e | e | e
    · exact .inl (.inl e)
    · exact .inl (.inr (.inl e))
    · exact .inl (.inr (.inr (.inl e)))
    · rcases ho2.fresh none j e with h1 | h1
      · cases h1
      · exact .inr h1
set_option maxHeartbeats 8000000 in
theorem refFree_any (p : Nat) (r : Rb) (z : Za) (k : Key) (t : Int) (w : World) (h : RfZ w p r z) (ok : RbOk r) :
    Calls Try.prog 22 #[.pointer (some ⟨p, 0, none⟩), nm k, .int .u64 t] w (RGave w p z (freeRb r k t)) := by
  have HA := Lib.hid h
  have hll := ok.ll
  have CP := Lib.hid (refPool_any p r z.NA z.SA z.LA z.cN z.cS z.cL k w h (by have := ok.nl; omega))
  have CF := Lib.hid (refFind_any p r z.NA z.SA z.LA z.cN z.cS z.cL (poolOf r k) t w h (by omega))
  unfold freeRb
  by_cases c1 : poolOf r k < 0 ∨ findN r.L (poolOf r k) t 0 < 0
  · rw [if_pos c1]
    generalize findN r.L (poolOf r k) t 0 = q at *
    generalize poolOf r k = i at *
    clear h
    by_cases c2 : i < 0
    · go_enter Try.func22, Try.ntmps22
      go_wp2_with fail
      refine CP.out.mono ?_
      rintro e w1 ⟨rfl, rfl⟩
      go_wp2_with fail
      refine CF.out.mono ?_
      rintro e w2 ⟨rfl, rfl⟩
      go_wp2_with fail
      go_ret2
      exact ⟨none, 0, z, rfl, RkO.nil _ _, RTurn.stay HA.out (Below.refl _ _)⟩
    · have d1 : decide (i < 0) = false := decide_eq_false c2
      have c3 : q < 0 := by omega
      go_enter Try.func22, Try.ntmps22
      go_wp2_with fail
      refine CP.out.mono ?_
      rintro e w1 ⟨rfl, rfl⟩
      go_wp2_with fail
      refine CF.out.mono ?_
      rintro e w2 ⟨rfl, rfl⟩
      go_wp2_with fail
      go_ret2
      exact ⟨none, 0, z, rfl, RkO.nil _ _, RTurn.stay HA.out (Below.refl _ _)⟩
  rw [if_neg c1]
  rcases poolOf_is r k with ⟨e0, -⟩ | ⟨i, hi, e0, -⟩
  · exact absurd (.inl (by rw [e0]; decide)) c1
  rcases findN_is (poolOf r k) t r.L 0 with ⟨e1, -⟩ | ⟨q, hq, e1, -, -⟩
  · exact absurd (.inr (by rw [e1]; decide)) c1
  rw [Nat.zero_add] at e1
  rw [e1, Int.toNat_natCast, e0]
  rw [e1, e0] at CF
  rw [e0] at CP
  have hi2 : i < r.sizes.length := by rw [ok.len]; exact hi
  have hd := h.over (Below.refl _ w).drew
  obtain ⟨adL, A2, B1, d1, w1, B2, d2, w2, hLA, hgc, hcm, hA2, s1, s2, hr1, hr2, f0, f1, f2, T1⟩ := RfAt.out (w := w.drew) hd hq (by omega)
  obtain ⟨w3, hw3⟩ : ∃ w3, w2.setCell ⟨p, 2, none⟩ (.slice B2 (r.L.length - 1) d2) = w3 := ⟨_, rfl⟩
  rw [hw3] at T1
  obtain ⟨w0, hw0⟩ : ∃ w0, w.drew.alloc (.cells #[] 87) = w0 := ⟨_, rfl⟩
  have hr1' : (Builtin.append_ #[54, 54] 54 #[.slice (some ⟨w.heap.size, 0, none⟩) 0 0, .slice (some adL) q z.cL]).run Try.prog w0 = .ok (.slice B1 q d1) w1 := by rw [← hw0]; exact hr1
  have hb0 : Below w.drew.heap.size w.drew w0 := by rw [← hw0]; exact (Below.refl _ _).alloc (Nat.le_refl _) _
  have y2 := hd.row.cell 2
  have y3 := (hd.over hb0).row.cell 2
  simp only [List.getElem?_toArray, List.getElem?_cons_succ, List.getElem?_cons_zero] at y2 y3
  rw [hLA] at y2 y3 f0 f1
  have hsp2 : sizeP (outRb r q) (i : Int) = sizeP r i := rfl
  have CS := Lib.hid (refServe_turn T1.at_ (i := i) hi2 (by rw [hsp2]; exact ok.size hi2) (by show (r.L.take q ++ r.L.drop (q + 1)).length ≤ 1000; rw [List.length_append, List.length_take, List.length_drop]; omega) (fun y hy => by
    rcases List.mem_append.1 hy with hy | hy
    · exact ok.many y (List.mem_of_mem_take hy)
    · exact ok.many y (List.mem_of_mem_drop hy)))
  have HT1 := Lib.hid ((RTurn.stay h (Below.refl _ w).drew).trans T1)
  have hqz : (q : Int) < (r.L.length : Int) := by omega
  have hi3 : ¬ ((i : Int) < 0) := by omega
  have hq3 : ¬ ((q : Int) < 0) := by omega
  have hcm2 : z.cL ≤ 9223372036854775807 := by unfold maxLen at hcm; omega
  have hqw : IntKind.i64.wrap ((q : Int) + 1) = (q : Int) + 1 := by rw [IntKind.wrap_i64]; omega
  have hqn : ((q : Int) + 1).toNat = q + 1 := by omega
  have hq0 : (0 : Int) ≤ (q : Int) + 1 := by omega
  have hq1 : (q : Int) + 1 ≤ (r.L.length : Int) := by omega
  clear h hd T1 hb0 e0 e1 c1 hi hq hr1
  go_enter Try.func22, Try.ntmps22
  go_wp2_with fail
  refine CP.out.mono ?_
  rintro e v1 ⟨rfl, rfl⟩
  go_wp2_with fail
  refine CF.out.mono ?_
  rintro e v2 ⟨rfl, rfl⟩
  go_upto_region 5 with fail
  go_region_law (first
    | (refine step_append_run rfl (.tmp 24) (.tmp 30) 54 54 rfl _ _ (by simp [Act.eval, Act.put]; done) (by simp [Act.eval, Act.put]; done) hr1' ?_)
    | (refine step_append_run rfl (.tmp 31) (.tmp 38) 54 54 rfl _ _ (by simp [Act.eval, Act.put]; done) (by simp [Act.eval, Act.put]; done) hr2 ?_))
  all_goals
    go_wp2_with fail
    refine CS.out.mono ?_
    rintro e w4 ⟨B, d, rfl, ho, ht⟩
    have HO := Lib.hid (ho.low (Nat.le_trans HT1.out.but.size (Nat.le_refl _)))
    have HT2 := Lib.hid (HT1.out.trans ht)
    clear ho ht CS HT1
    go_wp2_with fail
    go_ret2
    exact ⟨B, d, _, rfl, HO.out, HT2.out⟩
end Go.Proofs.Ytaikjobebbighaa
