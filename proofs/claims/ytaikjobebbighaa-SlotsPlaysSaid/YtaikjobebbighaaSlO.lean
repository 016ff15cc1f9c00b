/- Slots: Ask that is put in line; Ask at a book. -/
import Derived.Test.YtaikjobebbighaaSlZ
namespace Go.Proofs.Ytaikjobebbighaa
set_option linter.unusedVariables false
set_option maxRecDepth 100000
open Go.RowKit
set_option maxHeartbeats 8000000 in
theorem ask_yes (g b : Nat) (st : Bk) (ys : List Wh) (k : Key) (s : Pst) (y : Wh) (x1 x2 : Int) (w : World) (h : BkAt w g b st ys) (hg : bkGet st ys k = some (s, y)) (hk : k.length ≤ 1000000) (ho : PoolOk s.size s.h s.l) (hx1 : ¬ x1 = 0) (hx2 : ¬ x2 < 1) (hx3 : ¬ s.size < x2) (hp : ¬ (0 ≤ placeV s.h x1 ∨ 0 ≤ placeV s.l x1)) (hf : ¬ 1024 ≤ s.l.length) (ho2 : PoolOk s.size s.h (s.l ++ [(x1, x2)])) :
    Calls Try.prog 12 #[.pointer (some ⟨g, 0, none⟩), nm k, .agg #[.int .u64 x1, .int .i64 x2]] w fun e w' => ∃ ys', e = .returned (.tuple #[.bool (decide (0 < (servesF s.size s.h (s.l ++ [(x1, x2)])).2.2.length)), .int .i64 0]) ∧ Turn w w' g b ys (bkPut st k (serveP s.size s.h (s.l ++ [(x1, x2)]))) ys' := by
  obtain ⟨W1, hW1⟩ : ∃ W1, w.alloc (.cells #[.int .u64 x1, .int .i64 x2] 38) = W1 := ⟨_, rfl⟩
  obtain ⟨N, hN⟩ : ∃ N, w.heap.size = N := ⟨_, rfl⟩
  have hb1 : Below w.heap.size w W1 := by rw [← hW1]; exact (Below.refl _ w).alloc (Nat.le_refl _) _
  have hx0 : Row W1 N 38 #[.int .u64 x1, .int .i64 x2] := by rw [← hW1, ← hN]; exact Row.new w _ _
  have h1 := h.over hb1
  obtain ⟨es, hm, hd⟩ := h1.map
  obtain ⟨c, c', r1, r2, r3, r4⟩ := hd.pool hg
  have cb := h1.row.cell 0
  simp at cb
  have hl := h1.look k hk
  rw [hg] at hl
  have hl2 : (Instr.lookup 72 (.map (some b)) (nm k) false).run Try.prog W1 = .ok (.pointer (some ⟨y.p, 0, none⟩)) W1 := hl
  obtain ⟨T, F, hT, hF, hG⟩ := class_of (fun v => Below W1.heap.size W1 v) W1.drew (Below.refl _ _).drew
  have f0 : ∀ n, (F n).cell? ⟨y.p, 0, none⟩ = some (.int .i64 s.size) := fun n => ((r1.over (hF n)).cell 0).trans rfl
  have f1 : ∀ n, (F n).cell? ⟨N, 0, none⟩ = some (.int .u64 x1) := fun n => ((hx0.over (hF n)).cell 0).trans rfl
  have f2 : ∀ n, (F n).cell? ⟨N, 1, none⟩ = some (.int .i64 x2) := fun n => ((hx0.over (hF n)).cell 1).trans rfl
  have f3 : ∀ n, (F n).cell? ⟨y.p, 1, none⟩ = some (.slice y.A s.h.length c) := fun n => ((r1.over (hF n)).cell 1).trans rfl
  have f4 : ∀ n, (F n).cell? ⟨y.p, 2, none⟩ = some (.slice y.A' s.l.length c') := fun n => ((r1.over (hF n)).cell 2).trans rfl
  have hfw := ho.few
  have P1 := Lib.hid (fun n => (place_val y.A c s.h x1 (F n) ((RkO.rks enP_len r2).over (hF n)) (by omega)).mono (R' := fun e w' => e = .returned (.int .i64 (placeV s.h x1)) ∧ ∃ m, w' = F m) fun e w' hh => ⟨hh.1, hG _ (nextC (hF n) hh.2)⟩)
  have P2 := Lib.hid (fun n => (place_val y.A' c' s.l x1 (F n) ((RkO.rks enP_len r3).over (hF n)) (by omega)).mono (R' := fun e w' => e = .returned (.int .i64 (placeV s.l x1)) ∧ ∃ m, w' = F m) fun e w' hh => ⟨hh.1, hG _ (nextC (hF n) hh.2)⟩)
  have HF := Lib.hid hF
  have HG := Lib.hid hG
  have HB := Lib.hid (show Below N w W1 by rw [← hN]; exact hb1)
  have hNs : N < W1.heap.size := hx0.lt
  have R1 := Lib.hid r1
  have R2 := Lib.hid r2
  have R3 := Lib.hid r3
  have R4 := Lib.hid r4
  have HX := Lib.hid hx0
  have HH := Lib.hid h
  have HLT := Lib.hid (show ∀ k, y.foot k → k < N from fun k hk => by rw [← hN]; obtain ⟨es0, _, hd0⟩ := h.map; exact (hd0.pool hg).lt hk)
  clear hF hG hl h h1 hd hm r1 r2 r3 r4 hx0 hb1
  have d1 : (x1 == 0) = false := by simpa using hx1
  have d2 : decide (x2 < 1) = false := decide_eq_false hx2
  have d3 : decide (s.size < x2) = false := decide_eq_false hx3
  generalize placeV s.h x1 = i at *
  generalize placeV s.l x1 = j at *
  have d4 : decide (0 ≤ i) = false := decide_eq_false (by omega)
  have d5 : decide (0 ≤ j) = false := decide_eq_false (by omega)
  have d6 : decide ((1024 : Int) ≤ (s.l.length : Int)) = false := decide_eq_false (by omega)
  go_enter Try.func12, Try.ntmps12
  go_upto_region 6 with fail
  try rw [hW1]
  try rw [hN]
  refine wp_region_class F (by kernel_rfl) (by kernel_rfl) (HG.out _ (Below.refl _ _).drew) ?_
  repeat (go_big_quiet_step (fail))
  refine wpQuiet_nil ?_
  rintro _ ⟨nq, rfl⟩
  have sq := HG.out (F nq).drew (HF.out nq).drew
  go_upto_region 8 with fail
  refine wp_region_class F (by kernel_rfl) (by kernel_rfl) sq ?_
  repeat (go_big_quiet_step (first | (go_at_call 28; exact P1.out _) | (go_at_call 28; exact P2.out _)))
  refine wpQuiet_nil ?_
  rintro _ ⟨nr, rfl⟩
  have hbq := HF.out nr
  have q1 := R1.out.over hbq
  have q2 := R2.out.over hbq
  have q3 := R3.out.over hbq
  have qx := HX.out.over hbq
  have hB0 := Lib.hid hbq
  have a1 := f1 nr
  have a2 := f2 nr
  have a4 := f4 nr
  generalize F nr = wq at *
  clear f0 f1 f2 f3 f4 P1 P2 HF HG sq hbq
  go_upto_region 12 with fail
  obtain ⟨M, hM⟩ : ∃ M, wq.heap.size = M := ⟨_, rfl⟩
  obtain ⟨W2, hW2⟩ : ∃ W2, wq.drew.alloc (.cells #[.int .u64 x1, .int .i64 x2] 38) = W2 := ⟨_, rfl⟩
  have hb2 : Below M wq W2 := by rw [← hW2, ← hM]; exact (Below.refl _ wq).drew.alloc (Nat.le_refl _) _
  have hv2 : PlS W2 (some ⟨M, 0, none⟩) [(x1, x2)] := by
    have := Row.new wq.drew 38 #[.int .u64 x1, .int .i64 x2]
    rw [hW2] at this
    rw [show wq.drew.heap.size = M from hM] at this
    exact RkS.of_row (t := 38) enP_len (by simpa [rkCs, enP] using this)
  have hL2 : PlO 0 W2 y.A' c' s.l := q3.over (by rw [hM]; exact hb2)
  obtain ⟨B', d', w6, hr, ho6, hg6, hn6⟩ := run_appK (P := Try.prog) (st := 31) (ty := 31) (ys := [(x1, x2)]) Try.underlying31 infoP rfl (by decide) (by decide) enP_len enP_one hL2 ⟨M, 0, none⟩ 1 hv2 (Nat.zero_le _) (by simp; omega)
  have hOB : ∀ k, Value.ownBlock (.slice y.A' s.l.length c') = some k → y.A' = some ⟨k, 0, none⟩ := fun k e => by
    rcases q3.form with ⟨e0, -, -⟩ | ⟨g', e0, -, -, -⟩
    · rw [e0] at e; simp [Value.ownBlock] at e
    · rw [e0] at e; simp [Value.ownBlock] at e; rw [e0, e]
  have hb6 : But (fun k => y.A' = some ⟨k, 0, none⟩) wq w6 := (But.of_below (F := fun k => y.A' = some ⟨k, 0, none⟩) hb2 (by omega)).trans (But.of_grown hg6 hOB)
  have hp6 := q1.but hb6 (q3.off q1 (by decide))
  have hx6 := qx.but hb6 (fun e => by have := HLT.out N (.inr (.inr e)); omega)
  have hNp : N ≠ y.p := fun e => by have := HLT.out y.p (.inl rfl); omega
  have q3l : wq.cell? ⟨y.p, 2, none⟩ = some (.slice y.A' s.l.length c') := (q1.cell 2).trans rfl
  have q3d : W2.cell? ⟨y.p, 2, none⟩ = some (.slice y.A' s.l.length c') := (hb2.cell (p := ⟨y.p, 2, none⟩) (by show y.p < M; rw [← hM]; exact q1.lt)).trans q3l
  have k3 : wq.cell? ⟨N, 0, none⟩ = some (.int .u64 x1) := (qx.cell 0).trans rfl
  have k4 : wq.cell? ⟨N, 1, none⟩ = some (.int .i64 x2) := (qx.cell 1).trans rfl
  have hNM : N < M := by rw [← hM]; exact qx.lt
  obtain ⟨T2, F2, hT2, hF2, hG2⟩ := class_of (fun v => v.cell? ⟨N, 0, none⟩ = some (.int .u64 x1) ∧ v.cell? ⟨N, 1, none⟩ = some (.int .i64 x2)) wq.drew ⟨k3, k4⟩
  have f1 := fun n => (hF2 n).1
  have f2 := fun n => (hF2 n).2
  have HG2 := Lib.hid hG2
  clear hF2 hG2
  have s1 := HG2.out wq.drew ⟨k3, k4⟩
  have s2 : ∃ n, W2 = F2 n := HG2.out W2 ⟨(hb2.cell (p := ⟨N, 0, none⟩) (by show N < M; omega)).trans k3, (hb2.cell (p := ⟨N, 1, none⟩) (by show N < M; omega)).trans k4⟩
  have s6 : ∃ n, w6 = F2 n := HG2.out w6 ⟨(hx6.cell 0).trans rfl, (hx6.cell 1).trans rfl⟩
  have n2 := hp6.cell 2
  have n3 := hp6.free 2
  have hrun : (Builtin.append_ #[31, 31] 31 #[.slice y.A' s.l.length c', .slice (some ⟨M, 0, none⟩) 1 1]).run Try.prog W2 = .ok (.slice B' (s.l.length + 1) d') w6 := hr
  refine wp_region_held (S := fun v => ∃ n, v = F2 n) (by kernel_rfl) ?_
  change wpAnyH _ _ _ _ _ _ _ _ (World.drew _)
  refine held_stretch (C := fun v => ∃ n, v = F2 n) (by kernel_rfl) (fun _ _ _ _ _ h => h) (fun _ h => h) s1 7 4 0 _ _ (by kernel_rfl) (by kernel_rfl) (by decide) ?_
  simp only [List.take_succ_cons, List.take_zero, List.drop_zero]
  repeat (go_big_quiet_step (fail))
  refine wpQuiet_nil ?_
  refine held_stretch (C := fun v => ∃ n, v = F2 n) (by kernel_rfl) (fun _ _ _ _ _ h => h) (fun _ h => h) s1 6 1 5 _ _ (by kernel_rfl) (by kernel_rfl) (by decide) ?_
  simp only [List.take_succ_cons, List.take_zero, List.drop_succ_cons, List.drop_zero]
  repeat (go_big_quiet_step (fail))
  refine wpQuiet_nil ?_
  refine held_pair 4 6 (by kernel_rfl) ?ordA ?ordB
  case' ordA =>
    refine op_run (v := .slice y.A' s.l.length c') (w' := wq.drew) rfl (by kernel_rfl) (by go_simp) ?_
    refine ⟨s1, ?_⟩
    simp only [List.setIfInBounds_toArray, Act.put]
    refine held_one 6 (by kernel_rfl) ?_
    refine op_run (v := .slice (some ⟨M, 0, none⟩) 1 1) (w' := W2) rfl (by kernel_rfl) (by go_simp) ?_
    refine ⟨s2, ?_⟩
    simp only [List.setIfInBounds_toArray, List.set_cons_succ, List.set_cons_zero, Act.put]
  case' ordB =>
    refine op_run (v := .slice (some ⟨M, 0, none⟩) 1 1) (w' := W2) rfl (by kernel_rfl) (by go_simp) ?_
    refine ⟨s2, ?_⟩
    simp only [List.setIfInBounds_toArray, Act.put]
    refine held_one 4 (by kernel_rfl) ?_
    refine op_run (v := .slice y.A' s.l.length c') (w' := W2) rfl (by kernel_rfl) (by go_simp) ?_
    refine ⟨s2, ?_⟩
    simp only [List.setIfInBounds_toArray, List.set_cons_succ, List.set_cons_zero, Act.put]
  all_goals
    refine held_one 7 (by kernel_rfl) ?_
    refine op_run (v := .slice B' (s.l.length + 1) d') (w' := w6) rfl (by kernel_rfl) (by simp [execOp, resolve, invoke, builtin, Act.eval, hrun, Result.andThen]) ?_
    refine ⟨s6, ?_⟩
    simp only [List.setIfInBounds_toArray, List.set_cons_succ, List.set_cons_zero, Act.put, List.getElem_toArray, List.getElem_cons_succ, List.getElem_cons_zero]
    refine held_stretch (C := fun v => ∃ n, v = F2 n) (by kernel_rfl) (fun _ _ _ _ _ h => h) (fun _ h => h) s6 1 2 8 _ _ (by kernel_rfl) (by kernel_rfl) (by decide) ?_
    simp only [List.take_succ_cons, List.take_zero, List.drop_succ_cons, List.drop_zero]
    repeat (go_big_quiet_step (fail))
    refine wpQuiet_nil ?_
    refine held_one 10 (by kernel_rfl) ?_
    refine op_skip (w' := w6.setCell ⟨y.p, 2, none⟩ (.slice B' (s.l.length + 1) d')) rfl (by kernel_rfl) (by go_simp) ?_
    refine ⟨HG2.out _ ⟨((hx6.far (p := ⟨y.p, 2, none⟩) hNp _).cell 0).trans rfl, ((hx6.far (p := ⟨y.p, 2, none⟩) hNp _).cell 1).trans rfl⟩, ?_⟩
    simp only [List.setIfInBounds_toArray, Act.put]
    refine wpAnyH_done (by kernel_rfl) ?_ _
    have hsz : N ≤ wq.heap.size := by omega
    have hbw : But y.foot w wq := (But.of_below (F := y.foot) HB.out (by omega)).trans (But.of_below hB0.out (Nat.le_refl _))
    have hb3 : But y.foot w (w6.setCell ⟨y.p, 2, none⟩ (.slice B' (s.l.length + 1) d')) := (hbw.trans (hb6.mono fun j e => .inl (.inr (.inr e)))).put (.inl (.inl rfl)) _
    have hA6 : PlO 0 w6 y.A c s.h := q2.but hb6 (fun g' e => R4.out _ e)
    have hk3 : PoolAt (w6.setCell ⟨y.p, 2, none⟩ (.slice B' (s.l.length + 1) d')) y.p s.size s.h (s.l ++ [(x1, x2)]) y.A B' :=
      ⟨c, d', by rw [List.length_append, List.length_singleton]; exact hp6.put 2 _, hA6.store hp6 (by decide) 2 _, ho6.store hp6 (by decide) 2 _, fun g' e e2 => by
        rcases RkO.near (hn6.low (by have := hb2.size; omega : M ≤ _)) e2 with h5 | h5
        · exact R4.out _ e h5
        · have := HLT.out g' (.inr (.inl e)); omega⟩
    have hn3 : ∀ j, Foot y.p y.A B' j → y.foot j ∨ w.heap.size ≤ j := fun j hj => by
      rcases hj with e | e | e
      · exact .inl (.inl e)
      · exact .inl (.inr (.inl e))
      · rcases RkO.near (hn6.low (by have := hb2.size; omega : M ≤ _)) e with h5 | h5
        · exact .inl (.inr (.inr h5))
        · exact .inr (by omega)
    have SV := Lib.hid (serve_turn HH.out hg hb3 hk3 hn3 ho2)
    clear hk3 hb3 hn3 hA6 f1 f2 HG2 s1 s2 s6 hr hrun
    go_wp2_with fail
    refine SV.out.mono ?_
    rintro e w8 ⟨B, d, ys', rfl, hga, htu⟩
    have HT := Lib.hid htu
    clear hga htu SV
    go_wp2_with fail
    go_ret2
    exact ⟨ys', by simp, HT.out⟩
/-- Ask at a book: any name, any place. -/
theorem ask_any (n : Nat) (g b : Nat) (st : Bk) (ys : List Wh) (k : Key) (x1 x2 : Int) (w : World) (h : BkAt w g b st ys) (ok : BkOk n st) (hn : n + 1 ≤ 100000) (hk : k.length ≤ 1000000) :
    Calls Try.prog 12 #[.pointer (some ⟨g, 0, none⟩), nm k, .agg #[.int .u64 x1, .int .i64 x2]] w fun e w' => ∃ ys', e = .returned (.tuple #[.bool (askB st k (x1, x2)).2.1, .int .i64 (askB st k (x1, x2)).2.2]) ∧ Turn w w' g b ys (askB st k (x1, x2)).1 ys' := by
  rcases hs : stGet st k with _ | s
  · refine (ask_no g b st ys k (x1, x2) w h (bkGet_none hs) hk).mono ?_
    rintro e w' ⟨rfl, hb⟩
    unfold askB
    rw [hs]
    exact ⟨ys, rfl, Turn.stay h hb⟩
  · obtain ⟨y, hy⟩ := h.some_ hs
    have hgo := (ok k s hs).good.ok
    have hfw := (ok k s hs).few
    unfold askB
    rw [hs]
    dsimp only
    unfold askR
    dsimp only
    split
    · rename_i h0
      refine (ask_arg g b st ys k s y x1 x2 w h hy hk hgo h0).mono ?_
      rintro e w' ⟨rfl, hb⟩
      rw [bkPut_same hs]
      exact ⟨ys, rfl, Turn.stay h hb⟩
    rename_i h0
    split
    · rename_i h1
      refine (ask_twice g b st ys k s y x1 x2 w h hy hk hgo (by omega) (by omega) (by omega) h1).mono ?_
      rintro e w' ⟨rfl, hb⟩
      rw [bkPut_same hs]
      exact ⟨ys, rfl, Turn.stay h hb⟩
    rename_i h1
    split
    · rename_i h2
      refine (ask_full g b st ys k s y x1 x2 w h hy hk hgo (by omega) (by omega) (by omega) h1 h2).mono ?_
      rintro e w' ⟨rfl, hb⟩
      rw [bkPut_same hs]
      exact ⟨ys, rfl, Turn.stay h hb⟩
    rename_i h2
    exact ask_yes g b st ys k s y x1 x2 w h hy hk hgo (by omega) (by omega) (by omega) h1 h2 (hgo.ask (by omega) (placeV_neg.1 (by show placeV s.h x1 < 0; omega)) (placeV_neg.1 (by show placeV s.l x1 < 0; omega)) (by show 1 ≤ x2; omega) (by show x2 ≤ s.size; omega))
end Go.Proofs.Ytaikjobebbighaa
