/- Slots: the closure of pool.serves. -/
import Derived.Test.YtaikjobebbighaaMe
import Derived.Test.YtaikjobebbighaaMb
import Derived.Deep.RegionLaw
namespace Go.Proofs.Ytaikjobebbighaa
set_option linter.unusedVariables false
set_option maxRecDepth 100000
open Go.RowKit
set_option maxHeartbeats 4000000 in
theorem serves1_any (p pb ob : Nat) (size : Int) (A : Option Addr) (c : Nat) (h : List Pl) (vL : Value) (B : Option Addr) (d : Nat) (out : List Pl) (x : Pl) (w : World)
    (hp : Row w p 77 #[.int .i64 size, .slice A h.length c, vL]) (hpb : Row w pb 75 #[.pointer (some ⟨p, 0, none⟩)]) (hob : Row w ob 31 #[.slice B out.length d])
    (hA : PlO 0 w A c h) (hB : PlO 0 w B d out) (hap : ∀ g, A = some ⟨g, 0, none⟩ → B ≠ some ⟨g, 0, none⟩) (hs : Rising h) (hl : h.length ≤ 100000) (ho : out.length ≤ 100000) :
    Calls Try.prog 44 #[.agg #[.int .u64 x.1, .int .i64 x.2], .pointer (some ⟨pb, 0, none⟩), .pointer (some ⟨ob, 0, none⟩)] w fun e w' => e = .returned (.tuple #[]) ∧ ∃ (i : Nat) (A' : Option Addr) (c' : Nat) (B' : Option Addr) (d' : Nat), AtIs h x.1 i ∧
      Row w' p 77 #[.int .i64 size, .slice A' (h.length + 1) c', vL] ∧ Row w' ob 31 #[.slice B' (out.length + 1) d'] ∧ PlO 0 w' A' c' (insT h i x) ∧ PlO 0 w' B' d' (out ++ [x]) ∧
      NearB w.heap.size A A' ∧ NearB w.heap.size B B' ∧ (∀ g, A' = some ⟨g, 0, none⟩ → B' ≠ some ⟨g, 0, none⟩) ∧ But (fun k => k = p ∨ k = ob ∨ A = some ⟨k, 0, none⟩ ∨ B = some ⟨k, 0, none⟩) w w' := by
  obtain ⟨N, hN⟩ : ∃ N, w.heap.size = N := ⟨_, rfl⟩
  obtain ⟨W0, hW0⟩ : ∃ W0, w.alloc (.cells #[.int .u64 x.1, .int .i64 x.2] 38) = W0 := ⟨_, rfl⟩
  have hx0 : Row W0 N 38 #[.int .u64 x.1, .int .i64 x.2] := by rw [← hW0, ← hN]; exact Row.new w _ _
  have hb0 : Below N w W0 := by rw [← hW0, ← hN]; exact (Below.refl _ w).alloc (Nat.le_refl _) _
  have hpN : p < N := by rw [← hN]; exact hp.lt
  have hpbN : pb < N := by rw [← hN]; exact hpb.lt
  have hobN : ob < N := by rw [← hN]; exact hob.lt
  have hs0 : N < W0.heap.size := hx0.lt
  have hS0 : PlS W0 A h := RkS.over (w := w) (RkO.rks enP_len hA) (by rw [hN]; exact hb0)
  have hp0 := hp.below hb0 hpN
  have hpb0 := hpb.below hb0 hpbN
  -- the search
  have BS := Lib.hid (fun W (hW : Below W0.heap.size W0 W) => bsearch_any A c h x.1 W (hS0.over hW) hs (by omega))
  obtain ⟨T, F, hT, hF, hG⟩ := class_of (fun v => Below W0.heap.size W0 v) W0.drew (Below.refl _ _).drew
  have f1 : ∀ n, (F n).cell? ⟨pb, 0, none⟩ = some (.pointer (some ⟨p, 0, none⟩)) := fun n => (((hpb0.over (hF n)).cell 0)).trans rfl
  have f2 : ∀ n, (F n).cell? ⟨p, 1, none⟩ = some (.slice A h.length c) := fun n => (((hp0.over (hF n)).cell 1)).trans rfl
  have f3 : ∀ n, (F n).cell? ⟨N, 0, none⟩ = some (.int .u64 x.1) := fun n => (((hx0.over (hF n)).cell 0)).trans rfl
  have HB := Lib.hid hF
  have HG := Lib.hid hG
  clear hF hG
  have in1 := enter_of Try.func45 (by kernel_rfl) (by kernel_rfl)
  go_enter Try.func44, Try.ntmps44
  go_upto_region 1 with fail
  try rw [hN]
  try rw [hW0]
  refine wp_region_held (S := fun v => ∃ n, v = F n) (by kernel_rfl) ?_
  refine held_stretch (C := fun v => ∃ n, v = F n) (by kernel_rfl) (fun _ _ _ _ _ h => h) (fun _ h => h) (HG.out _ (Below.refl _ _).drew) 6 6 0 _ _ (by kernel_rfl) (by kernel_rfl) (by decide) ?_
  simp only [List.take_succ_cons, List.take_zero, List.drop_zero]
  repeat (go_big_quiet_step (fail))
  refine wpQuiet_nil ?_
  refine held_call 6 _ 13 45 _ _ #[.slice A h.length c, .int .u64 x.1, .func (.func 46) #[] #[]] (by kernel_rfl) rfl rfl rfl in1 (by kernel_rfl) (by kernel_rfl) ?_
  refine (BS.out _ (Below.refl _ _).drew).mono ?_
  rintro e w1 ⟨⟨i, b, rfl, hi⟩, hb1⟩
  have HI := Lib.hid hi
  have B1 := Lib.hid (show Below W0.heap.size W0 w1 from (Below.refl _ _).drew.trans (hb1.mono (Nat.le_refl _)))
  refine ⟨_, rfl, HG.out _ B1.out, ?_⟩
  clear hi hb1
  simp only [List.setIfInBounds_toArray, List.set_cons_succ, List.set_cons_zero]
  refine held_stretch (C := fun v => ∃ n, v = F n) (by kernel_rfl) (fun _ _ _ _ _ h => h) (fun _ h => h) (HG.out _ B1.out) 0 5 7 _ _ (by kernel_rfl) (by kernel_rfl) (by decide) ?_
  simp only [List.take_succ_cons, List.take_zero, List.drop_succ_cons, List.drop_zero]
  repeat (go_big_quiet_step (fail))
  refine wpQuiet_nil ?_
  refine wpAnyH_done (by kernel_rfl) ?_ _
  clear HG HB f1 f2 f3 BS in1
  -- the insertion
  obtain ⟨M, hM⟩ : ∃ M, w1.heap.size = M := ⟨_, rfl⟩
  have hNM : N < M := by rw [← hM]; exact Nat.lt_of_lt_of_le hs0 B1.out.size
  have hp1 := hp0.over B1.out
  have hpb1 := hpb0.over B1.out
  have hx1 := hx0.over B1.out
  have hbw1 : Below N w w1 := hb0.trans (B1.out.mono (by omega))
  have hob1 := hob.below hbw1 hobN
  have hA1 := hA.over (w' := w1) (by rw [hN]; exact hbw1)
  have hB1' := hB.over (w' := w1) (by rw [hN]; exact hbw1)
  obtain ⟨W2, hW2⟩ : ∃ W2, w1.drew.alloc (.cells #[.int .u64 x.1, .int .i64 x.2] 38) = W2 := ⟨_, rfl⟩
  have hb2 : Below M w1 W2 := by rw [← hW2, ← hM]; exact (Below.refl _ w1).drew.alloc (Nat.le_refl _) _
  have hv2 : Row W2 M 38 (enP x).toArray := by rw [← hW2, ← hM]; exact Row.new w1.drew _ _
  have hA2 : PlO 0 W2 A c h := hA1.over (by rw [hM]; exact hb2)
  have hlt : ∀ g, A = some ⟨g, 0, none⟩ → g < N := fun g e => by
    rcases hA.form with ⟨e2, -, -⟩ | ⟨g', e2, -, h3, -⟩
    · rw [e2] at e; cases e
    · rw [e2] at e; injection e with e; injection e with e; omega
  have hltB : ∀ g, B = some ⟨g, 0, none⟩ → g < N := fun g e => by
    rcases hB.form with ⟨e2, -, -⟩ | ⟨g', e2, -, h3, -⟩
    · rw [e2] at e; cases e
    · rw [e2] at e; injection e with e; injection e with e; omega
  have hAp := hA.off hp (by decide)
  have hApb := hA.off hpb (by decide)
  have hAob := hA.off hob (by decide)
  have hBp := hB.off hp (by decide)
  have hBob := hB.off hob (by decide)
  have hpob : p ≠ ob := hp.ne hob (by decide)
  have hppb : p ≠ pb := hp.ne hpb (by decide)
  have hobpb : ob ≠ pb := hob.ne hpb (by decide)
  have INS := Lib.hid (insert_any 0 A c h i x M W2 hA2 HI.out.1 hv2 (fun g e => by have := hlt g e; omega) (by omega) (Nat.zero_le _))
  have hOB : ∀ k, Value.ownBlock (.slice A h.length c) = some k → A = some ⟨k, 0, none⟩ := fun k e => by
    rcases hA.form with ⟨rfl, -, -⟩ | ⟨g', rfl, -, -, -⟩
    · simp [Value.ownBlock] at e
    · simp [Value.ownBlock] at e; rw [e]
  have hOBB : ∀ k, Value.ownBlock (.slice B out.length d) = some k → B = some ⟨k, 0, none⟩ := fun k e => by
    rcases hB.form with ⟨rfl, -, -⟩ | ⟨g', rfl, -, -, -⟩
    · simp [Value.ownBlock] at e
    · simp [Value.ownBlock] at e; rw [e]
  -- what the insertion leaves
  have J := Lib.hid (INS.out.mono (R' := fun e w3 => ∃ A' c', e = .returned (.slice A' (h.length + 1) c') ∧ PlO 0 w3 A' c' (insT h i x) ∧ NearB M A A' ∧ But (fun k => A = some ⟨k, 0, none⟩) w1 w3) fun e w3 ⟨⟨A', c', e1, ho, hn⟩, hg⟩ =>
    ⟨A', c', e1, ho, hn.low (by have := hb2.size; omega), (But.of_below (F := fun k => A = some ⟨k, 0, none⟩) hb2 (by omega)).trans (But.of_grown hg hOB)⟩)
  clear INS
  have k1 : w1.cell? ⟨pb, 0, none⟩ = some (.pointer (some ⟨p, 0, none⟩)) := (hpb1.cell 0).trans rfl
  have k2 : w1.cell? ⟨p, 1, none⟩ = some (.slice A h.length c) := (hp1.cell 1).trans rfl
  have k3 : w1.cell? ⟨N, 0, none⟩ = some (.int .u64 x.1) := (hx1.cell 0).trans rfl
  have k4 : w1.cell? ⟨N, 1, none⟩ = some (.int .i64 x.2) := (hx1.cell 1).trans rfl
  have m1 : W2.cell? ⟨pb, 0, none⟩ = some (.pointer (some ⟨p, 0, none⟩)) := (hb2.cell (p := ⟨pb, 0, none⟩) (by show pb < M; omega)).trans k1
  have m2 : W2.cell? ⟨p, 1, none⟩ = some (.slice A h.length c) := (hb2.cell (p := ⟨p, 1, none⟩) (by show p < M; omega)).trans k2
  clear hW0 hx0 hb0 hS0 hp0 hpb0
  go_upto_region 2 with fail
  have in2 := enter_of Try.func47 (by kernel_rfl) (by kernel_rfl)
  obtain ⟨T2, F2, hT2, hF2, hG2⟩ := class_of (fun v => v.cell? ⟨pb, 0, none⟩ = some (.pointer (some ⟨p, 0, none⟩)) ∧ v.cell? ⟨N, 0, none⟩ = some (.int .u64 x.1) ∧ v.cell? ⟨N, 1, none⟩ = some (.int .i64 x.2)) w1.drew ⟨k1, k3, k4⟩
  have f1 := fun n => (hF2 n).1
  have f2 := fun n => (hF2 n).2.1
  have f3 := fun n => (hF2 n).2.2
  have HG2 := Lib.hid hG2
  clear hF2 hG2
  have s1 := HG2.out w1.drew ⟨k1, k3, k4⟩
  refine wp_region_held (S := fun v => ∃ n, v = F2 n) (by kernel_rfl) ?_
  change wpAnyH _ _ _ _ _ _ _ _ (World.drew _)
  refine held_stretch (C := fun v => ∃ n, v = F2 n) (by kernel_rfl) (fun _ _ _ _ _ h => h) (fun _ h => h) s1 8 4 0 _ _ (by kernel_rfl) (by kernel_rfl) (by decide) ?_
  simp only [List.take_succ_cons, List.take_zero, List.drop_zero]
  repeat (go_big_quiet_step (fail))
  refine wpQuiet_nil ?_
  refine held_stretch (C := fun v => ∃ n, v = F2 n) (by kernel_rfl) (fun _ _ _ _ _ h => h) (fun _ h => h) s1 6 2 5 _ _ (by kernel_rfl) (by kernel_rfl) (by decide) ?_
  simp only [List.take_succ_cons, List.take_zero, List.drop_succ_cons, List.drop_zero]
  repeat (go_big_quiet_step (fail))
  refine wpQuiet_nil ?_
  have k2d : w1.drew.cell? ⟨p, 1, none⟩ = some (.slice A h.length c) := k2
  have s2 : ∃ n, W2 = F2 n := HG2.out W2 ⟨m1, (hb2.cell (p := ⟨N, 0, none⟩) (by show N < M; omega)).trans k3, (hb2.cell (p := ⟨N, 1, none⟩) (by show N < M; omega)).trans k4⟩
  refine held_pair 4 7 (by kernel_rfl) ?ordA ?ordB
  case' ordA =>
    refine op_run (v := .slice A h.length c) (w' := w1.drew) rfl (by kernel_rfl) (by go_simp) ?_
    refine ⟨s1, ?_⟩
    simp only [List.setIfInBounds_toArray, Act.put]
    refine held_one 7 (by kernel_rfl) ?_
    refine op_run (v := .slice (some ⟨M, 0, none⟩) 1 1) (w' := W2) rfl (by kernel_rfl) (by go_simp) ?_
    refine ⟨s2, ?_⟩
    simp only [List.setIfInBounds_toArray, List.set_cons_succ, List.set_cons_zero, Act.put]
  case' ordB =>
    refine op_run (v := .slice (some ⟨M, 0, none⟩) 1 1) (w' := W2) rfl (by kernel_rfl) (by go_simp) ?_
    refine ⟨s2, ?_⟩
    simp only [List.setIfInBounds_toArray, Act.put]
    refine held_one 4 (by kernel_rfl) ?_
    refine op_run (v := .slice A h.length c) (w' := W2) rfl (by kernel_rfl) (by go_simp) ?_
    refine ⟨s2, ?_⟩
    simp only [List.setIfInBounds_toArray, List.set_cons_succ, List.set_cons_zero, Act.put]
  all_goals
    refine held_call 8 _ 24 47 _ _ #[.slice A h.length c, .int .i64 i, .slice (some ⟨M, 0, none⟩) 1 1] (by kernel_rfl) rfl rfl rfl in2 (by kernel_rfl) (by kernel_rfl) ?_
    refine J.out.mono ?_
    rintro e w3 ⟨A', c', rfl, ho3, hn3, hb3⟩
    have hp3 := hp1.but hb3 hAp
    have hpb3 := hpb1.but hb3 hApb
    have hx3 := hx1.but hb3 (fun e => by have := hlt _ e; omega)
    have s3 : ∃ n, w3 = F2 n := HG2.out w3 ⟨(hpb3.cell 0).trans rfl, (hx3.cell 0).trans rfl, (hx3.cell 1).trans rfl⟩
    refine ⟨_, rfl, s3, ?_⟩
    simp only [List.setIfInBounds_toArray, List.set_cons_succ, List.set_cons_zero]
    refine held_stretch (C := fun v => ∃ n, v = F2 n) (by kernel_rfl) (fun _ _ _ _ _ h => h) (fun _ h => h) s3 1 2 9 _ _ (by kernel_rfl) (by kernel_rfl) (by decide) ?_
    simp only [List.take_succ_cons, List.take_zero, List.drop_succ_cons, List.drop_zero]
    repeat (go_big_quiet_step (fail))
    refine wpQuiet_nil ?_
    refine held_one 11 (by kernel_rfl) ?_
    have n2 := hp3.cell 1
    have n3 := hp3.free 1
    obtain ⟨w4, hw4⟩ : ∃ w4, w3.setCell ⟨p, 1, none⟩ (.slice A' (h.length + 1) c') = w4 := ⟨_, rfl⟩
    refine op_skip (w' := w3.setCell ⟨p, 1, none⟩ (.slice A' (h.length + 1) c')) rfl (by kernel_rfl) (by go_simp) ?_
    rw [hw4]
    have hp4 : Row w4 p 77 #[.int .i64 size, .slice A' (h.length + 1) c', vL] := by rw [← hw4]; exact hp3.put 1 _
    have hpb4 : Row w4 pb 75 #[.pointer (some ⟨p, 0, none⟩)] := by rw [← hw4]; exact hpb3.far (p := ⟨p, 1, none⟩) (fun e => hppb e.symm) _
    have hx4 : Row w4 N 38 #[.int .u64 x.1, .int .i64 x.2] := by rw [← hw4]; exact hx3.far (p := ⟨p, 1, none⟩) (fun e => by have e : N = p := e; omega) _
    refine ⟨HG2.out w4 ⟨(hpb4.cell 0).trans rfl, (hx4.cell 0).trans rfl, (hx4.cell 1).trans rfl⟩, ?_⟩
    simp only [List.setIfInBounds_toArray, Act.put]
    refine wpAnyH_done (by kernel_rfl) ?_ _
    -- all but the pool's block, and its holders' row
    have hb4 : But (fun k => k = p ∨ A = some ⟨k, 0, none⟩) w1 w4 := by
      rw [← hw4]
      exact ((But.refl _ w1).next hb3 (fun j e => .inl (.inr e))).put (.inl (.inl rfl)) _
    have hob4 := hob1.but hb4 (by rintro (e | e); exact hpob e.symm; exact hAob e)
    have hB4 := hB1'.but hb4 (fun g e => by rintro (e2 | e2); exact hBp (e2 ▸ e); exact hap g e2 e)
    have hA4 : PlO 0 w4 A' c' (insT h i x) := by
      rw [← hw4]
      exact ho3.keep fun g e cs hc => Below.heap_setCell w3 ⟨p, 1, none⟩ _ g (fun e2 => by
        have e2 : g = p := e2
        rcases RkO.near hn3 e with h1 | h1
        · exact hAp (e2 ▸ h1)
        · omega)
    have hsz4 : M ≤ w4.heap.size := by have := hb4.size; omega
    -- what was served
    obtain ⟨M4, hM4⟩ : ∃ M4, w4.heap.size = M4 := ⟨_, rfl⟩
    obtain ⟨W5, hW5⟩ : ∃ W5, w4.alloc (.cells #[.int .u64 x.1, .int .i64 x.2] 38) = W5 := ⟨_, rfl⟩
    have hv5 : PlS W5 (some ⟨M4, 0, none⟩) [x] := by
      have := Row.new w4 38 #[.int .u64 x.1, .int .i64 x.2]
      rw [hW5, hM4] at this
      exact RkS.of_row (t := 38) enP_len (by simpa [rkCs, enP] using this)
    have hb5 : Below M4 w4 W5 := by rw [← hW5, ← hM4]; exact (Below.refl _ w4).alloc (Nat.le_refl _) _
    have hB5 : PlO 0 W5 B d out := by rw [← hW5]; exact hB4.alloc _
    obtain ⟨B', d', w6, hr, ho6, hg6, hn6⟩ := run_appK (P := Try.prog) (st := 31) (ty := 31) (ys := [x]) Try.underlying31 infoP rfl (by decide) (by decide) enP_len enP_one hB5 ⟨M4, 0, none⟩ 1 hv5 (Nat.zero_le _) (by simp; omega)
    have hb6 : But (fun k => B = some ⟨k, 0, none⟩) w4 w6 := (But.of_below (F := fun k => B = some ⟨k, 0, none⟩) hb5 (by omega)).trans (But.of_grown hg6 hOBB)
    have hob6 := hob4.but hb6 hBob
    obtain ⟨w7, hw7⟩ : ∃ w7, w6.setCell ⟨ob, 0, none⟩ (.slice B' (out.length + 1) d') = w7 := ⟨_, rfl⟩
    have q1 : w4.cell? ⟨ob, 0, none⟩ = some (.slice B out.length d) := (hob4.cell 0).trans rfl
    have q2 : w4.cell? ⟨N, 0, none⟩ = some (.int .u64 x.1) := (hx4.cell 0).trans rfl
    have q3 : w4.cell? ⟨N, 1, none⟩ = some (.int .i64 x.2) := (hx4.cell 1).trans rfl
    have q4 := hob6.cell 0
    have q5 := hob6.free 0
    have hrun : (Builtin.append_ #[31, 31] 31 #[.slice B out.length d, .slice (some ⟨M4, 0, none⟩) 1 1]).run Try.prog W5 = .ok (.slice B' (out.length + 1) d') w6 := hr
    go_wp2_with (at_builtin; refine Lib.wpList_append_run _ rfl _ _ 31 31 rfl _ _ (by simp [Act.eval]) (by simp [Act.eval]) _ _ hrun ?_)
    refine bodyPost_end (results_none rfl _ _ _) rfl ?_
    try rw [hw7]
    have hbA : ∀ g, A' = some ⟨g, 0, none⟩ → A = some ⟨g, 0, none⟩ ∨ M ≤ g := fun g e => RkO.near hn3 e
    have hA4lt : ∀ g, A' = some ⟨g, 0, none⟩ → g < M4 := fun g e => by
      subst e
      obtain ⟨cur, h1, -⟩ := hA4.open_
      have := h1.lt
      omega
    have hn6' : NearB M4 B B' := hn6.low (by have := hb5.size; omega)
    have hBne : ∀ g, A' = some ⟨g, 0, none⟩ → B' ≠ some ⟨g, 0, none⟩ := fun g e e2 => by
      rcases RkO.near hn6' e2 with h1 | h1
      · rcases hbA g e with h2 | h2
        · exact hap g h2 h1
        · have := hltB g h1; omega
      · have := hA4lt g e; omega
    have hnB : ∀ g, A' = some ⟨g, 0, none⟩ → ¬ B = some ⟨g, 0, none⟩ := fun g e e2 => by
      rcases hbA g e with h2 | h2
      · exact hap g h2 e2
      · have := hltB g e2; omega
    have hA6 := hA4.but hb6 hnB
    have hp6 := hp4.but hb6 hBp
    refine ⟨rfl, i, A', c', B', d', HI.out, ?_, ?_, ?_, ?_, ?_, ?_, hBne, ?_⟩
    · rw [← hw7]; exact hp6.far (p := ⟨ob, 0, none⟩) hpob _
    · rw [← hw7]; exact hob6.put 0 _
    · rw [← hw7]
      exact hA6.keep fun g e cs hc => Below.heap_setCell w6 ⟨ob, 0, none⟩ _ g (fun e2 => by
        have e2 : g = ob := e2
        rcases hbA g e with h1 | h1
        · exact hAob (e2 ▸ h1)
        · omega)
    · rw [← hw7]
      exact ho6.keep fun g e cs hc => Below.heap_setCell w6 ⟨ob, 0, none⟩ _ g (fun e2 => by
        have e2 : g = ob := e2
        rcases RkO.near hn6' e with h1 | h1
        · exact hBob (e2 ▸ h1)
        · have := hob4.lt; omega)
    · exact hn3.low (by omega)
    · exact hn6'.low (by omega)
    · have b1 : But (fun k => k = p ∨ k = ob ∨ A = some ⟨k, 0, none⟩ ∨ B = some ⟨k, 0, none⟩) w w1 := But.of_below hbw1 (by omega)
      have b2 := b1.next hb4 (fun j e => .inl (by rcases e with e | e; exact .inl e; exact .inr (.inr (.inl e))))
      have b3 := b2.next hb6 (fun j e => .inl (.inr (.inr (.inr e))))
      rw [← hw7]
      exact b3.put (.inl (.inr (.inl rfl))) _
end Go.Proofs.Ytaikjobebbighaa
