/- Contract of (Calendar).moved: the days whose firings are on a day that works. -/
import Derived.Test.YthigmjjafilbcaaDoorRgJ
import Derived.Maps.OwnIn
namespace Go.Proofs.YthigmjjafilbcaaDoor
set_option linter.unusedVariables false
set_option maxRecDepth 100000
open Go.RowKit Go.Shelf Go.Maps
attribute [local go_sem] Oper.semAt_some
theorem infoI : (Tryd.prog.info? 3).map (fun i => (i.zero, i.size, i.bytes)) = some (some (.int .i64 0), 1, 8) := by kernel_rfl
theorem ownsRow_nc {W W' : World} {row : Option Nat} {base : Nat} {e : TypeId} {size : Nat} {v : Value} {k : Nat} {xs : List Value} (h : W.ownsRow base e size v k xs) (hg : W.grownBy W' row) (hr : ∀ r, row = some r → ∃ o : Obj, W.heap[r]? = some o ∧ o.isCells = false) : W'.ownsRow base e size v k xs := by
  rcases h with ⟨hl, ⟨rfl, rfl⟩ | ⟨g, cap, cur, rfl, hb, hgb, h1, h2, h3, h4⟩⟩
  · exact ⟨hl, .inl ⟨rfl, rfl⟩⟩
  · refine ⟨hl, .inr ⟨g, cap, cur, rfl, hb, ?_, h1, h2, h3, h4⟩⟩
    exact row_kept (W := W) (g := g) (cs := cur) hgb hg hr
theorem own_over {W W' : World} {base : Nat} {e : TypeId} {size : Nat} {v : Value} {k : Nat} {xs : List Value} (h : W.ownsRow base e size v k xs) (hb : Below W.heap.size W W') : W'.ownsRow base e size v k xs := by
  rcases h with ⟨hl, ⟨rfl, rfl⟩ | ⟨g, cap, cur, rfl, h0, hgb, h1, h2, h3, h4⟩⟩
  · exact ⟨hl, .inl ⟨rfl, rfl⟩⟩
  · exact ⟨hl, .inr ⟨g, cap, cur, rfl, h0, Row.over (g := g) (cs := cur) hgb hb, h1, h2, h3, h4⟩⟩
theorem fromKp_grown {bn bs : Nat} {W W' : World} {row : Option Nat} (hg : W.grownBy W' row) (h1 : row ≠ some bn) (h2 : row ≠ some bs) (l1 : bn < W.heap.size) (l2 : bs < W.heap.size) : FromKp bn bs W W' := by
  have e1 := hg.block bn l1 (fun e => h1 e.symm)
  have e2 := hg.block bs l2 (fun e => h2 e.symm)
  exact ⟨⟨World.cell?_of_block (a := ⟨bn, 0, none⟩) e1, World.frozen?_of_block (a := ⟨bn, 0, none⟩) e1⟩, World.cell?_of_block (a := ⟨bs, 0, none⟩) e2⟩
theorem own_le {W : World} {base base' : Nat} {e : TypeId} {size : Nat} {v : Value} {k : Nat} {xs : List Value} (h : W.ownsRow base e size v k xs) (hb : base' ≤ base) : W.ownsRow base' e size v k xs := by
  rcases h with ⟨hl, h | ⟨g, cap, cur, e1, h0, hgb, h1, h2, h3, h4⟩⟩
  · exact ⟨hl, .inl h⟩
  · exact ⟨hl, .inr ⟨g, cap, cur, e1, Nat.le_trans hb h0, hgb, h1, h2, h3, h4⟩⟩
theorem own_one {w : World} {base b : Nat} {t : TypeId} {x : Value} (h : Row w b t #[x]) (hb : base ≤ b) : w.ownsRow base t 1 (.slice (some ⟨b, 0, none⟩) 1 1) 1 [x] :=
  ⟨rfl, .inr ⟨b, 1, #[x], rfl, hb, h, Nat.le_refl _, by unfold maxLen; omega, rfl, rfl⟩⟩
/-- The days of a mode: the day, and those next to it that do not work. -/
def MovedIs (k : Nat) (off on : List Int) (mode n : Int) (L : List Int) : Prop :=
  (mode = 1 ∧ L = [n]) ∨
  ((mode = 2 ∨ mode = 3) ∧ ∃ s : Int, s = (if mode = 3 then 1 else -1) ∧ ∃ i : Nat, L = stepsL n s (i + 1) ∧ (∀ j : Nat, j < i → inB (n + s + s * (j : Int)) = true ∧ worksC k off on (n + s + s * (j : Int)) = false) ∧ (inB (n + s + s * (i : Int)) = false ∨ worksC k off on (n + s + s * (i : Int)) = true))
theorem moved_skip (v : Value) (k : Nat) (off on : List Int) (n : Int) (w : World) (h : CalAt w v k off on) :
    Calls Tryd.prog 36 #[v, .int .u8 1, .int .i64 n] w fun e w' => (∃ u L, e = .returned u ∧ MovedIs k off on 1 n L ∧ w'.ownsRow w.heap.size 3 1 u L.length (L.map (Value.int .i64)) ∧ L.length ≤ 200000) ∧ Below w.heap.size w w' := by
  obtain ⟨A, cA, B, cB, rfl, ha, hb2⟩ := h.ex
  clear h ha hb2
  go_enter Tryd.func36, Tryd.ntmps36
  go_wp2_with fail
  go_ret
  refine ⟨⟨.slice (some ⟨w.heap.size + 1, 0, none⟩) 1 1, [n], rfl, .inl ⟨rfl, rfl⟩, own_one (((three (w := w) rfl rfl).2.1)) (by omega), by simp⟩, ?_⟩
  exact nextB (nextB (nextB (Below.refl _ _)))
theorem stepsL_one (n s : Int) : stepsL n s 1 = [n] := by simp [stepsL]
set_option maxHeartbeats 1000000 in
theorem moved_next (v : Value) (k : Nat) (off on : List Int) (n : Int) (w : World) (h : CalAt w v k off on) (hm : mayC k off on = true) (hi : inB n = true) :
    Calls Tryd.prog 36 #[v, .int .u8 2, .int .i64 n] w fun e w' => (∃ u L, e = .returned u ∧ MovedIs k off on 2 n L ∧ w'.ownsRow w.heap.size 3 1 u L.length (L.map (Value.int .i64)) ∧ L.length ≤ 200000) ∧ Below w.heap.size w w' := by
  have CX := Lib.hid (from_any (n + -1) (-1))
  have hp := mayC_parts hm
  have CW := Lib.hid (fun x W (hW : Below w.heap.size w W) => works_any v k off on x W (h.over hW) (okL_le hp.2.1) (okL_le hp.2.2.2.1))
  have hia := inB_iff.1 hi
  obtain ⟨i0, hinfo, hz0, hz1, hz2⟩ := info_parts infoI
  obtain ⟨A, cA, B, cB, rfl, ha, hb2⟩ := h.ex
  obtain ⟨g, hg⟩ : ∃ g, w.heap.size = g := ⟨_, rfl⟩
  obtain ⟨W0, hW0⟩ : ∃ W0, ((w.alloc (.cells #[.int .u8 k, .slice A off.length cA, .slice B on.length cB] 24)).alloc (.cells #[.int .i64 n] 3)).alloc (.cells #[.slice (some ⟨w.heap.size + 1, 0, none⟩) 1 1] 22) = W0 := ⟨_, rfl⟩
  obtain ⟨r0, r1, r2, q0, z0⟩ := three hg hW0
  rw [hg] at r2
  have HW := Lib.hid hW0
  have HG := Lib.hid hg
  obtain ⟨cs, hcs⟩ : ∃ cs : Array Value, #[.int .u8 k, .slice A off.length cA, .slice B on.length cB] = cs := ⟨_, rfl⟩
  have HC := Lib.hid hcs
  clear h ha hb2 hW0 hm hi hp hcs
  rw [hg] at CW ⊢
  clear hg
  refine (callsIn_wide (n := 5)).1 ?_
  refine callsIn_of_wp_marks Tryd.func36 rfl trivial ?_ rfl
  simp only [Tryd.ntmps36, List.size_toArray, List.length_cons, List.length_nil, Nat.reduceAdd, Nat.reduceSub, Array.replicate_succ, Array.replicate_zero, List.push_toArray, List.append_toArray, List.nil_append, List.cons_append]
  gi_wp2
  rw [HW.out, HG.out]
  refine ⟨trivial, (callsIn_wide.2 (CX.out _)).mono ?_⟩
  rintro e w2 ⟨rfl, rfl⟩
  gi_wp2
  obtain ⟨f, hf⟩ : ∃ f, g + 1 + 1 + 1 = f := ⟨_, rfl⟩
  obtain ⟨W1, hW1⟩ : ∃ W1, (W0.alloc (.cells #[.int .i64 (n + -1)] 3)).alloc (.cells #[.int .i64 (-1)] 3) = W1 := ⟨_, rfl⟩
  obtain ⟨u0, u1, uq, uz⟩ := two (z0.trans hf) hW1
  have s0 : Row W1 g 24 cs := by rw [← hW1, ← HC.out]; exact (r0.alloc _).alloc _
  have s1 : W1.ownsRow (g + 1) 3 1 (.slice (some ⟨g + 1, 0, none⟩) 1 1) 1 [.int .i64 n] := own_one (by rw [← hW1]; exact (r1.alloc _).alloc _) (Nat.le_refl _)
  have s2 : Boxed W1 (g + 1 + 1) 22 (.slice (some ⟨g + 1, 0, none⟩) 1 1) := by rw [← hW1]; exact (r2.alloc _).alloc _
  have q2 : Below g w W1 := belowG HG.out q0 (by rw [z0, hf]; exact uq)
  rw [hf, hW1]
  have z0 : g + 1 + 1 + 1 ≤ f := by omega
  clear hf hW1 uq CX HW r0 r1 r2 q0
  refine wpIn_rangeFunc_box1 9 rfl (by omega) (gf := 63) (lb := #[.pointer (some ⟨f, 0, none⟩), .pointer (some ⟨f + 1, 0, none⟩)]) rfl trivial (enters_of Tryd.func63 (by kernel_rfl) rfl) (bn := f) (by omega)
    (from_box 4 (by omega) f (f + 1) (by omega) (n + -1) (-1) (by omega) (by omega) (by decide)) (fun o o' => ⟨⟨((u0.alloc o).alloc o').cell 0, ((u0.alloc o).alloc o').free 0⟩, ((u1.alloc o).alloc o').cell 0⟩)
    fromKp_trans (fromKp_putObj (B := W1.heap.size) (by omega) (by omega))
    (fun pre W => (∃ (i : Nat) (u : Value), pre = stepsL (n + -1) (-1) i ∧ (∀ j : Nat, j < i → worksC k off on (n + -1 + (-1) * (j : Int)) = false) ∧ Boxed W (g + 1 + 1) 22 u ∧ W.ownsRow (g + 1) 3 1 u (i + 1) ((stepsL n (-1) (i + 1)).map (Value.int .i64)) ∧ u.ownBlock ≠ some f ∧ u.ownBlock ≠ some (f + 1)) ∧ Row W g 24 cs ∧ Below g w W ∧ f + 1 + 1 ≤ W.heap.size)
    (fun c pre W => c = .exit 1 ∧ (∃ (i : Nat) (u : Value), pre = stepsL (n + -1) (-1) (i + 1) ∧ (∀ j : Nat, j < i → worksC k off on (n + -1 + (-1) * (j : Int)) = false) ∧ worksC k off on (n + -1 + (-1) * (i : Int)) = true ∧ Boxed W (g + 1 + 1) 22 u ∧ W.ownsRow (g + 1) 3 1 u (i + 1) ((stepsL n (-1) (i + 1)).map (Value.int .i64))) ∧ Below g w W ∧ f + 1 + 1 ≤ W.heap.size)
    (fun pre W W' row hs hg hr => ⟨by obtain ⟨i, u, e1, e2, e3, e4, e5⟩ := hs.1; exact ⟨i, u, e1, e2, row_kept e3 hg (fun q e => (hr q e).2), ownsRow_nc e4 hg (fun q e => (hr q e).2), e5⟩, row_kept hs.2.1 hg (fun q e => (hr q e).2), hs.2.2.1.grown hg (by have := hs.2.2.2; omega) (fun q e => Nat.le_trans (by omega) (hr q e).1), Nat.le_trans hs.2.2.2 hg.size⟩)
    (fun c pre W W' row hs hg hr => ⟨hs.1, by obtain ⟨i, u, e1, e2, e3, e4, e5⟩ := hs.2.1; exact ⟨i, u, e1, e2, e3, row_kept e4 hg (fun q e => (hr q e).2), ownsRow_nc e5 hg (fun q e => (hr q e).2)⟩, hs.2.2.1.grown hg (by have := hs.2.2.2; omega) (fun q e => Nat.le_trans (by omega) (hr q e).1), Nat.le_trans hs.2.2.2 hg.size⟩)
    (fun pre W u hs => ⟨by obtain ⟨i, u', e1, e2, e3, e4, e5⟩ := hs.1; exact ⟨i, u', e1, e2, Row.far e3 (by show g + 1 + 1 ≠ f; omega) u, ownsRow_setCell_other e4 e5.1 u, e5⟩, hs.2.1.far (by show g ≠ f; omega) u, hs.2.2.1.setCell (p := ⟨f, 0, none⟩) (by show g ≤ f; omega) u, by simpa using hs.2.2.2⟩)
    ⟨⟨0, _, rfl, fun j hj => absurd hj (by omega), s2, by simpa [stepsL] using s1, by simp [Value.ownBlock]; omega, by simp [Value.ownBlock]; omega⟩, s0, q2, by omega⟩ ?assign ?body ?done ?stop
  case assign =>
    intro l x W K hK
    simp at hK
    gi_wp2
    exact hK
  case body =>
    rintro l pre x W ⟨⟨i, u, rfl, hno, hbx, hrow, hn1, hn2⟩, t0, tq, tz⟩ ⟨i', hpre, hx, hin⟩
    obtain rfl := stepsL_inj hpre
    have HX := Lib.hid hx.symm
    have kc := fun o => t0.cell o
    rw [← HC.out] at kc
    have hxr := inB_iff.1 (hin i (Nat.le_refl _))
    have hil : i ≤ 157055 := by omega
    have HN := Lib.hid hno
    have hxa : [Value.int .i64 x] = ([n + (-1) * ((i + 1 : Nat) : Int)]).map (Value.int .i64) := by rw [hx]; simp; omega
    have HXA := Lib.hid hxa
    clear hx hpre hin hno hxr hxa
    skip
    gi_wp2
    refine ⟨trivial, (CallsIn.inRound l (callsIn_wide.2 (CW.out x W tq))).mono ?_⟩
    rintro e W2 ⟨rfl, hb2⟩
    have t0' := t0.over hb2
    have hv : Boxed W2 (g + 1 + 1) 22 u := Row.over hbx hb2
    have hrow' : W2.ownsRow (g + 1) 3 1 u (i + 1) ((stepsL n (-1) (i + 1)).map (Value.int .i64)) := own_over hrow hb2
    have tq' := belowG HG.out tq hb2
    have tz' := Nat.le_trans tz hb2.size
    have kv := hv.cell
    have fv := hv.frozen
    clear kc
    cases hwk : worksC k off on x
    · have HWK := Lib.hid hwk
      clear hwk
      gi_wp2_with (gi_at_builtin; refine wpListIn_append_own_at _ rfl _ _ 22 rfl (g + 1) 3 i0 (.int .i64 0) 1 8 Tryd.underlying22 hinfo hz0 hz1 hz2 rfl (by decide) _ _ _ rfl (hrow'.alloc _) ⟨W2.heap.size, 0, none⟩ 1 1 [.int .i64 x] rfl rfl (cell_one_new _ _ _) (by simp [Value.oneCell']) (by unfold maxLen; omega) (by omega) (by simp; omega) ?_; intro v' w1 hown' hgrow _ hat; obtain ⟨g', cap', rfl⟩ := ownsRow_succ hown'; obtain ⟨hv1, hv2, hr2, hk2, hbb2⟩ := hv.appended (by decide) hrow' (by omega) (by omega) hown' hgrow; have hc1 := hv1.cell; have hf1 := hv1.frozen)
      refine ⟨(keeps_of_below hb2).trans hk2, ?_, ⟨i + 1, _, by rw [stepsL_succ, HX.out], fun j hj => ?_, hv2, ?_, ?_, ?_⟩, ?_, tq'.trans (hbb2.mono (by omega)), Nat.le_trans tz' hbb2.size⟩
      · refine fromKp_trans (fromKp_below (by omega) (by omega) hb2) (fromKp_trans (fromKp_below (by omega) (by omega) ((Below.refl _ _).alloc (Nat.le_refl _) (.cells #[.int .i64 x] 3))) (fromKp_trans (fromKp_grown hgrow hn1 hn2 (by simp; omega) (by simp; omega)) (fromKp_set (by omega) (by omega) _ _)))
      · by_cases e : j = i
        · subst e; rw [HX.out]; exact HWK.out
        · exact HN.out j (by omega)
      · rw [stepsL_succ, List.map_append, ← HXA.out]; exact hr2
      · rcases hat with hat | hat
        · rw [hat]; exact hn1
        · rw [hat]; simp; omega
      · rcases hat with hat | hat
        · rw [hat]; exact hn2
        · rw [hat]; simp; omega
      · exact Row.below t0' hbb2 (by omega)
    · have HWK := Lib.hid hwk
      clear hwk
      gi_wp2
      exact ⟨keeps_of_below hb2, rfl, ⟨i, u, by rw [stepsL_succ, HX.out], HN.out, by rw [HX.out]; exact HWK.out, hv, hrow'⟩, tq', tz'⟩
  case done =>
    rintro D xs W hD ⟨i, rfl, hin, hend⟩ ⟨⟨i', u, hpre, hno, hbx, hrow, hn1, hn2⟩, t0, tq, tz⟩ hK
    obtain rfl := stepsL_inj hpre
    have hil : i ≤ 157056 := by
      by_cases hi0 : i = 0
      · omega
      · have h2 := inB_iff.1 (hin (i - 1) (by omega))
        omega
    have HM := Lib.hid (show MovedIs k off on 2 n (stepsL n (-1) (i + 1)) from .inr ⟨by decide, -1, by decide, i, rfl, fun j hj => ⟨hin j hj, hno j hj⟩, .inl hend⟩)
    have kv := hbx.cell
    clear hpre hin hend hno
    gi_wp2
    refine ⟨by simp, .inl ⟨_, _, rfl, run_takeDeferred hK, ?_⟩⟩
    have hg := grownBy_putObj' W D (.deferred none)
    have hr : ∀ r, some D = some r → ∃ o : Obj, W.heap[r]? = some o ∧ o.isCells = false := fun r e => by cases e; exact ⟨_, hK, rfl⟩
    refine ⟨_, results_tmp rfl _ _ _, ⟨u, _, rfl, HM.out, ?_, by rw [stepsL_len]; omega⟩, tq.grown hg (by omega) (fun q e => by cases e; omega)⟩
    rw [stepsL_len]
    exact own_le (ownsRow_nc hrow hg hr) (by omega)
  case stop =>
    rintro D c pre W hD ⟨ip, hpp, hin⟩ ⟨rfl, ⟨i, u, hpre, hno, hwk, hbx, hrow⟩, tq, tz⟩ hK
    rw [hpre] at hpp
    have hii := stepsL_inj hpp
    obtain rfl : i = ip := by omega
    have hil : i ≤ 157056 := by
      have h2 := inB_iff.1 (hin i (Nat.le_refl _))
      omega
    have HM := Lib.hid (show MovedIs k off on 2 n (stepsL n (-1) (i + 1)) from .inr ⟨by decide, -1, by decide, i, rfl, fun j hj => ⟨hin j (by omega), hno j hj⟩, .inr hwk⟩)
    have kv := hbx.cell
    clear hpre hpp hii hin hwk hno
    gi_wp2
    refine ⟨by simp, .inl ⟨_, _, rfl, run_takeDeferred hK, ?_⟩⟩
    have hg := grownBy_putObj' W D (.deferred none)
    have hr : ∀ r, some D = some r → ∃ o : Obj, W.heap[r]? = some o ∧ o.isCells = false := fun r e => by cases e; exact ⟨_, hK, rfl⟩
    refine ⟨_, results_tmp rfl _ _ _, ⟨u, _, rfl, HM.out, ?_, by rw [stepsL_len]; omega⟩, tq.grown hg (by omega) (fun q e => by cases e; omega)⟩
    rw [stepsL_len]
    exact own_le (ownsRow_nc hrow hg hr) (by omega)
set_option maxHeartbeats 1000000 in
theorem moved_last (v : Value) (k : Nat) (off on : List Int) (n : Int) (w : World) (h : CalAt w v k off on) (hm : mayC k off on = true) (hi : inB n = true) :
    Calls Tryd.prog 36 #[v, .int .u8 3, .int .i64 n] w fun e w' => (∃ u L, e = .returned u ∧ MovedIs k off on 3 n L ∧ w'.ownsRow w.heap.size 3 1 u L.length (L.map (Value.int .i64)) ∧ L.length ≤ 200000) ∧ Below w.heap.size w w' := by
  have CX := Lib.hid (from_any (n + 1) 1)
  have hp := mayC_parts hm
  have CW := Lib.hid (fun x W (hW : Below w.heap.size w W) => works_any v k off on x W (h.over hW) (okL_le hp.2.1) (okL_le hp.2.2.2.1))
  have hia := inB_iff.1 hi
  obtain ⟨i0, hinfo, hz0, hz1, hz2⟩ := info_parts infoI
  obtain ⟨A, cA, B, cB, rfl, ha, hb2⟩ := h.ex
  obtain ⟨g, hg⟩ : ∃ g, w.heap.size = g := ⟨_, rfl⟩
  obtain ⟨W0, hW0⟩ : ∃ W0, ((w.alloc (.cells #[.int .u8 k, .slice A off.length cA, .slice B on.length cB] 24)).alloc (.cells #[.int .i64 n] 3)).alloc (.cells #[.slice (some ⟨w.heap.size + 1, 0, none⟩) 1 1] 22) = W0 := ⟨_, rfl⟩
  obtain ⟨r0, r1, r2, q0, z0⟩ := three hg hW0
  rw [hg] at r2
  have HW := Lib.hid hW0
  have HG := Lib.hid hg
  obtain ⟨cs, hcs⟩ : ∃ cs : Array Value, #[.int .u8 k, .slice A off.length cA, .slice B on.length cB] = cs := ⟨_, rfl⟩
  have HC := Lib.hid hcs
  clear h ha hb2 hW0 hm hi hp hcs
  rw [hg] at CW ⊢
  clear hg
  refine (callsIn_wide (n := 5)).1 ?_
  refine callsIn_of_wp_marks Tryd.func36 rfl trivial ?_ rfl
  simp only [Tryd.ntmps36, List.size_toArray, List.length_cons, List.length_nil, Nat.reduceAdd, Nat.reduceSub, Array.replicate_succ, Array.replicate_zero, List.push_toArray, List.append_toArray, List.nil_append, List.cons_append]
  gi_wp2
  rw [HW.out, HG.out]
  refine ⟨trivial, (callsIn_wide.2 (CX.out _)).mono ?_⟩
  rintro e w2 ⟨rfl, rfl⟩
  gi_wp2
  obtain ⟨f, hf⟩ : ∃ f, g + 1 + 1 + 1 = f := ⟨_, rfl⟩
  obtain ⟨W1, hW1⟩ : ∃ W1, (W0.alloc (.cells #[.int .i64 (n + 1)] 3)).alloc (.cells #[.int .i64 (1)] 3) = W1 := ⟨_, rfl⟩
  obtain ⟨u0, u1, uq, uz⟩ := two (z0.trans hf) hW1
  have s0 : Row W1 g 24 cs := by rw [← hW1, ← HC.out]; exact (r0.alloc _).alloc _
  have s1 : W1.ownsRow (g + 1) 3 1 (.slice (some ⟨g + 1, 0, none⟩) 1 1) 1 [.int .i64 n] := own_one (by rw [← hW1]; exact (r1.alloc _).alloc _) (Nat.le_refl _)
  have s2 : Boxed W1 (g + 1 + 1) 22 (.slice (some ⟨g + 1, 0, none⟩) 1 1) := by rw [← hW1]; exact (r2.alloc _).alloc _
  have q2 : Below g w W1 := belowG HG.out q0 (by rw [z0, hf]; exact uq)
  rw [hf, hW1]
  have z0 : g + 1 + 1 + 1 ≤ f := by omega
  clear hf hW1 uq CX HW r0 r1 r2 q0
  refine wpIn_rangeFunc_box1 9 rfl (by omega) (gf := 63) (lb := #[.pointer (some ⟨f, 0, none⟩), .pointer (some ⟨f + 1, 0, none⟩)]) rfl trivial (enters_of Tryd.func63 (by kernel_rfl) rfl) (bn := f) (by omega)
    (from_box 4 (by omega) f (f + 1) (by omega) (n + 1) (1) (by omega) (by omega) (by decide)) (fun o o' => ⟨⟨((u0.alloc o).alloc o').cell 0, ((u0.alloc o).alloc o').free 0⟩, ((u1.alloc o).alloc o').cell 0⟩)
    fromKp_trans (fromKp_putObj (B := W1.heap.size) (by omega) (by omega))
    (fun pre W => (∃ (i : Nat) (u : Value), pre = stepsL (n + 1) (1) i ∧ (∀ j : Nat, j < i → worksC k off on (n + 1 + (1) * (j : Int)) = false) ∧ Boxed W (g + 1 + 1) 22 u ∧ W.ownsRow (g + 1) 3 1 u (i + 1) ((stepsL n (1) (i + 1)).map (Value.int .i64)) ∧ u.ownBlock ≠ some f ∧ u.ownBlock ≠ some (f + 1)) ∧ Row W g 24 cs ∧ Below g w W ∧ f + 1 + 1 ≤ W.heap.size)
    (fun c pre W => c = .exit 1 ∧ (∃ (i : Nat) (u : Value), pre = stepsL (n + 1) (1) (i + 1) ∧ (∀ j : Nat, j < i → worksC k off on (n + 1 + (1) * (j : Int)) = false) ∧ worksC k off on (n + 1 + (1) * (i : Int)) = true ∧ Boxed W (g + 1 + 1) 22 u ∧ W.ownsRow (g + 1) 3 1 u (i + 1) ((stepsL n (1) (i + 1)).map (Value.int .i64))) ∧ Below g w W ∧ f + 1 + 1 ≤ W.heap.size)
    (fun pre W W' row hs hg hr => ⟨by obtain ⟨i, u, e1, e2, e3, e4, e5⟩ := hs.1; exact ⟨i, u, e1, e2, row_kept e3 hg (fun q e => (hr q e).2), ownsRow_nc e4 hg (fun q e => (hr q e).2), e5⟩, row_kept hs.2.1 hg (fun q e => (hr q e).2), hs.2.2.1.grown hg (by have := hs.2.2.2; omega) (fun q e => Nat.le_trans (by omega) (hr q e).1), Nat.le_trans hs.2.2.2 hg.size⟩)
    (fun c pre W W' row hs hg hr => ⟨hs.1, by obtain ⟨i, u, e1, e2, e3, e4, e5⟩ := hs.2.1; exact ⟨i, u, e1, e2, e3, row_kept e4 hg (fun q e => (hr q e).2), ownsRow_nc e5 hg (fun q e => (hr q e).2)⟩, hs.2.2.1.grown hg (by have := hs.2.2.2; omega) (fun q e => Nat.le_trans (by omega) (hr q e).1), Nat.le_trans hs.2.2.2 hg.size⟩)
    (fun pre W u hs => ⟨by obtain ⟨i, u', e1, e2, e3, e4, e5⟩ := hs.1; exact ⟨i, u', e1, e2, Row.far e3 (by show g + 1 + 1 ≠ f; omega) u, ownsRow_setCell_other e4 e5.1 u, e5⟩, hs.2.1.far (by show g ≠ f; omega) u, hs.2.2.1.setCell (p := ⟨f, 0, none⟩) (by show g ≤ f; omega) u, by simpa using hs.2.2.2⟩)
    ⟨⟨0, _, rfl, fun j hj => absurd hj (by omega), s2, by simpa [stepsL] using s1, by simp [Value.ownBlock]; omega, by simp [Value.ownBlock]; omega⟩, s0, q2, by omega⟩ ?assign ?body ?done ?stop
  case assign =>
    intro l x W K hK
    simp at hK
    gi_wp2
    exact hK
  case body =>
    rintro l pre x W ⟨⟨i, u, rfl, hno, hbx, hrow, hn1, hn2⟩, t0, tq, tz⟩ ⟨i', hpre, hx, hin⟩
    obtain rfl := stepsL_inj hpre
    have HX := Lib.hid hx.symm
    have kc := fun o => t0.cell o
    rw [← HC.out] at kc
    have hxr := inB_iff.1 (hin i (Nat.le_refl _))
    have hil : i ≤ 157055 := by omega
    have HN := Lib.hid hno
    have hxa : [Value.int .i64 x] = ([n + (1) * ((i + 1 : Nat) : Int)]).map (Value.int .i64) := by rw [hx]; simp; omega
    have HXA := Lib.hid hxa
    clear hx hpre hin hno hxr hxa
    skip
    gi_wp2
    refine ⟨trivial, (CallsIn.inRound l (callsIn_wide.2 (CW.out x W tq))).mono ?_⟩
    rintro e W2 ⟨rfl, hb2⟩
    have t0' := t0.over hb2
    have hv : Boxed W2 (g + 1 + 1) 22 u := Row.over hbx hb2
    have hrow' : W2.ownsRow (g + 1) 3 1 u (i + 1) ((stepsL n (1) (i + 1)).map (Value.int .i64)) := own_over hrow hb2
    have tq' := belowG HG.out tq hb2
    have tz' := Nat.le_trans tz hb2.size
    have kv := hv.cell
    have fv := hv.frozen
    clear kc
    cases hwk : worksC k off on x
    · have HWK := Lib.hid hwk
      clear hwk
      gi_wp2_with (gi_at_builtin; refine wpListIn_append_own_at _ rfl _ _ 22 rfl (g + 1) 3 i0 (.int .i64 0) 1 8 Tryd.underlying22 hinfo hz0 hz1 hz2 rfl (by decide) _ _ _ rfl (hrow'.alloc _) ⟨W2.heap.size, 0, none⟩ 1 1 [.int .i64 x] rfl rfl (cell_one_new _ _ _) (by simp [Value.oneCell']) (by unfold maxLen; omega) (by omega) (by simp; omega) ?_; intro v' w1 hown' hgrow _ hat; obtain ⟨g', cap', rfl⟩ := ownsRow_succ hown'; obtain ⟨hv1, hv2, hr2, hk2, hbb2⟩ := hv.appended (by decide) hrow' (by omega) (by omega) hown' hgrow; have hc1 := hv1.cell; have hf1 := hv1.frozen)
      refine ⟨(keeps_of_below hb2).trans hk2, ?_, ⟨i + 1, _, by rw [stepsL_succ, HX.out], fun j hj => ?_, hv2, ?_, ?_, ?_⟩, ?_, tq'.trans (hbb2.mono (by omega)), Nat.le_trans tz' hbb2.size⟩
      · refine fromKp_trans (fromKp_below (by omega) (by omega) hb2) (fromKp_trans (fromKp_below (by omega) (by omega) ((Below.refl _ _).alloc (Nat.le_refl _) (.cells #[.int .i64 x] 3))) (fromKp_trans (fromKp_grown hgrow hn1 hn2 (by simp; omega) (by simp; omega)) (fromKp_set (by omega) (by omega) _ _)))
      · by_cases e : j = i
        · subst e; rw [HX.out]; exact HWK.out
        · exact HN.out j (by omega)
      · rw [stepsL_succ, List.map_append, ← HXA.out]; exact hr2
      · rcases hat with hat | hat
        · rw [hat]; exact hn1
        · rw [hat]; simp; omega
      · rcases hat with hat | hat
        · rw [hat]; exact hn2
        · rw [hat]; simp; omega
      · exact Row.below t0' hbb2 (by omega)
    · have HWK := Lib.hid hwk
      clear hwk
      gi_wp2
      exact ⟨keeps_of_below hb2, rfl, ⟨i, u, by rw [stepsL_succ, HX.out], HN.out, by rw [HX.out]; exact HWK.out, hv, hrow'⟩, tq', tz'⟩
  case done =>
    rintro D xs W hD ⟨i, rfl, hin, hend⟩ ⟨⟨i', u, hpre, hno, hbx, hrow, hn1, hn2⟩, t0, tq, tz⟩ hK
    obtain rfl := stepsL_inj hpre
    have hil : i ≤ 157056 := by
      by_cases hi0 : i = 0
      · omega
      · have h2 := inB_iff.1 (hin (i - 1) (by omega))
        omega
    have HM := Lib.hid (show MovedIs k off on 3 n (stepsL n (1) (i + 1)) from .inr ⟨by decide, 1, by decide, i, rfl, fun j hj => ⟨hin j hj, hno j hj⟩, .inl hend⟩)
    have kv := hbx.cell
    clear hpre hin hend hno
    gi_wp2
    refine ⟨by simp, .inl ⟨_, _, rfl, run_takeDeferred hK, ?_⟩⟩
    have hg := grownBy_putObj' W D (.deferred none)
    have hr : ∀ r, some D = some r → ∃ o : Obj, W.heap[r]? = some o ∧ o.isCells = false := fun r e => by cases e; exact ⟨_, hK, rfl⟩
    refine ⟨_, results_tmp rfl _ _ _, ⟨u, _, rfl, HM.out, ?_, by rw [stepsL_len]; omega⟩, tq.grown hg (by omega) (fun q e => by cases e; omega)⟩
    rw [stepsL_len]
    exact own_le (ownsRow_nc hrow hg hr) (by omega)
  case stop =>
    rintro D c pre W hD ⟨ip, hpp, hin⟩ ⟨rfl, ⟨i, u, hpre, hno, hwk, hbx, hrow⟩, tq, tz⟩ hK
    rw [hpre] at hpp
    have hii := stepsL_inj hpp
    obtain rfl : i = ip := by omega
    have hil : i ≤ 157056 := by
      have h2 := inB_iff.1 (hin i (Nat.le_refl _))
      omega
    have HM := Lib.hid (show MovedIs k off on 3 n (stepsL n (1) (i + 1)) from .inr ⟨by decide, 1, by decide, i, rfl, fun j hj => ⟨hin j (by omega), hno j hj⟩, .inr hwk⟩)
    have kv := hbx.cell
    clear hpre hpp hii hin hwk hno
    gi_wp2
    refine ⟨by simp, .inl ⟨_, _, rfl, run_takeDeferred hK, ?_⟩⟩
    have hg := grownBy_putObj' W D (.deferred none)
    have hr : ∀ r, some D = some r → ∃ o : Obj, W.heap[r]? = some o ∧ o.isCells = false := fun r e => by cases e; exact ⟨_, hK, rfl⟩
    refine ⟨_, results_tmp rfl _ _ _, ⟨u, _, rfl, HM.out, ?_, by rw [stepsL_len]; omega⟩, tq.grown hg (by omega) (fun q e => by cases e; omega)⟩
    rw [stepsL_len]
    exact own_le (ownsRow_nc hrow hg hr) (by omega)
theorem moved_any (v : Value) (k : Nat) (off on : List Int) (mode n : Int) (w : World) (h : CalAt w v k off on) (hm : mayC k off on = true) (hi : inB n = true) (hmode : 1 ≤ mode ∧ mode ≤ 3) :
    Calls Tryd.prog 36 #[v, .int .u8 mode, .int .i64 n] w fun e w' => (∃ u L, e = .returned u ∧ MovedIs k off on mode n L ∧ w'.ownsRow w.heap.size 3 1 u L.length (L.map (Value.int .i64)) ∧ L.length ≤ 200000) ∧ Below w.heap.size w w' := by
  have : mode = 1 ∨ mode = 2 ∨ mode = 3 := by omega
  rcases this with rfl | rfl | rfl
  · exact moved_skip v k off on n w h
  · exact moved_next v k off on n w h hm hi
  · exact moved_last v k off on n w h hm hi
end Go.Proofs.YthigmjjafilbcaaDoor
