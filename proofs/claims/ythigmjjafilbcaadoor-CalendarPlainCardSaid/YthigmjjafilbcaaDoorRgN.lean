/- calendar.After: where all may be. -/
import Derived.Test.YthigmjjafilbcaaDoorRgM
namespace Go.Proofs.YthigmjjafilbcaaDoor
set_option linter.unusedVariables false
set_option maxRecDepth 100000
open Go.RowKit Go.Shelf
attribute [local go_sem] Oper.semAt_some
theorem fromKp_below_at {bn bs B : Nat} {W W' : World} (h : Below B W W') (h1 : bn < B) (h2 : bs < B) : FromKp bn bs W W' :=
  ⟨⟨h.cell (p := ⟨bn, 0, none⟩) h1, h.frozen (p := ⟨bn, 0, none⟩) h1⟩, h.cell (p := ⟨bs, 0, none⟩) h2⟩
set_option maxHeartbeats 4000000 in
theorem after_ok (v : Value) (k : Nat) (off on : List Int) (mode : Int) (x : Xp) (hx : x.Ok) (t : Int) (w : World) (h : CalAt w v k off on) (hm : mayC k off on = true) (hmode : 1 ≤ mode ∧ mode ≤ 3) (hmx : mayX x = true) (ht0 : 0 ≤ t) (ht1 : t < 13569465600) :
    Calls Tryd.prog 14 #[v, .int .u8 mode, xpV x, .int .i64 t] w fun e w' => (∃ r er, e = .returned (.tuple #[.int .i64 r, .int .i64 er]) ∧ AfterIs k off on mode x t r er) ∧ Below w.heap.size w w' := by
  have CM := Lib.hid (fun W (hW : Below w.heap.size w W) => mayCal_any v k off on W (h.over hW))
  rw [hm] at CM
  have CX := Lib.hid (mayX_any x hx)
  rw [hmx] at CX
  have hm1 : decide (mode < 1) = false := decide_eq_false (by omega)
  have hm3 : decide (3 < mode) = false := decide_eq_false (by omega)
  have hp := mayC_parts hm
  have CW := Lib.hid (fun n W (hW : Below w.heap.size w W) => works_any v k off on n W (h.over hW) (okL_le hp.2.1) (okL_le hp.2.2.2.1))
  have CV := Lib.hid (fun n W (hW : Below w.heap.size w W) (hn : inB n = true) => moved_any v k off on mode n W (h.over hW) hm hn hmode)
  have C1 := Lib.hid (fun g n W h0 h1 hr => after1_any x hx g n h0 h1 W hr)
  have C2 := Lib.hid (fun g g2 n m W h0 h1 m0 m1 hr hr2 => after2_any x hx g g2 n m h0 h1 m0 m1 W hr hr2)
  obtain ⟨bg, hbg⟩ : ∃ bg, t / 86400 = bg := ⟨_, rfl⟩
  have hbg0 : 0 ≤ bg := by omega
  have hbg1 : bg < 157054 := by omega
  have CF := Lib.hid (from_any bg 1)
  have ht3 : decide (t < 0) = false := decide_eq_false (by omega)
  have ht4 : decide (13569465600 ≤ t) = false := decide_eq_false (by omega)
  have ht2 : 86400 * bg ≤ t ∧ t < 86400 * bg + 86400 := by omega
  unfold AfterIs
  rw [hbg]
  obtain ⟨A, cA, B, cB, rfl, ha, hb2⟩ := h.ex
  obtain ⟨g, hg⟩ : ∃ g, w.heap.size = g := ⟨_, rfl⟩
  obtain ⟨W0, hW0⟩ : ∃ W0, (((((w.alloc (.cells #[.int .u8 k, .slice A off.length cA, .slice B on.length cB] 24)).alloc (.cells #[.int .u8 mode] 5)).alloc (.cells (xpC x) 29)).alloc (.cells #[.int .i64 t] 2)).alloc (.cells #[.int .i64 0] 2)).alloc (.cells #[.int .i64 0] 36) = W0 := ⟨_, rfl⟩
  obtain ⟨⟨r0, r1, r2, r3, r4, r5⟩, q0, z0⟩ := six hg hW0
  have AB : AfB W0 g #[.int .u8 k, .slice A off.length cA, .slice B on.length cB] mode x t 0 0 := ⟨r0, r1, r2, r3, r4, r5⟩
  have HG := Lib.hid hg
  have HBG := Lib.hid hbg
  clear r0 r1 r2 r3 r4 r5 h ha hb2 hp hm hmx hmode
  rw [hg] at CM CW CV ⊢
  clear hg
  have HXC := Lib.hid (show xpC x = #[.int .u64 x.b0, .bool x.s0, .int .u64 x.b1, .bool x.s1, .int .u64 x.b2, .bool x.s2, .int .u64 x.b3, .bool x.s3, .int .u64 x.b4, .bool x.s4] from rfl)
  have HXV := Lib.hid (show xpV x = .agg (xpC x) from rfl)
  obtain ⟨xc, hxc⟩ : ∃ xc, xpC x = xc := ⟨_, rfl⟩
  rw [HXV.out] at CX ⊢
  rw [hxc] at hW0 CX HXC ⊢
  have HW := Lib.hid hW0
  have HC2 := Lib.hid hxc
  clear hW0 hxc HXV
  have hxz : xc.size = 10 := by rw [HXC.out]; rfl
  rw [HXC.out] at CX HW ⊢
  generalize x.b0 = b0 at HXC CX HW ⊢
  generalize x.b1 = b1 at HXC CX HW ⊢
  generalize x.b2 = b2 at HXC CX HW ⊢
  generalize x.b3 = b3 at HXC CX HW ⊢
  generalize x.b4 = b4 at HXC CX HW ⊢
  generalize x.s0 = s0 at HXC CX HW ⊢
  generalize x.s1 = s1 at HXC CX HW ⊢
  generalize x.s2 = s2 at HXC CX HW ⊢
  generalize x.s3 = s3 at HXC CX HW ⊢
  generalize x.s4 = s4 at HXC CX HW ⊢
  refine (callsIn_wide (n := 5)).1 ?_
  refine callsIn_of_wp_marks Tryd.func14 rfl trivial ?_ rfl
  simp only [Tryd.ntmps14, List.size_toArray, List.length_cons, List.length_nil, Nat.reduceAdd, Nat.reduceSub, Array.replicate_succ, Array.replicate_zero, List.push_toArray, List.append_toArray, List.nil_append, List.cons_append]
  gi_wp2
  rw [HW.out, HG.out]
  refine ⟨trivial, (callsIn_wide.2 (CM.out _ q0)).mono ?_⟩
  rintro e w1 ⟨rfl, hb1⟩
  have AB1 := AB.over hb1
  have q1 := belowG HG.out q0 hb1
  have z1 := hb1.size
  have k1 := fun o => AB1.r1.cell o
  have k2 := fun o => AB1.r2.cell o
  rw [HC2.out, HXC.out] at k2
  clear AB q0 hb1
  gi_wp2
  refine ⟨trivial, (callsIn_wide.2 (CX.out _)).mono ?_⟩
  rintro e w2 ⟨rfl, hb2⟩
  have AB2 := AB1.over hb2
  have q2 := belowG HG.out q1 hb2
  have z2 := hb2.size
  clear AB1 q1 hb2 k1 k2
  have k3 := fun o => AB2.r3.cell o
  have htd : t.tdiv 86400 = bg := by rw [Int.tdiv_eq_ediv_of_nonneg ht0]; exact HBG.out
  have hbw : IntKind.i64.wrap bg = bg := IntWalk.i64_in _ (by omega)
  gi_wp2
  refine ⟨trivial, (callsIn_wide.2 (CF.out _)).mono ?_⟩
  rintro e w3 ⟨rfl, rfl⟩
  gi_wp2
  obtain ⟨f, hf⟩ : ∃ f, w2.heap.size = f := ⟨_, rfl⟩
  obtain ⟨W1, hW1⟩ : ∃ W1, ((w2.alloc (.cells #[.int .i64 bg] 3)).alloc (.cells #[.int .i64 bg] 3)).alloc (.cells #[.int .i64 1] 3) = W1 := ⟨_, rfl⟩
  obtain ⟨ub, u0, u1, uq, uz⟩ := three hf hW1
  have AB3 : AfB W1 g #[.int .u8 k, .slice A off.length cA, .slice B on.length cB] mode x t 0 0 := AB2.over (by rw [hf]; exact uq)
  have q3 : Below g w W1 := belowG HG.out q2 (by rw [hf]; exact uq)
  rw [hf, hW1]
  rw [hf] at z2
  obtain ⟨cs, hcs⟩ : ∃ cs : Array Value, #[.int .u8 k, .slice A off.length cA, .slice B on.length cB] = cs := ⟨_, rfl⟩
  rw [hcs] at AB3
  have HC := Lib.hid hcs
  clear hf hW1 uq CM CX CF AB2 q2 k3 htd hbw hcs HW
  refine wpIn_rangeFunc_box1 11 rfl (by omega) (gf := 63) (lb := #[.pointer (some ⟨f + 1, 0, none⟩), .pointer (some ⟨f + 1 + 1, 0, none⟩)]) rfl trivial (enters_of Tryd.func63 (by kernel_rfl) rfl) (bn := f + 1) (by omega)
    (from_box 4 (by omega) (f + 1) (f + 1 + 1) (by omega) bg 1 (by omega) (by omega) (.inl rfl)) (fun o o' => ⟨⟨((u0.alloc o).alloc o').cell 0, ((u0.alloc o).alloc o').free 0⟩, ((u1.alloc o).alloc o').cell 0⟩)
    fromKp_trans (fromKp_putObj (B := W1.heap.size) (by omega) (by omega))
    (fun pre W => (∃ i : Nat, pre = stepsL bg 1 i ∧ (i : Int) ≤ 3700 ∧ ∀ n : Int, bg ≤ n → n < bg + (i : Int) → Quiet k off on mode x t n) ∧ AfB W g cs mode x t 0 0 ∧ Row W f 3 #[.int .i64 bg] ∧ Below g w W ∧ f + 1 + 1 + 1 ≤ W.heap.size)
    (fun c pre W => (((c = .exit 1 ∧ AfB W g cs mode x t 0 0 ∧ ∀ n : Int, bg ≤ n → n < bg + 3700 → Quiet k off on mode x t n)) ∨ (c = .ret ∧ ∃ r e, AfB W g cs mode x t r e ∧ (∃ n m : Int, inB n = true ∧ bg ≤ n ∧ n < bg + 3700 ∧ 0 ≤ m ∧ m < 1440 ∧ t < n * 86400 + m * 60 ∧ FireAt k off on mode x n m ∧ r = n * 86400 + m * 60 ∧ e = 0 ∧
      (∀ n' : Int, bg ≤ n' → n' < n → Quiet k off on mode x t n') ∧ (∀ m' : Int, 0 ≤ m' → m' < m → t < n * 86400 + m' * 60 → ¬ FireAt k off on mode x n m')))) ∧ Below g w W ∧ f + 1 + 1 + 1 ≤ W.heap.size)
    (fun pre W W' row hs hg hr => ⟨hs.1, hs.2.1.kept hg (fun q e => (hr q e).2), row_kept hs.2.2.1 hg (fun q e => (hr q e).2), hs.2.2.2.1.grown hg (by have := hs.2.2.2.2; omega) (fun q e => Nat.le_trans (by omega) (hr q e).1), Nat.le_trans hs.2.2.2.2 hg.size⟩)
    (fun c pre W W' row hs hg hr => ⟨by rcases hs.1 with ⟨e1, e2, e3⟩ | ⟨e1, r, e, e2, e3⟩; exact .inl ⟨e1, e2.kept hg (fun q e => (hr q e).2), e3⟩; exact .inr ⟨e1, r, e, e2.kept hg (fun q e => (hr q e).2), e3⟩, hs.2.1.grown hg (by have := hs.2.2; omega) (fun q e => Nat.le_trans (by omega) (hr q e).1), Nat.le_trans hs.2.2 hg.size⟩)
    (fun pre W u hs => ⟨hs.1, hs.2.1.far (by omega) 0 u, hs.2.2.1.far (by show f ≠ f + 1; omega) u, hs.2.2.2.1.setCell (p := ⟨f + 1, 0, none⟩) (by show g ≤ f + 1; omega) u, by simpa using hs.2.2.2.2⟩)
    ⟨⟨0, rfl, by omega, fun n h1 h2 => absurd h1 (by omega)⟩, AB3, ub, q3, by omega⟩ ?assign ?body ?done ?stop
  case assign =>
    intro l x W K hK
    simp at hK
    gi_wp2
    exact hK
  case body =>
    rintro l pre n W ⟨⟨i, rfl, hi, hqu⟩, AW, tb, tq, tz⟩ ⟨i', hpre, hx, hin⟩
    obtain rfl := stepsL_inj hpre
    have HX := Lib.hid hx.symm
    have hni : inB n = true := by rw [hx]; exact hin i (Nat.le_refl _)
    have hn0 := inB_iff.1 hni
    have hxi := Lib.hid (show n = bg + (i : Int) by rw [hx]; omega)
    have HQ := Lib.hid hqu
    have HNI := Lib.hid hni
    have k0 := fun o => AW.r0.cell o
    have k1 := fun o => AW.r1.cell o
    have kb := fun o => tb.cell o
    rw [← HC.out] at k0
    clear hx hpre hin hqu hni
    skip
    by_cases hend : bg + 3700 ≤ n
    · gi_wp2
      refine ⟨KeepsOthers.refl _, .inl ⟨rfl, AW, fun n' h1 h2 => HQ.out n' h1 (by have := hxi.out; omega)⟩, tq, tz⟩
    · have hend2 : decide (bg + 3700 ≤ n) = false := decide_eq_false hend
      gi_wp2
      refine ⟨trivial, (CallsIn.inRound l (callsIn_wide.2 (CW.out n W tq))).mono ?_⟩
      rintro e W2 ⟨rfl, hb2⟩
      have AW2 := AW.over hb2
      have tb2 := tb.over hb2
      have tq2 := belowG HG.out tq hb2
      have tz2 := Nat.le_trans tz hb2.size
      have l0 := fun o => AW2.r0.cell o
      have l1 := fun o => AW2.r1.cell o
      rw [← HC.out] at l0
      clear k0 k1 kb
      cases hwk : worksC k off on n
      · have HWK := Lib.hid hwk
        clear hwk
        gi_wp2
        refine ⟨keeps_of_below hb2, fromKp_below (by omega) (by omega) hb2, ⟨i + 1, by rw [stepsL_succ, HX.out], by have := hxi.out; omega, fun n' h1 h2 => ?_⟩, AW2, tb2, tq2, tz2⟩
        by_cases e : n' = n
        · subst e; intro m _ _ _ hfire; have := hfire.1; rw [HWK.out] at this; cases this
        · exact HQ.out n' h1 (by have := hxi.out; omega)
      · have HWK := Lib.hid hwk
        clear hwk
        gi_wp2
        refine ⟨trivial, (CallsIn.inRound l (callsIn_wide.2 (CV.out n W2 tq2 HNI.out))).mono ?_⟩
        rintro e W3 ⟨⟨u, L, rfl, hL, hown, hlen⟩, hb3⟩
        have AW3 := AW2.over hb3
        have tb3 := tb2.over hb3
        have tq3 := belowG HG.out tq2 hb3
        have tz3 := Nat.le_trans tz2 hb3.size
        have hLpos := moved_len hL
        obtain ⟨bd, cap, cur, rfl, hbd, hbd2, hcap, hcur⟩ : ∃ bd cap cur, u = .slice (some ⟨bd, 0, none⟩) L.length cap ∧ W2.heap.size ≤ bd ∧ W3.heap[bd]? = some (.cells cur 3 (0, 0)) ∧ L.length ≤ cap ∧ ∀ r, r < L.length → cur[r]? = some (.int .i64 (L.getD r 0)) := by
          rcases hown with ⟨-, ⟨-, e0⟩ | ⟨bd, cap, cur, e1, e2, e3, e4, e5, e6, e7⟩⟩
          · omega
          · refine ⟨bd, cap, cur, e1, e2, e3, e4, fun r hr => ?_⟩
            have : (cur.toList.take (L.length * 1))[r]? = some (.int .i64 (L.getD r 0)) := by
              rw [e7, List.getElem?_map, List.getElem?_eq_getElem hr, getD_of hr]; rfl
            rw [List.getElem?_take] at this
            split at this
            · simpa using this
            · cases this
        have hz23 := hb3.size
        have hbd3 := (Array.getElem?_eq_some_iff.1 hbd2).1
        have CDel := Lib.hid (deleteF1 37 (.pointer (some ⟨g + 1 + 1, 0, none⟩)) (fun _ _ => rfl) (fun d => !dayFit x d) bd 0 cap L W3 W2.heap.size hbd hz23 hlen hcap (Array.getElem?_eq_some_iff.1 hbd2).1
          (fun r hr => ⟨by simp only [World.cell?, hbd2, Nat.zero_add]; simpa using hcur r hr, by simp [World.frozen?, hbd2]⟩)
          (fun d V hd hV => by
            have hd0 := inB_iff.1 (moved_inB hL HNI.out hd)
            exact C1.out (g + 1 + 1) d V hd0.1 hd0.2 (AW3.r2.below hV (by omega))))
        have HF := Lib.hid (fun m => fire_iff (x := x) (m := m) HWK.out hL)
        have HIN := Lib.hid (fun d (hd : d ∈ L.filter fun d => !!dayFit x d) => moved_inB hL HNI.out (List.mem_filter.1 hd).1)
        have hlen2 : (L.filter fun d => !!dayFit x d).length ≤ 200000 := Nat.le_trans (List.length_filter_le _ _) hlen
        clear hown hL hLpos hcur hbd2 l0 l1
        gi_wp2
        refine ⟨trivial, (CallsIn.inRound l (callsIn_wide.2 CDel.out)).mono ?_⟩
        rintro e W4 ⟨rfl, ⟨hb4, hko3⟩, hdc⟩
        obtain ⟨D, hD⟩ : ∃ D, (L.filter fun d => !!dayFit x d) = D := ⟨_, rfl⟩
        rw [hD] at HF HIN hdc hlen2 ⊢
        have hz34 := hb4.size
        have AW4 : AfB W4 g cs mode x t 0 0 := ⟨AW3.r0.below hb4 (by omega), AW3.r1.below hb4 (by omega), AW3.r2.below hb4 (by omega), AW3.r3.below hb4 (by omega), AW3.r4.below hb4 (by omega), AW3.r5.below hb4 (by omega)⟩
        have tb4 : Row W4 f 3 #[.int .i64 bg] := tb3.below hb4 (by omega)
        have tq4 : Below g w W4 := tq3.trans (hb4.mono (by omega))
        have tz4 := Nat.le_trans tz3 hb4.size
        have hbd4 : bd < W4.heap.size := by omega
        have hkp4 : FromKp (f + 1) (f + 1 + 1) W W4 := fromKp_trans (fromKp_below (by omega) (by omega) hb2) (fromKp_trans (fromKp_below (by omega) (by omega) hb3) (fromKp_below_at hb4 (by omega) (by omega)))
        have hko4 : KeepsOthers W W4 := (keeps_of_below hb2).trans ((keeps_of_below hb3).trans hko3)
        have hsl : Sl W4 .i64 (some ⟨bd, 0, none⟩) D := fun j hj => ⟨_, rfl, hbd4, by rw [Addr.add_mid, hdc j hj, getD_of hj]⟩
        gi_wp2
        obtain ⟨W5, hW5⟩ : ∃ W5, W4.alloc (.cells #[.int .i64 0] 3) = W5 := ⟨_, rfl⟩
        obtain ⟨h5, h5z⟩ := new_at (w := W4) rfl 3 #[.int .i64 0]
        have b5 : Below W4.heap.size W4 W5 := by rw [← hW5]; exact nextB (Below.refl _ _)
        rw [hW5] at h5 h5z ⊢
        have AW5 := AW4.over b5
        have tb5 := tb4.over b5
        have tq5 := belowG HG.out tq4 b5
        have tz5 := Nat.le_trans tz4 b5.size
        have hsl5 := hsl.over b5
        have hko5 := hko4.trans (keeps_of_below b5)
        have hkp5 := fromKp_trans hkp4 (fromKp_below (by omega) (by omega) b5)
        clear hW5 b5 hD CDel
        gi_loopw [13] (fun Bx wr => ∃ (m : Nat) (b : Nat), Bx = .pointer (some ⟨b, 0, none⟩) ∧ m ≤ 1440 ∧ Row wr b 3 #[.int .i64 m] ∧ bd < b ∧ AfB wr g cs mode x t 0 0 ∧ Row wr f 3 #[.int .i64 bg] ∧ Sl wr .i64 (some ⟨bd, 0, none⟩) D ∧ Below g w wr ∧ f + 1 + 1 + 1 ≤ wr.heap.size ∧ KeepsOthers W wr ∧ FromKp (f + 1) (f + 1 + 1) W wr ∧
          (∀ m' : Int, 0 ≤ m' → m' < (m : Int) → t < n * 86400 + m' * 60 → (D.any fun d => minFit x d m') = false)) leftM
        case atStart => exact ⟨0, W4.heap.size, rfl, by omega, h5, hbd4, AW5, tb5, hsl5, tq5, tz5, hko5, hkp5, fun m' h1 h2 => absurd h2 (by omega)⟩
        case round =>
          obtain ⟨m, b, rfl, hm, rm, hbb, AWm, tbm, hslm, tqm, tzm, hkom, hkpm, hqm⟩ := hrel
          have HQM := Lib.hid hqm
          have km := fun o => rm.cell o
          have fm := fun o => rm.free o
          have kt := fun o => AWm.r3.cell o
          have k4 := fun o => AWm.r4.cell o
          have k5 := fun o => AWm.r5.cell o
          have f4 := fun o => AWm.r4.free o
          have f5 := fun o => AWm.r5.free o
          have hrmz := rm.lt
          have hmeas : leftM (.pointer (some ⟨b, 0, none⟩)) wr = (1441 - (m : Int)).toNat := leftM_at (km 0)
          have HMEAS := Lib.hid hmeas
          clear hqm hmeas
          by_cases hgo : m < 1440 ∧ 0 < D.length
          · have g1 : (m : Int) < 1440 := by omega
            have g2 : 0 < (D.length : Int) := by omega
            have atb : -9223372036854775808 ≤ n * 86400 + (m : Int) * 60 ∧ n * 86400 + (m : Int) * 60 ≤ 9223372036854775807 := by omega
            by_cases hat : t < n * 86400 + (m : Int) * 60
            · have CC := Lib.hid (containsF2 41 (.pointer (some ⟨g + 1 + 1, 0, none⟩)) (.pointer (some ⟨b, 0, none⟩)) (fun _ _ => rfl) (fun d => minFit x d m) (some ⟨bd, 0, none⟩) cap D wr hslm (by omega)
                (fun d V hd hV => by
                  have hd0 := inB_iff.1 (HIN.out d hd)
                  exact C2.out (g + 1 + 1) b d m V hd0.1 hd0.2 (by omega) (by omega) (AWm.r2.over hV) (rm.over hV)))
              gi_wp2
              refine ⟨trivial, (CallsIn.inRound l (callsIn_wide.2 CC.out)).mono ?_⟩
              rintro e W6 ⟨rfl, hb6⟩
              have AW6 := AWm.over hb6
              have rm6 := rm.over hb6
              have hz6 := hb6.size
              clear km fm k4 k5 f4 f5 kt
              have km := fun o => rm6.cell o
              have k4 := fun o => AW6.r4.cell o
              have k5 := fun o => AW6.r5.cell o
              have f4 := fun o => AW6.r4.free o
              have f5 := fun o => AW6.r5.free o
              cases hany : D.any fun d => minFit x d m
              · have HANY := Lib.hid hany
                clear hany
                gi_wp2
                go_roundw
                case rel =>
                  have b7 : Below wr.heap.size wr (W6.alloc (.cells #[.int .i64 ((m : Int) + 1)] 3)) := nextB hb6
                  have hz7 := (W6).heap.size
                  obtain ⟨n7, n7z⟩ := new_at (w := W6) rfl 3 #[.int .i64 ((m : Int) + 1)]
                  refine ⟨m + 1, (W6).heap.size, rfl, by omega, n7.eq (by simp), by omega, AWm.over b7, tbm.over b7, hslm.over b7, belowG HG.out tqm b7, by omega, hkom.trans (keeps_of_below b7), fromKp_trans hkpm (fromKp_below (by omega) (by omega) b7), fun m' h1 h2 h3 => ?_⟩
                  by_cases e : m' = (m : Int)
                  · subst e; exact HANY.out
                  · exact HQM.out m' h1 (by omega) h3
                case measure =>
                  obtain ⟨n7, n7z⟩ := new_at (w := W6) rfl 3 #[.int .i64 ((m : Int) + 1)]
                  rw [HMEAS.out, leftM_at (n7.cell 0)]
                  omega
              · have HANY := Lib.hid hany
                clear hany
                have hfire : FireAt k off on mode x n (m : Int) := (HF.out (m : Int)).2 HANY.out
                have HFI := Lib.hid hfire
                clear hfire
                gi_wp2
                refine ⟨hkom.trans ((keeps_of_below hb6).trans ((KeepsOthers.setCell _ _ _).trans (KeepsOthers.setCell _ _ _))), .inr ⟨rfl, n * 86400 + (m : Int) * 60, 0, ⟨?_, ?_, ?_, ?_, ?_, ?_⟩, n, m, HNI.out, by have := hxi.out; omega, by omega, by omega, g1, hat, HFI.out, rfl, rfl, fun n' h1 h2 => HQ.out n' h1 (by have := hxi.out; omega), fun m' h1 h2 h3 hf => ?_⟩, ?_, ?_⟩
                · exact (AW6.r0.far (p := ⟨g + 1 + 1 + 1 + 1, 0, none⟩) (by show g ≠ g + 1 + 1 + 1 + 1; omega) _).far (p := ⟨g + 1 + 1 + 1 + 1 + 1, 0, none⟩) (by show g ≠ g + 1 + 1 + 1 + 1 + 1; omega) _
                · exact (AW6.r1.far (p := ⟨g + 1 + 1 + 1 + 1, 0, none⟩) (by show g + 1 ≠ g + 1 + 1 + 1 + 1; omega) _).far (p := ⟨g + 1 + 1 + 1 + 1 + 1, 0, none⟩) (by show g + 1 ≠ g + 1 + 1 + 1 + 1 + 1; omega) _
                · exact (AW6.r2.far (p := ⟨g + 1 + 1 + 1 + 1, 0, none⟩) (by show g + 1 + 1 ≠ g + 1 + 1 + 1 + 1; omega) _).far (p := ⟨g + 1 + 1 + 1 + 1 + 1, 0, none⟩) (by show g + 1 + 1 ≠ g + 1 + 1 + 1 + 1 + 1; omega) _
                · exact (AW6.r3.far (p := ⟨g + 1 + 1 + 1 + 1, 0, none⟩) (by show g + 1 + 1 + 1 ≠ g + 1 + 1 + 1 + 1; omega) _).far (p := ⟨g + 1 + 1 + 1 + 1 + 1, 0, none⟩) (by show g + 1 + 1 + 1 ≠ g + 1 + 1 + 1 + 1 + 1; omega) _
                · exact ((AW6.r4.put 0 _).far (p := ⟨g + 1 + 1 + 1 + 1 + 1, 0, none⟩) (by show g + 1 + 1 + 1 + 1 ≠ g + 1 + 1 + 1 + 1 + 1; omega) _).eq rfl
                · exact ((AW6.r5.far (p := ⟨g + 1 + 1 + 1 + 1, 0, none⟩) (by show g + 1 + 1 + 1 + 1 + 1 ≠ g + 1 + 1 + 1 + 1; omega) _).put 0 _).eq rfl
                · have := HQM.out m' h1 h2 h3
                  rw [(HF.out m').1 hf] at this
                  cases this
                · exact ((belowG HG.out tqm hb6).setCell (p := ⟨g + 1 + 1 + 1 + 1, 0, none⟩) (by show g ≤ g + 1 + 1 + 1 + 1; omega) _).setCell (p := ⟨g + 1 + 1 + 1 + 1 + 1, 0, none⟩) (by show g ≤ g + 1 + 1 + 1 + 1 + 1; omega) _
                · simp; omega
            · have hat2 : decide (t < n * 86400 + (m : Int) * 60) = false := decide_eq_false hat
              gi_wp2
              refine ⟨trivial, ?_⟩
              gi_wp2
              go_roundw
              case rel =>
                have b7 : Below wr.heap.size wr (wr.alloc (.cells #[.int .i64 ((m : Int) + 1)] 3)) := nextB (Below.refl _ _)
                have hz7 := (wr).heap.size
                obtain ⟨n7, n7z⟩ := new_at (w := wr) rfl 3 #[.int .i64 ((m : Int) + 1)]
                refine ⟨m + 1, (wr).heap.size, rfl, by omega, n7.eq (by simp), by omega, AWm.over b7, tbm.over b7, hslm.over b7, belowG HG.out tqm b7, by omega, hkom.trans (keeps_of_below b7), fromKp_trans hkpm (fromKp_below (by omega) (by omega) b7), fun m' h1 h2 h3 => ?_⟩
                by_cases e : m' = (m : Int)
                · subst e; exact absurd h3 (by omega)
                · exact HQM.out m' h1 (by omega) h3
              case measure =>
                obtain ⟨n7, n7z⟩ := new_at (w := wr) rfl 3 #[.int .i64 ((m : Int) + 1)]
                rw [HMEAS.out, leftM_at (n7.cell 0)]
                omega
          · have hq2 : Quiet k off on mode x t n := fun m' h1 h2 h3 hf => by
              have hany := (HF.out m').1 hf
              by_cases hm2 : (m : Int) < 1440
              · have hD0 : D.length = 0 := by omega
                rw [List.eq_nil_of_length_eq_zero hD0] at hany
                cases hany
              · have := HQM.out m' h1 (by omega) h3
                rw [hany] at this
                cases this
            have HQ2 := Lib.hid hq2
            clear hq2
            by_cases g1 : (m : Int) < 1440
            · have g2 : ¬ 0 < (D.length : Int) := by omega
              gi_wp2
              refine ⟨hkom, hkpm, ⟨i + 1, by rw [stepsL_succ, HX.out], by have := hxi.out; omega, fun n' h1 h2 => ?_⟩, AWm, tbm, tqm, tzm⟩
              by_cases e : n' = n
              · rw [e]; exact HQ2.out
              · exact HQ.out n' h1 (by have := hxi.out; omega)
            · gi_wp2
              refine ⟨hkom, hkpm, ⟨i + 1, by rw [stepsL_succ, HX.out], by have := hxi.out; omega, fun n' h1 h2 => ?_⟩, AWm, tbm, tqm, tzm⟩
              by_cases e : n' = n
              · rw [e]; exact HQ2.out
              · exact HQ.out n' h1 (by have := hxi.out; omega)
  case done =>
    rintro D xs W hD ⟨i, rfl, hin, hend⟩ ⟨⟨i', hpre, hi, hqu⟩, AW, tb, tq, tz⟩ hK
    obtain rfl := stepsL_inj hpre
    have hei : ¬ inB (bg + 1 * (i : Int)) = true := by rw [hend]; simp
    rw [inB_iff] at hei
    have HQ := Lib.hid hqu
    have HE := Lib.hid (show 157054 ≤ bg + (i : Int) by omega)
    have k4 := fun o => AW.r4.cell o
    have f4 := fun o => AW.r4.free o
    have k5 := fun o => AW.r5.cell o
    have f5 := fun o => AW.r5.free o
    clear hpre hin hend hei hqu
    gi_wp2
    have hK2 := ((KeepsOthers.setCell W ⟨g + 1 + 1 + 1 + 1, 0, none⟩ (.int .i64 0)).trans (KeepsOthers.setCell _ ⟨g + 1 + 1 + 1 + 1 + 1, 0, none⟩ (.int .i64 5))).same D _ hK rfl
    refine ⟨by simp, .inl ⟨_, _, rfl, run_takeDeferred hK2, ?_⟩⟩
    have q1 : Row ((W.setCell ⟨g + 1 + 1 + 1 + 1, 0, none⟩ (.int .i64 0)).setCell ⟨g + 1 + 1 + 1 + 1 + 1, 0, none⟩ (.int .i64 5)) (g + 1 + 1 + 1 + 1) 2 #[.int .i64 0] := ((AW.r4.put 0 _).far (p := ⟨g + 1 + 1 + 1 + 1 + 1, 0, none⟩) (by show g + 1 + 1 + 1 + 1 ≠ g + 1 + 1 + 1 + 1 + 1; omega) _).eq rfl
    have q2 : Row ((W.setCell ⟨g + 1 + 1 + 1 + 1, 0, none⟩ (.int .i64 0)).setCell ⟨g + 1 + 1 + 1 + 1 + 1, 0, none⟩ (.int .i64 5)) (g + 1 + 1 + 1 + 1 + 1) 36 #[.int .i64 5] := ((AW.r5.far (p := ⟨g + 1 + 1 + 1 + 1, 0, none⟩) (by show g + 1 + 1 + 1 + 1 + 1 ≠ g + 1 + 1 + 1 + 1; omega) _).put 0 _).eq rfl
    have qq : Below g w ((W.setCell ⟨g + 1 + 1 + 1 + 1, 0, none⟩ (.int .i64 0)).setCell ⟨g + 1 + 1 + 1 + 1 + 1, 0, none⟩ (.int .i64 5)) := (tq.setCell (p := ⟨g + 1 + 1 + 1 + 1, 0, none⟩) (by show g ≤ g + 1 + 1 + 1 + 1; omega) _).setCell (p := ⟨g + 1 + 1 + 1 + 1 + 1, 0, none⟩) (by show g ≤ g + 1 + 1 + 1 + 1 + 1; omega) _
    have qz : f + 1 + 1 + 1 ≤ ((W.setCell ⟨g + 1 + 1 + 1 + 1, 0, none⟩ (.int .i64 0)).setCell ⟨g + 1 + 1 + 1 + 1 + 1, 0, none⟩ (.int .i64 5)).heap.size := by simpa using tz
    generalize ((W.setCell ⟨g + 1 + 1 + 1 + 1, 0, none⟩ (.int .i64 0)).setCell ⟨g + 1 + 1 + 1 + 1 + 1, 0, none⟩ (.int .i64 5)) = V at q1 q2 qq qz hK2 ⊢
    have hg := grownBy_putObj' V D (.deferred none)
    have hr : ∀ r, some D = some r → ∃ o : Obj, V.heap[r]? = some o ∧ o.isCells = false := fun r e => by cases e; exact ⟨_, hK2, rfl⟩
    refine ⟨_, results_cells2 Tryd.results14 _ _ rfl rfl (load_i64 ((row_kept q1 hg hr).cell 0)) (load_err ((row_kept q2 hg hr).cell 0)), ⟨0, 5, rfl, .inr ⟨rfl, rfl, fun n h1 h2 h3 => HQ.out n h1 (by have := inB_iff.1 h3; have := HE.out; omega)⟩⟩, ?_⟩
    exact qq.grown hg (by omega) (fun q e => by cases e; omega)
  case stop =>
    rintro D c pre W hD - ⟨hc, tq, tz⟩ hK
    rcases hc with ⟨rfl, AW, hqu⟩ | ⟨rfl, r, e, AW, hres⟩
    · have HQ := Lib.hid hqu
      have k4 := fun o => AW.r4.cell o
      have f4 := fun o => AW.r4.free o
      have k5 := fun o => AW.r5.cell o
      have f5 := fun o => AW.r5.free o
      clear hqu
      gi_wp2
      have hK2 := ((KeepsOthers.setCell W ⟨g + 1 + 1 + 1 + 1, 0, none⟩ (.int .i64 0)).trans (KeepsOthers.setCell _ ⟨g + 1 + 1 + 1 + 1 + 1, 0, none⟩ (.int .i64 5))).same D _ hK rfl
      refine ⟨by simp, .inl ⟨_, _, rfl, run_takeDeferred hK2, ?_⟩⟩
      have q1 : Row ((W.setCell ⟨g + 1 + 1 + 1 + 1, 0, none⟩ (.int .i64 0)).setCell ⟨g + 1 + 1 + 1 + 1 + 1, 0, none⟩ (.int .i64 5)) (g + 1 + 1 + 1 + 1) 2 #[.int .i64 0] := ((AW.r4.put 0 _).far (p := ⟨g + 1 + 1 + 1 + 1 + 1, 0, none⟩) (by show g + 1 + 1 + 1 + 1 ≠ g + 1 + 1 + 1 + 1 + 1; omega) _).eq rfl
      have q2 : Row ((W.setCell ⟨g + 1 + 1 + 1 + 1, 0, none⟩ (.int .i64 0)).setCell ⟨g + 1 + 1 + 1 + 1 + 1, 0, none⟩ (.int .i64 5)) (g + 1 + 1 + 1 + 1 + 1) 36 #[.int .i64 5] := ((AW.r5.far (p := ⟨g + 1 + 1 + 1 + 1, 0, none⟩) (by show g + 1 + 1 + 1 + 1 + 1 ≠ g + 1 + 1 + 1 + 1; omega) _).put 0 _).eq rfl
      have qq : Below g w ((W.setCell ⟨g + 1 + 1 + 1 + 1, 0, none⟩ (.int .i64 0)).setCell ⟨g + 1 + 1 + 1 + 1 + 1, 0, none⟩ (.int .i64 5)) := (tq.setCell (p := ⟨g + 1 + 1 + 1 + 1, 0, none⟩) (by show g ≤ g + 1 + 1 + 1 + 1; omega) _).setCell (p := ⟨g + 1 + 1 + 1 + 1 + 1, 0, none⟩) (by show g ≤ g + 1 + 1 + 1 + 1 + 1; omega) _
      have qz : f + 1 + 1 + 1 ≤ ((W.setCell ⟨g + 1 + 1 + 1 + 1, 0, none⟩ (.int .i64 0)).setCell ⟨g + 1 + 1 + 1 + 1 + 1, 0, none⟩ (.int .i64 5)).heap.size := by simpa using tz
      generalize ((W.setCell ⟨g + 1 + 1 + 1 + 1, 0, none⟩ (.int .i64 0)).setCell ⟨g + 1 + 1 + 1 + 1 + 1, 0, none⟩ (.int .i64 5)) = V at q1 q2 qq qz hK2 ⊢
      have hg := grownBy_putObj' V D (.deferred none)
      have hr : ∀ r, some D = some r → ∃ o : Obj, V.heap[r]? = some o ∧ o.isCells = false := fun r e => by cases e; exact ⟨_, hK2, rfl⟩
      refine ⟨_, results_cells2 Tryd.results14 _ _ rfl rfl (load_i64 ((row_kept q1 hg hr).cell 0)) (load_err ((row_kept q2 hg hr).cell 0)), ⟨0, 5, rfl, .inr ⟨rfl, rfl, fun n h1 h2 h3 => HQ.out n h1 h2⟩⟩, ?_⟩
      exact qq.grown hg (by omega) (fun q e => by cases e; omega)
    · have HR := Lib.hid hres
      have k4 := fun o => AW.r4.cell o
      have k5 := fun o => AW.r5.cell o
      clear hres
      gi_wp2
      refine ⟨by simp, .inl ⟨_, _, rfl, run_takeDeferred hK, ?_⟩⟩
      have hg := grownBy_putObj' W D (.deferred none)
      have hr : ∀ r, some D = some r → ∃ o : Obj, W.heap[r]? = some o ∧ o.isCells = false := fun r e => by cases e; exact ⟨_, hK, rfl⟩
      refine ⟨_, results_cells2 Tryd.results14 _ _ rfl rfl (load_i64 ((row_kept AW.r4 hg hr).cell 0)) (load_err ((row_kept AW.r5 hg hr).cell 0)), ⟨r, e, rfl, .inl HR.out⟩, ?_⟩
      exact tq.grown hg (by omega) (fun q e => by cases e; omega)
end Go.Proofs.YthigmjjafilbcaaDoor
