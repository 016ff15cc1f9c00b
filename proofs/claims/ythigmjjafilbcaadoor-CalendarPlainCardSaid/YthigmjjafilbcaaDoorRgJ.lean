/- Contract of calendar.Add. -/
import Derived.Test.YthigmjjafilbcaaDoorRgI
namespace Go.Proofs.YthigmjjafilbcaaDoor
set_option linter.unusedVariables false
set_option maxRecDepth 100000
open Go.RowKit Go.Shelf
attribute [local go_sem] Oper.semAt_some
theorem new_at {w : World} {g : Nat} (hg : w.heap.size = g) (t : TypeId) (c : Array Value) : Row (w.alloc (.cells c t)) g t c ∧ (w.alloc (.cells c t)).heap.size = g + 1 := by
  subst hg
  exact ⟨Row.new w t c, by simp⟩
theorem four {w W0 : World} {g : Nat} (hg : w.heap.size = g) {t1 t2 t3 t4 : TypeId} {c1 c2 c3 c4 : Array Value} (e : (((w.alloc (.cells c1 t1)).alloc (.cells c2 t2)).alloc (.cells c3 t3)).alloc (.cells c4 t4) = W0) :
    Row W0 g t1 c1 ∧ Row W0 (g + 1) t2 c2 ∧ Row W0 (g + 1 + 1) t3 c3 ∧ Row W0 (g + 1 + 1 + 1) t4 c4 ∧ Below g w W0 ∧ W0.heap.size = g + 1 + 1 + 1 + 1 := by
  subst e
  have h1 := new_at hg t1 c1
  have h2 := new_at h1.2 t2 c2
  have h3 := new_at h2.2 t3 c3
  have h4 := new_at h3.2 t4 c4
  exact ⟨((h1.1.alloc _).alloc _).alloc _, (h2.1.alloc _).alloc _, h3.1.alloc _, h4.1, by subst hg; exact nextB (nextB (nextB (nextB (Below.refl _ _)))), h4.2⟩
theorem three {w W0 : World} {g : Nat} (hg : w.heap.size = g) {t1 t2 t3 : TypeId} {c1 c2 c3 : Array Value} (e : ((w.alloc (.cells c1 t1)).alloc (.cells c2 t2)).alloc (.cells c3 t3) = W0) :
    Row W0 g t1 c1 ∧ Row W0 (g + 1) t2 c2 ∧ Row W0 (g + 1 + 1) t3 c3 ∧ Below g w W0 ∧ W0.heap.size = g + 1 + 1 + 1 := by
  subst e
  have h1 := new_at hg t1 c1
  have h2 := new_at h1.2 t2 c2
  have h3 := new_at h2.2 t3 c3
  exact ⟨(h1.1.alloc _).alloc _, h2.1.alloc _, h3.1, by subst hg; exact nextB (nextB (nextB (Below.refl _ _))), h3.2⟩
theorem two {w W0 : World} {g : Nat} (hg : w.heap.size = g) {t1 t2 : TypeId} {c1 c2 : Array Value} (e : (w.alloc (.cells c1 t1)).alloc (.cells c2 t2) = W0) :
    Row W0 g t1 c1 ∧ Row W0 (g + 1) t2 c2 ∧ Below g w W0 ∧ W0.heap.size = g + 1 + 1 := by
  subst e
  have h1 := new_at hg t1 c1
  have h2 := new_at h1.2 t2 c2
  exact ⟨h1.1.alloc _, h2.1, by subst hg; exact nextB (nextB (Below.refl _ _)), h2.2⟩
theorem belowG {a b c : World} {g : Nat} (hg : a.heap.size = g) (h : Below g a b) (k : Below b.heap.size b c) : Below g a c := by subst hg; exact nextC h k
theorem add_bad (v : Value) (k : Nat) (off on : List Int) (n many : Int) (w : World) (h : CalAt w v k off on) (hbad : badC k off on n ≠ 0) :
    Calls Tryd.prog 19 #[v, .int .i64 n, .int .i64 many] w fun e w' => e = .returned (.tuple #[.int .i64 0, .int .i64 (badC k off on n)]) ∧ Below w.heap.size w w' := by
  have CB := Lib.hid (fun W (hW : Below w.heap.size w W) => bad_any v k off on n W (h.over hW))
  obtain ⟨c, hb⟩ : ∃ c, badC k off on n = c := ⟨_, rfl⟩
  rw [hb] at CB hbad ⊢
  have hb0 : (c != 0) = true := by simpa using hbad
  clear hb hbad
  obtain ⟨A, cA, B, cB, rfl, ha, hb2⟩ := h.ex
  obtain ⟨g, hg⟩ : ∃ g, w.heap.size = g := ⟨_, rfl⟩
  obtain ⟨W0, hW0⟩ : ∃ W0, (((w.alloc (.cells #[.int .u8 k, .slice A off.length cA, .slice B on.length cB] 24)).alloc (.cells #[.int .i64 many] 3)).alloc (.cells #[.int .i64 0] 3)).alloc (.cells #[.int .i64 0] 36) = W0 := ⟨_, rfl⟩
  obtain ⟨r0, r1, r2, r3, q0, z0⟩ := four hg hW0
  have HW := Lib.hid hW0
  have HG := Lib.hid hg
  clear h ha hb2 hW0
  rw [hg] at CB ⊢
  go_enter Tryd.func19, Tryd.ntmps19
  go_wp2_with fail
  rw [HW.out]
  refine (CB.out _ q0).mono ?_
  rintro e w1 ⟨rfl, hb1⟩
  have s1 := r1.over hb1
  have s2 := r2.over hb1
  have s3 := r3.over hb1
  have q1 := belowG HG.out q0 hb1
  have k1 := fun o => s1.cell o
  have k2 := fun o => s2.cell o
  have k3 := fun o => s3.cell o
  have f2 := fun o => s2.free o
  have f3 := fun o => s3.free o
  go_wp2_with fail
  have e2 := ((s2.put 0 (.int .i64 0)).far (p := ⟨g + 1 + 1 + 1, 0, none⟩) (by simp) (.int .i64 (c))).cell 0
  have e3 := ((s3.far (p := ⟨g + 1 + 1, 0, none⟩) (by simp) (.int .i64 0)).put 0 (.int .i64 (c))).cell 0
  exact bodyPost_ret (results_cells2 Tryd.results19 _ _ rfl rfl (load_int e2) (load_err e3)) rfl ⟨rfl, (q1.setCell (p := ⟨g + 1 + 1, 0, none⟩) (by simp; omega) _).setCell (p := ⟨g + 1 + 1 + 1, 0, none⟩) (by simp; omega) _⟩
theorem add_arg (v : Value) (k : Nat) (off on : List Int) (n many : Int) (w : World) (h : CalAt w v k off on) (hm : mayC k off on = true) (hi : inB n = true) (hr : many < 1 ∨ 10000 < many) :
    Calls Tryd.prog 19 #[v, .int .i64 n, .int .i64 many] w fun e w' => e = .returned (.tuple #[.int .i64 0, .int .i64 2]) ∧ Below w.heap.size w w' := by
  have CB := Lib.hid (fun W (hW : Below w.heap.size w W) => bad_any v k off on n W (h.over hW))
  rw [badC_0 hm hi] at CB
  clear hm hi
  obtain ⟨A, cA, B, cB, rfl, ha, hb2⟩ := h.ex
  obtain ⟨g, hg⟩ : ∃ g, w.heap.size = g := ⟨_, rfl⟩
  obtain ⟨W0, hW0⟩ : ∃ W0, (((w.alloc (.cells #[.int .u8 k, .slice A off.length cA, .slice B on.length cB] 24)).alloc (.cells #[.int .i64 many] 3)).alloc (.cells #[.int .i64 0] 3)).alloc (.cells #[.int .i64 0] 36) = W0 := ⟨_, rfl⟩
  obtain ⟨r0, r1, r2, r3, q0, z0⟩ := four hg hW0
  have HW := Lib.hid hW0
  have HG := Lib.hid hg
  clear h ha hb2 hW0
  rw [hg] at CB ⊢
  go_enter Tryd.func19, Tryd.ntmps19
  go_wp2_with fail
  rw [HW.out]
  refine (CB.out _ q0).mono ?_
  rintro e w1 ⟨rfl, hb1⟩
  have s1 := r1.over hb1
  have s2 := r2.over hb1
  have s3 := r3.over hb1
  have q1 := belowG HG.out q0 hb1
  have k1 := fun o => s1.cell o
  have k2 := fun o => s2.cell o
  have k3 := fun o => s3.cell o
  have f2 := fun o => s2.free o
  have f3 := fun o => s3.free o
  rcases hr with hr | hr
  all_goals
    go_wp2_with fail
    have e2 := ((s2.put 0 (.int .i64 0)).far (p := ⟨g + 1 + 1 + 1, 0, none⟩) (by simp) (.int .i64 (2))).cell 0
    have e3 := ((s3.far (p := ⟨g + 1 + 1, 0, none⟩) (by simp) (.int .i64 0)).put 0 (.int .i64 (2))).cell 0
    exact bodyPost_ret (results_cells2 Tryd.results19 _ _ rfl rfl (load_int e2) (load_err e3)) rfl ⟨rfl, (q1.setCell (p := ⟨g + 1 + 1, 0, none⟩) (by simp; omega) _).setCell (p := ⟨g + 1 + 1 + 1, 0, none⟩) (by simp; omega) _⟩
/-- The many-th day that works behind one; 0 and 5: there is none. -/
def AddIs (k : Nat) (off on : List Int) (n many r e : Int) : Prop :=
  (∃ i : Nat, inB (n + 1 + (i : Int)) = true ∧ worksC k off on (n + 1 + (i : Int)) = true ∧ (cntC k off on n (i + 1) : Int) = many ∧ r = n + 1 + (i : Int) ∧ e = 0) ∨
  (∃ i : Nat, n + (i : Int) = 157053 ∧ (cntC k off on n i : Int) < many ∧ r = 0 ∧ e = 5)
set_option maxHeartbeats 1000000 in
theorem add_ok (v : Value) (k : Nat) (off on : List Int) (n many : Int) (w : World) (h : CalAt w v k off on) (hm : mayC k off on = true) (hi : inB n = true) (hr0 : 1 ≤ many) (hr1 : many ≤ 10000) :
    Calls Tryd.prog 19 #[v, .int .i64 n, .int .i64 many] w fun e w' => (∃ r er, e = .returned (.tuple #[.int .i64 r, .int .i64 er]) ∧ AddIs k off on n many r er) ∧ Below w.heap.size w w' := by
  have CB := Lib.hid (fun W (hW : Below w.heap.size w W) => bad_any v k off on n W (h.over hW))
  rw [badC_0 hm hi] at CB
  have CX := Lib.hid (from_any (n + 1) 1)
  have hp := mayC_parts hm
  have CW := Lib.hid (fun x W (hW : Below w.heap.size w W) => works_any v k off on x W (h.over hW) (okL_le hp.2.1) (okL_le hp.2.2.2.1))
  have hia := inB_iff.1 hi
  have hm1 : decide (many < 1) = false := decide_eq_false (by omega)
  have hm2 : decide (10000 < many) = false := decide_eq_false (by omega)
  obtain ⟨A, cA, B, cB, rfl, ha, hb2⟩ := h.ex
  obtain ⟨g, hg⟩ : ∃ g, w.heap.size = g := ⟨_, rfl⟩
  obtain ⟨W0, hW0⟩ : ∃ W0, (((w.alloc (.cells #[.int .u8 k, .slice A off.length cA, .slice B on.length cB] 24)).alloc (.cells #[.int .i64 many] 3)).alloc (.cells #[.int .i64 0] 3)).alloc (.cells #[.int .i64 0] 36) = W0 := ⟨_, rfl⟩
  obtain ⟨r0, r1, r2, r3, q0, z0⟩ := four hg hW0
  have HW := Lib.hid hW0
  have HG := Lib.hid hg
  obtain ⟨cs, hcs⟩ : ∃ cs : Array Value, #[.int .u8 k, .slice A off.length cA, .slice B on.length cB] = cs := ⟨_, rfl⟩
  have HC := Lib.hid hcs
  clear h ha hb2 hW0 hm hi hp hcs
  rw [hg] at CB CW ⊢
  clear hg
  refine (callsIn_wide (n := 5)).1 ?_
  refine callsIn_of_wp_marks Tryd.func19 rfl trivial ?_ rfl
  simp only [Tryd.ntmps19, List.size_toArray, List.length_cons, List.length_nil, Nat.reduceAdd, Nat.reduceSub, Array.replicate_succ, Array.replicate_zero, List.push_toArray, List.append_toArray, List.nil_append, List.cons_append]
  gi_wp2
  rw [HG.out, HW.out]
  refine ⟨trivial, (callsIn_wide.2 (CB.out _ q0)).mono ?_⟩
  rintro e w1 ⟨rfl, hb1⟩
  have s0 := r0.over hb1
  have s1 := r1.over hb1
  have s2 := r2.over hb1
  have s3 := r3.over hb1
  have q1 := belowG HG.out q0 hb1
  have z1 := hb1.size
  have k1 := fun o => s1.cell o
  clear r0 r1 r2 r3 q0 hb1
  gi_wp2
  refine ⟨trivial, (callsIn_wide.2 (CX.out _)).mono ?_⟩
  rintro e w2 ⟨rfl, rfl⟩
  gi_wp2
  obtain ⟨f, hf⟩ : ∃ f, w1.heap.size = f := ⟨_, rfl⟩
  obtain ⟨W1, hW1⟩ : ∃ W1, (w1.alloc (.cells #[.int .i64 (n + 1)] 3)).alloc (.cells #[.int .i64 1] 3) = W1 := ⟨_, rfl⟩
  obtain ⟨u0, u1, uq, uz⟩ := two hf hW1
  have s0' : Row W1 g 24 cs := by rw [← hW1, ← HC.out]; exact (s0.alloc _).alloc _
  have s1' : Row W1 (g + 1) 3 #[.int .i64 many] := by rw [← hW1]; exact (s1.alloc _).alloc _
  have s2' : Row W1 (g + 1 + 1) 3 #[.int .i64 0] := by rw [← hW1]; exact (s2.alloc _).alloc _
  have s3' : Row W1 (g + 1 + 1 + 1) 36 #[.int .i64 0] := by rw [← hW1]; exact (s3.alloc _).alloc _
  have q2 : Below g w W1 := belowG HG.out q1 (by rw [hf]; exact uq)
  rw [hf, hW1]
  rw [hf] at z1
  clear hf hW1 s0 s1 s2 s3 k1 q1 uq CX CB HW
  refine wpIn_rangeFunc_box1 9 rfl (by omega) (gf := 63) (lb := #[.pointer (some ⟨f, 0, none⟩), .pointer (some ⟨f + 1, 0, none⟩)]) rfl trivial (enters_of Tryd.func63 (by kernel_rfl) rfl) (bn := f) (by omega)
    (from_box 4 (by omega) f (f + 1) (by omega) (n + 1) 1 (by omega) (by omega) (.inl rfl)) (fun o o' => ⟨⟨((u0.alloc o).alloc o').cell 0, ((u0.alloc o).alloc o').free 0⟩, ((u1.alloc o).alloc o').cell 0⟩)
    fromKp_trans (fromKp_putObj (B := W1.heap.size) (by omega) (by omega))
    (fun pre W => (∃ i : Nat, pre = stepsL (n + 1) 1 i ∧ (cntC k off on n i : Int) < many ∧ Row W (g + 1) 3 #[.int .i64 (many - (cntC k off on n i : Nat))]) ∧ Row W g 24 cs ∧ Row W (g + 1 + 1) 3 #[.int .i64 0] ∧ Row W (g + 1 + 1 + 1) 36 #[.int .i64 0] ∧ Below g w W ∧ f + 1 + 1 ≤ W.heap.size)
    (fun c pre W => c = .ret ∧ (∃ (i : Nat) (x : Int), x = n + 1 + (i : Int) ∧ inB x = true ∧ worksC k off on x = true ∧ (cntC k off on n (i + 1) : Int) = many ∧ Row W (g + 1 + 1) 3 #[.int .i64 x] ∧ Row W (g + 1 + 1 + 1) 36 #[.int .i64 0]) ∧ Below g w W)
    (fun pre W W' row hs hg hr => ⟨by obtain ⟨i, e1, e2, e3⟩ := hs.1; exact ⟨i, e1, e2, row_kept e3 hg (fun q e => (hr q e).2)⟩, row_kept hs.2.1 hg (fun q e => (hr q e).2), row_kept hs.2.2.1 hg (fun q e => (hr q e).2), row_kept hs.2.2.2.1 hg (fun q e => (hr q e).2), hs.2.2.2.2.1.grown hg (by have := hs.2.2.2.2.2; omega) (fun q e => Nat.le_trans (by omega) (hr q e).1), Nat.le_trans hs.2.2.2.2.2 hg.size⟩)
    (fun c pre W W' row hs hg hr => ⟨hs.1, by obtain ⟨i, x, e1, e2, e3, e4, e5, e6⟩ := hs.2.1; exact ⟨i, x, e1, e2, e3, e4, row_kept e5 hg (fun q e => (hr q e).2), row_kept e6 hg (fun q e => (hr q e).2)⟩, hs.2.2.grown hg (by have := hs.2.2.size; have := HG.out; omega) (fun q e => Nat.le_trans (by omega) (hr q e).1)⟩)
    (fun pre W u hs => ⟨by obtain ⟨i, e1, e2, e3⟩ := hs.1; exact ⟨i, e1, e2, e3.far (by show g + 1 ≠ f; omega) u⟩, hs.2.1.far (by show g ≠ f; omega) u, hs.2.2.1.far (by show g + 1 + 1 ≠ f; omega) u, hs.2.2.2.1.far (by show g + 1 + 1 + 1 ≠ f; omega) u, hs.2.2.2.2.1.setCell (p := ⟨f, 0, none⟩) (by show g ≤ f; omega) u, by simpa using hs.2.2.2.2.2⟩)
    ⟨⟨0, rfl, by unfold cntC; simp; omega, by unfold cntC; simpa using s1'⟩, s0', s2', s3', q2, by omega⟩ ?assign ?body ?done ?stop
  case assign =>
    intro l x W K hK
    simp at hK
    gi_wp2
    exact hK
  case body =>
    rintro l pre x W ⟨⟨i, rfl, hic, t1⟩, t0, t2, t3, tq, tz⟩ ⟨i', hpre, hx, hin⟩
    obtain rfl := stepsL_inj hpre
    have HX := Lib.hid hx.symm
    have kc := fun o => t0.cell o
    rw [← HC.out] at kc
    have hxi := Lib.hid (show x = n + 1 + (i : Int) by rw [hx]; omega)
    have hinx := Lib.hid (show inB x = true by rw [hx]; exact hin i (Nat.le_refl _))
    have hs := cntC_succ k off on n i
    rw [← hxi.out] at hs
    obtain ⟨c, hc⟩ : ∃ c, cntC k off on n i = c := ⟨_, rfl⟩
    rw [hc] at hs hic t1
    have HS := Lib.hid hs
    clear hx hpre hin hs hc
    skip
    gi_wp2
    refine ⟨trivial, (CallsIn.inRound l (callsIn_wide.2 (CW.out x W tq))).mono ?_⟩
    rintro e W2 ⟨rfl, hb2⟩
    have t0' := t0.over hb2
    have t1' := t1.over hb2
    have t2' := t2.over hb2
    have t3' := t3.over hb2
    have tq' := belowG HG.out tq hb2
    have tz' := Nat.le_trans tz hb2.size
    have k1 := fun o => t1'.cell o
    have f1 := fun o => t1'.free o
    have k2 := fun o => t2'.cell o
    have f2 := fun o => t2'.free o
    have k3 := fun o => t3'.cell o
    have f3 := fun o => t3'.free o
    clear kc
    cases hwk : worksC k off on x
    · rw [hwk] at HS
      clear hwk
      gi_wp2
      refine ⟨keeps_of_below hb2, fromKp_below (by omega) (by omega) hb2, ⟨i + 1, by rw [stepsL_succ, HX.out], by rw [HS.out]; simpa using hic, by rw [HS.out]; exact t1'⟩, t0', t2', t3', tq', tz'⟩
    · rw [hwk] at HS
      have HWK := Lib.hid hwk
      clear hwk
      by_cases hlast : many - (c : Int) = 1
      · have h1 : (many - (c : Int) - 1 == 0) = true := by rw [hlast]; rfl
        have HL := Lib.hid hlast
        clear hlast
        gi_wp2
        refine ⟨(keeps_of_below hb2).trans ((KeepsOthers.setCell _ _ _).trans ((KeepsOthers.setCell _ _ _).trans (KeepsOthers.setCell _ _ _))), rfl, ⟨i, x, hxi.out, hinx.out, HWK.out, ?_, ?_, ?_⟩, ?_⟩
        · rw [HS.out]; have := HL.out; simp; omega
        · exact (((t2'.far (p := ⟨g + 1, 0, none⟩) (by show g + 1 + 1 ≠ g + 1; omega) _).put 0 _).far (by simp) _).eq rfl
        · exact (((t3'.far (p := ⟨g + 1, 0, none⟩) (by show g + 1 + 1 + 1 ≠ g + 1; omega) _).far (p := ⟨g + 1 + 1, 0, none⟩) (by show g + 1 + 1 + 1 ≠ g + 1 + 1; omega) _).put 0 _).eq rfl
        · exact ((tq'.setCell (p := ⟨g + 1, 0, none⟩) (by simp) _).setCell (p := ⟨g + 1 + 1, 0, none⟩) (by simp; omega) _).setCell (p := ⟨g + 1 + 1 + 1, 0, none⟩) (by simp; omega) _
      · have h1 : (many - (c : Int) - 1 == 0) = false := by simp; omega
        have HL := Lib.hid hlast
        clear hlast
        gi_wp2
        refine ⟨(keeps_of_below hb2).trans (KeepsOthers.setCell _ _ _), fromKp_trans (fromKp_below (by omega) (by omega) hb2) (fromKp_set (by omega) (by omega) _ _), ⟨i + 1, by rw [stepsL_succ, HX.out], ?_, ?_⟩, t0'.far (p := ⟨g + 1, 0, none⟩) (by show g ≠ g + 1; omega) _, t2'.far (p := ⟨g + 1, 0, none⟩) (by show g + 1 + 1 ≠ g + 1; omega) _, t3'.far (p := ⟨g + 1, 0, none⟩) (by show g + 1 + 1 + 1 ≠ g + 1; omega) _, tq'.setCell (p := ⟨g + 1, 0, none⟩) (by simp) _, by simpa using tz'⟩
        · rw [HS.out]; have := HL.out; simp; omega
        · rw [HS.out]
          exact (t1'.put 0 _).eq (by simp; omega)
  case done =>
    rintro D xs W hD ⟨i, rfl, hin, hend⟩ ⟨⟨i', hpre, hic, t1⟩, t0, t2, t3, tq, tz⟩ hK
    obtain rfl := stepsL_inj hpre
    have hei : n + (i : Int) = 157053 := by
      have h1 : ¬ inB (n + 1 + 1 * (i : Int)) = true := by rw [hend]; simp
      rw [inB_iff] at h1
      by_cases hi0 : i = 0
      · subst hi0; simp at h1 ⊢; omega
      · have h2 := inB_iff.1 (hin (i - 1) (by omega))
        omega
    have k2 := fun o => t2.cell o
    have f2 := fun o => t2.free o
    have k3 := fun o => t3.cell o
    have f3 := fun o => t3.free o
    have HE := Lib.hid hei
    have HI := Lib.hid hic
    clear hpre hin hend hei hic
    gi_wp2
    have hK2 := ((KeepsOthers.setCell W ⟨g + 1 + 1, 0, none⟩ (.int .i64 0)).trans (KeepsOthers.setCell _ ⟨g + 1 + 1 + 1, 0, none⟩ (.int .i64 5))).same D _ hK rfl
    refine ⟨by simp, .inl ⟨_, _, rfl, run_takeDeferred hK2, ?_⟩⟩
    have q1 : Row ((W.setCell ⟨g + 1 + 1, 0, none⟩ (.int .i64 0)).setCell ⟨g + 1 + 1 + 1, 0, none⟩ (.int .i64 5)) (g + 1 + 1) 3 #[.int .i64 0] := ((t2.put 0 _).far (by simp) _).eq rfl
    have q2 : Row ((W.setCell ⟨g + 1 + 1, 0, none⟩ (.int .i64 0)).setCell ⟨g + 1 + 1 + 1, 0, none⟩ (.int .i64 5)) (g + 1 + 1 + 1) 36 #[.int .i64 5] := ((t3.far (by simp) _).put 0 _).eq rfl
    have q3 : Below g w ((W.setCell ⟨g + 1 + 1, 0, none⟩ (.int .i64 0)).setCell ⟨g + 1 + 1 + 1, 0, none⟩ (.int .i64 5)) := (tq.setCell (p := ⟨g + 1 + 1, 0, none⟩) (by simp; omega) _).setCell (p := ⟨g + 1 + 1 + 1, 0, none⟩) (by simp; omega) _
    have qz : f + 1 + 1 ≤ ((W.setCell ⟨g + 1 + 1, 0, none⟩ (.int .i64 0)).setCell ⟨g + 1 + 1 + 1, 0, none⟩ (.int .i64 5)).heap.size := by simpa using tz
    generalize ((W.setCell ⟨g + 1 + 1, 0, none⟩ (.int .i64 0)).setCell ⟨g + 1 + 1 + 1, 0, none⟩ (.int .i64 5)) = V at q1 q2 q3 qz hK2 ⊢
    have hg := grownBy_putObj' V D (.deferred none)
    have hr : ∀ r, some D = some r → ∃ o : Obj, V.heap[r]? = some o ∧ o.isCells = false := fun r e => by cases e; exact ⟨_, hK2, rfl⟩
    refine ⟨_, results_cells2 Tryd.results19 _ _ rfl rfl (load_int ((row_kept q1 hg hr).cell 0)) (load_err ((row_kept q2 hg hr).cell 0)), ⟨0, 5, rfl, .inr ⟨i, HE.out, HI.out, rfl, rfl⟩⟩, ?_⟩
    exact q3.grown hg (by omega) (fun q e => by cases e; omega)
  case stop =>
    rintro D c pre W hD - ⟨rfl, ⟨i, x, hx, hinx, hwk, hcn, t2, t3⟩, tq⟩ hK
    have k2 := fun o => t2.cell o
    have k3 := fun o => t3.cell o
    have HA := Lib.hid (show AddIs k off on n many x 0 from .inl ⟨i, by rw [← hx]; exact hinx, by rw [← hx]; exact hwk, hcn, hx, rfl⟩)
    clear hx hinx hwk hcn
    gi_wp2
    refine ⟨by simp, .inl ⟨_, _, rfl, run_takeDeferred hK, ?_⟩⟩
    have hg := grownBy_putObj' W D (.deferred none)
    have hr : ∀ r, some D = some r → ∃ o : Obj, W.heap[r]? = some o ∧ o.isCells = false := fun r e => by cases e; exact ⟨_, hK, rfl⟩
    refine ⟨_, results_cells2 Tryd.results19 _ _ rfl rfl (load_int ((row_kept t2 hg hr).cell 0)) (load_err ((row_kept t3 hg hr).cell 0)), ⟨x, 0, rfl, HA.out⟩, ?_⟩
    exact tq.grown hg (by have := tq.size; have := HG.out; omega) (fun q e => by cases e; omega)
end Go.Proofs.YthigmjjafilbcaaDoor
