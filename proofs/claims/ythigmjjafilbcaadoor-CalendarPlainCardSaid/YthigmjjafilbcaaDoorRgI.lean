/- Contract of calendar.Count. -/
import Derived.Test.YthigmjjafilbcaaDoorRgH
import Derived.Test.YthigmjjafilbcaaDoorCaU
namespace Go.Proofs.YthigmjjafilbcaaDoor
set_option linter.unusedVariables false
set_option maxRecDepth 100000
open Go.RowKit Go.Shelf
attribute [local go_sem] Oper.semAt_some
theorem fromKp_set {bn bs b : Nat} (h1 : bn ≠ b) (h2 : bs ≠ b) (W : World) (u : Value) : FromKp bn bs W (W.setCell ⟨b, 0, none⟩ u) :=
  ⟨⟨cell_far_set W u h1, World.frozen?_setCell _ _ _ _⟩, cell_far_set W u h2⟩
theorem count_bad (v : Value) (k : Nat) (off on : List Int) (a b : Int) (w : World) (h : CalAt w v k off on) (hbad : badC k off on a ≠ 0) :
    Calls Tryd.prog 20 #[v, .int .i64 a, .int .i64 b] w fun e w' => e = .returned (.tuple #[.int .i64 0, .int .i64 (badC k off on a)]) ∧ Below w.heap.size w w' := by
  have CB := Lib.hid (fun W (hW : Below w.heap.size w W) => bad_any v k off on a W (h.over hW))
  obtain ⟨c, hb⟩ : ∃ c, badC k off on a = c := ⟨_, rfl⟩
  rw [hb] at CB hbad ⊢
  have hb0 : (c != 0) = true := by simpa using hbad
  obtain ⟨A, cA, B, cB, rfl, ha, hb2⟩ := h.ex
  have Q0 := Lib.hid (nextB (o := .cells #[.int .i64 b] 3) (nextB (o := (.cells #[.int .u8 k, .slice A off.length cA, .slice B on.length cB] 24)) (Below.refl w.heap.size w)))
  clear h ha hb2 hb hbad
  go_enter Tryd.func20, Tryd.ntmps20
  go_wp2_with fail
  refine (CB.out _ Q0.out).mono ?_
  rintro e w1 ⟨rfl, hb1⟩
  go_wp2_with fail
  go_ret2
  exact ⟨rfl, nextC Q0.out hb1⟩
theorem count_range (v : Value) (k : Nat) (off on : List Int) (a b : Int) (w : World) (h : CalAt w v k off on) (hm : mayC k off on = true) (hi : inB a = true) (hr : inB b = false ∨ b < a) :
    Calls Tryd.prog 20 #[v, .int .i64 a, .int .i64 b] w fun e w' => e = .returned (.tuple #[.int .i64 0, .int .i64 50]) ∧ Below w.heap.size w w' := by
  have CB := Lib.hid (fun W (hW : Below w.heap.size w W) => bad_any v k off on a W (h.over hW))
  rw [badC_0 hm hi] at CB
  have CD := Lib.hid (day_any b)
  obtain ⟨A, cA, B, cB, rfl, ha, hb2⟩ := h.ex
  have Q0 := Lib.hid (nextB (o := .cells #[.int .i64 b] 3) (nextB (o := (.cells #[.int .u8 k, .slice A off.length cA, .slice B on.length cB] 24)) (Below.refl w.heap.size w)))
  have K := Lib.hid (newC (Below.refl _ ((w.alloc (.cells #[.int .u8 k, .slice A off.length cA, .slice B on.length cB] 24)).alloc (.cells #[.int .i64 b] 3))))
  rw [show (w.alloc (.cells #[.int .u8 k, .slice A off.length cA, .slice B on.length cB] 24)).heap.size = w.heap.size + 1 by simp] at K
  clear h ha hb2 hm hi
  go_enter Tryd.func20, Tryd.ntmps20
  go_wp2_with fail
  refine (CB.out _ Q0.out).mono ?_
  rintro e w1 ⟨rfl, hb1⟩
  have K1 := Lib.hid (K.out.over hb1)
  have kd := fun o => K1.out.cell o
  cases hib : inB b
  · rw [hib] at CD
    go_wp2_with fail
    refine (CD.out _).mono ?_
    rintro e w2 ⟨rfl, rfl⟩
    go_wp2_with fail
    go_ret2
    exact ⟨rfl, nextC Q0.out hb1⟩
  · rw [hib] at CD
    have hlt : b < a := by
      rcases hr with hr | hr
      · rw [hib] at hr; cases hr
      · exact hr
    clear hr
    go_wp2_with fail
    refine (CD.out _).mono ?_
    rintro e w2 ⟨rfl, rfl⟩
    go_wp2_with fail
    go_ret2
    exact ⟨rfl, nextC Q0.out hb1⟩
set_option maxHeartbeats 1000000 in
theorem count_ok (v : Value) (k : Nat) (off on : List Int) (a b : Int) (w : World) (h : CalAt w v k off on) (hm : mayC k off on = true) (hi : inB a = true) (hib : inB b = true) (hab : a ≤ b) :
    Calls Tryd.prog 20 #[v, .int .i64 a, .int .i64 b] w fun e w' => e = .returned (.tuple #[.int .i64 (cntC k off on a (b - a).toNat : Nat), .int .i64 0]) ∧ Below w.heap.size w w' := by
  have CB := Lib.hid (fun W (hW : Below w.heap.size w W) => bad_any v k off on a W (h.over hW))
  rw [badC_0 hm hi] at CB
  have CD := Lib.hid (day_any b)
  rw [hib] at CD
  have CX := Lib.hid (from_any (a + 1) 1)
  have hp := mayC_parts hm
  have CW := Lib.hid (fun x W (hW : Below w.heap.size w W) => works_any v k off on x W (h.over hW) (okL_le hp.2.1) (okL_le hp.2.2.2.1))
  have hia := inB_iff.1 hi
  have hibb := inB_iff.1 hib
  have hab2 : decide (b < a) = false := decide_eq_false (by omega)
  obtain ⟨A, cA, B, cB, rfl, ha, hb2⟩ := h.ex
  have Q0 := Lib.hid (nextB (o := .cells #[.int .i64 b] 3) (nextB (o := (.cells #[.int .u8 k, .slice A off.length cA, .slice B on.length cB] 24)) (Below.refl w.heap.size w)))
  have K := Lib.hid (newC (Below.refl _ ((w.alloc (.cells #[.int .u8 k, .slice A off.length cA, .slice B on.length cB] 24)).alloc (.cells #[.int .i64 b] 3))))
  rw [show (w.alloc (.cells #[.int .u8 k, .slice A off.length cA, .slice B on.length cB] 24)).heap.size = w.heap.size + 1 by simp] at K
  have J := Lib.hid ((Row.new w 24 #[.int .u8 k, .slice A off.length cA, .slice B on.length cB]).alloc (.cells #[.int .i64 b] 3))
  clear h ha hb2 hm hi hib hp
  refine (callsIn_wide (n := 5)).1 ?_
  refine callsIn_of_wp_marks Tryd.func20 rfl trivial ?_ rfl
  simp only [Tryd.ntmps20, List.size_toArray, List.length_cons, List.length_nil, Nat.reduceAdd, Nat.reduceSub, Array.replicate_succ, Array.replicate_zero, List.push_toArray, List.append_toArray, List.nil_append, List.cons_append]
  gi_wp2
  refine ⟨trivial, (callsIn_wide.2 (CB.out _ Q0.out)).mono ?_⟩
  rintro e w1 ⟨rfl, hb1⟩
  have K1 := Lib.hid (K.out.over hb1)
  have J1 := Lib.hid (J.out.over hb1)
  have Q1 := Lib.hid (nextC Q0.out hb1)
  have kd := fun o => K1.out.cell o
  clear hb1
  gi_wp2
  refine ⟨trivial, (callsIn_wide.2 (CD.out _)).mono ?_⟩
  rintro e w2 ⟨rfl, rfl⟩
  gi_wp2
  refine ⟨trivial, (callsIn_wide.2 (CX.out _)).mono ?_⟩
  rintro e w2 ⟨rfl, rfl⟩
  gi_wp2
  obtain ⟨cs, hcs⟩ : ∃ cs : Array Value, #[.int .u8 k, .slice A off.length cA, .slice B on.length cB] = cs := ⟨_, rfl⟩
  obtain ⟨g, hg⟩ : ∃ g, w2.heap.size = g := ⟨_, rfl⟩
  obtain ⟨W0, hW0⟩ : ∃ W0, ((w2.alloc (.cells #[.int .i64 0] 3)).alloc (.cells #[.int .i64 (a + 1)] 3)).alloc (.cells #[.int .i64 1] 3) = W0 := ⟨_, rfl⟩
  have hsz : W0.heap.size = g + 3 := by rw [← hW0, ← hg]; simp
  have hq1 := Q1.out.size
  have hK1 := K1.out.lt
  rw [hg] at hq1 hK1
  have r0 : Row W0 g 3 #[.int .i64 0] := by rw [← hW0, ← hg]; exact ((Row.new w2 _ _).alloc _).alloc _
  have r1 : Row W0 (g + 1) 3 #[.int .i64 (a + 1)] := by
    have := Row.new (w2.alloc (.cells #[.int .i64 0] 3)) 3 #[.int .i64 (a + 1)]
    rw [show (w2.alloc (.cells #[.int .i64 0] 3)).heap.size = g + 1 by rw [← hg]; simp] at this
    rw [← hW0]; exact this.alloc _
  have r2 : Row W0 (g + 2) 3 #[.int .i64 1] := by
    have := Row.new ((w2.alloc (.cells #[.int .i64 0] 3)).alloc (.cells #[.int .i64 (a + 1)] 3)) 3 #[.int .i64 1]
    rw [show ((w2.alloc (.cells #[.int .i64 0] 3)).alloc (.cells #[.int .i64 (a + 1)] 3)).heap.size = g + 2 by rw [← hg]; simp] at this
    rw [← hW0]; exact this
  have rj : Row W0 w.heap.size 24 cs := by rw [← hW0, ← hcs]; exact ((J1.out.alloc _).alloc _).alloc _
  have rk : Row W0 (w.heap.size + 1) 3 #[.int .i64 b] := by rw [← hW0]; exact ((K1.out.alloc _).alloc _).alloc _
  have q0 : Below w.heap.size w W0 := by rw [← hW0]; exact nextB (nextB (nextB Q1.out))
  rw [hW0, hg]
  have HC := Lib.hid hcs
  have HG := Lib.hid hg
  clear hW0 hcs hg kd K J Q0 CX CD CB
  refine wpIn_rangeFunc_box1 10 rfl (by omega) (gf := 63) (lb := #[.pointer (some ⟨g + 1, 0, none⟩), .pointer (some ⟨g + 1 + 1, 0, none⟩)]) rfl trivial (enters_of Tryd.func63 (by kernel_rfl) rfl) (bn := g + 1) (by omega)
    (from_box 4 (by omega) (g + 1) (g + 1 + 1) (by omega) (a + 1) 1 (by omega) (by omega) (.inl rfl)) (fun o o' => ⟨⟨((r1.alloc o).alloc o').cell 0, ((r1.alloc o).alloc o').free 0⟩, ((r2.alloc o).alloc o').cell 0⟩)
    fromKp_trans (fromKp_putObj (B := W0.heap.size) (by omega) (by omega))
    (fun pre W => (∃ i : Nat, pre = stepsL (a + 1) 1 i ∧ a + (i : Int) ≤ b ∧ Row W g 3 #[.int .i64 (cntC k off on a i : Nat)]) ∧ Row W w.heap.size 24 cs ∧ Row W (w.heap.size + 1) 3 #[.int .i64 b] ∧ Below w.heap.size w W ∧ g + 3 ≤ W.heap.size)
    (fun c pre W => c = .exit 1 ∧ (∃ i : Nat, a + (i : Int) = b ∧ Row W g 3 #[.int .i64 (cntC k off on a i : Nat)]) ∧ Below w.heap.size w W)
    (fun pre W W' row hs hg hr => ⟨by obtain ⟨i, e1, e2, e3⟩ := hs.1; exact ⟨i, e1, e2, row_kept e3 hg (fun q e => (hr q e).2)⟩, row_kept hs.2.1 hg (fun q e => (hr q e).2), row_kept hs.2.2.1 hg (fun q e => (hr q e).2), hs.2.2.2.1.grown hg hs.2.2.2.1.size (fun q e => Nat.le_trans (by omega) (hr q e).1), Nat.le_trans hs.2.2.2.2 hg.size⟩)
    (fun c pre W W' row hs hg hr => ⟨hs.1, by obtain ⟨i, e1, e3⟩ := hs.2.1; exact ⟨i, e1, row_kept e3 hg (fun q e => (hr q e).2)⟩, hs.2.2.grown hg hs.2.2.size (fun q e => Nat.le_trans (by omega) (hr q e).1)⟩)
    (fun pre W u hs => ⟨by obtain ⟨i, e1, e2, e3⟩ := hs.1; exact ⟨i, e1, e2, e3.far (by simp) u⟩, hs.2.1.far (by show w.heap.size ≠ g + 1; omega) u, hs.2.2.1.far (by show w.heap.size + 1 ≠ g + 1; omega) u, hs.2.2.2.1.setCell (p := ⟨g + 1, 0, none⟩) (by show w.heap.size ≤ g + 1; omega) u, by simpa using hs.2.2.2.2⟩)
    ⟨⟨0, rfl, by simpa using hab, r0⟩, rj, rk, q0, by omega⟩ ?assign ?body ?done ?stop
  case assign =>
    intro l x W K hK
    simp at hK
    gi_wp2
    exact hK
  case body =>
    rintro l pre x W ⟨⟨i, rfl, hib, t0⟩, tj, tk, tq, tz⟩ ⟨i', hpre, hx, hin⟩
    obtain rfl := stepsL_inj hpre
    have HX := Lib.hid hx.symm
    have kc := fun o => tj.cell o
    have kk := fun o => tk.cell o
    rw [← HC.out] at kc
    have hxi := Lib.hid (show x = a + 1 + (i : Int) by rw [hx]; omega)
    have hxr : 0 ≤ x ∧ x ≤ 157053 := by have := inB_iff.1 (hin i (Nat.le_refl _)); rw [← hx] at this; omega
    clear hx hpre hin
    skip
    by_cases hxb : b < x
    · gi_wp2
      exact ⟨KeepsOthers.refl _, rfl, ⟨i, by have := hxi.out; omega, t0⟩, tq⟩
    · have hxb2 : decide (b < x) = false := decide_eq_false hxb
      have hs := cntC_succ k off on a i
      rw [← hxi.out] at hs
      have hle := cntC_le k off on a i
      obtain ⟨c, hc⟩ : ∃ c, cntC k off on a i = c := ⟨_, rfl⟩
      rw [hc] at hs hle t0
      have HS := Lib.hid hs
      have hi2 : (i : Int) ≤ 157054 := by omega
      clear hs hc
      gi_wp2
      refine ⟨trivial, (CallsIn.inRound l (callsIn_wide.2 (CW.out x W tq))).mono ?_⟩
      rintro e W2 ⟨rfl, hb2⟩
      have t0' := t0.over hb2
      have tj' := tj.over hb2
      have tk' := tk.over hb2
      have tq' := nextC tq hb2
      have hlt := t0.lt
      have tz' := Nat.le_trans tz hb2.size
      have kn := fun o => t0'.cell o
      have fn := fun o => t0'.free o
      clear kc kk
      cases hwk : worksC k off on x
      · rw [hwk] at HS
        clear hwk
        gi_wp2
        refine ⟨keeps_of_below hb2, fromKp_below (by omega) (by omega) hb2, ⟨i + 1, by rw [stepsL_succ, HX.out], by have := hxi.out; omega, by rw [HS.out]; exact t0'⟩, tj', tk', tq', tz'⟩
      · rw [hwk] at HS
        clear hwk
        gi_wp2
        refine ⟨(keeps_of_below hb2).trans (KeepsOthers.setCell _ _ _), fromKp_trans (fromKp_below (by omega) (by omega) hb2) (fromKp_set (by omega) (by omega) _ _), ⟨i + 1, by rw [stepsL_succ, HX.out], by have := hxi.out; omega, ?_⟩, tj'.far (by simp; omega) _, tk'.far (by simp; omega) _, tq'.setCell (p := ⟨g, 0, none⟩) (by simp; omega) _, by simpa using tz'⟩
        rw [HS.out]
        exact (t0'.put 0 _).eq (by simp)
  case done =>
    rintro D xs W hD ⟨i, rfl, hin, hend⟩ ⟨⟨i', hpre, hib, t0⟩, tj, tk, tq, tz⟩ hK
    obtain rfl := stepsL_inj hpre
    have hei : a + (i : Int) = b := by
      have : ¬ inB (a + 1 + 1 * (i : Int)) = true := by rw [hend]; simp
      rw [inB_iff] at this
      omega
    have hM : (b - a).toNat = i := by omega
    have HM := Lib.hid hM
    have kn := fun o => t0.cell o
    clear hei hM hpre hin hend
    gi_wp2
    refine ⟨by simp, .inl ⟨_, _, rfl, run_takeDeferred hK, ?_⟩⟩
    exact ⟨_, results_tmp2 rfl _ _ _, by rw [HM.out]; rfl, tq.grown (grownBy_putObj' W D (.deferred none)) tq.size (fun q e => by cases e; omega)⟩
  case stop =>
    rintro D c pre W hD - ⟨rfl, ⟨i, hei, t0⟩, tq⟩ hK
    have hM : (b - a).toNat = i := by omega
    have HM := Lib.hid hM
    have kn := fun o => t0.cell o
    clear hei hM
    gi_wp2
    refine ⟨by simp, .inl ⟨_, _, rfl, run_takeDeferred hK, ?_⟩⟩
    exact ⟨_, results_tmp2 rfl _ _ _, by rw [HM.out]; rfl, tq.grown (grownBy_putObj' W D (.deferred none)) tq.size (fun q e => by cases e; omega)⟩
end Go.Proofs.YthigmjjafilbcaaDoor
