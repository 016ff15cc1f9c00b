/- calendar.After: its short ways. -/
import Derived.Test.YthigmjjafilbcaaDoorCaD
namespace Go.Proofs.YthigmjjafilbcaaDoor
set_option linter.unusedVariables false
set_option maxRecDepth 100000
open Go.RowKit Go.Shelf
attribute [local go_sem] Oper.semAt_some
theorem six {w W0 : World} {g : Nat} (hg : w.heap.size = g) {t1 t2 t3 t4 t5 t6 : TypeId} {c1 c2 c3 c4 c5 c6 : Array Value} (e : (((((w.alloc (.cells c1 t1)).alloc (.cells c2 t2)).alloc (.cells c3 t3)).alloc (.cells c4 t4)).alloc (.cells c5 t5)).alloc (.cells c6 t6) = W0) :
    (Row W0 g t1 c1 ∧ Row W0 (g + 1) t2 c2 ∧ Row W0 (g + 1 + 1) t3 c3 ∧ Row W0 (g + 1 + 1 + 1) t4 c4 ∧ Row W0 (g + 1 + 1 + 1 + 1) t5 c5 ∧ Row W0 (g + 1 + 1 + 1 + 1 + 1) t6 c6) ∧ Below g w W0 ∧ W0.heap.size = g + 1 + 1 + 1 + 1 + 1 + 1 := by
  subst e
  obtain ⟨a1, a2, a3, a4, aq, az⟩ := four hg rfl (t1 := t1) (t2 := t2) (t3 := t3) (t4 := t4) (c1 := c1) (c2 := c2) (c3 := c3) (c4 := c4)
  have h5 := new_at az t5 c5
  have h6 := new_at h5.2 t6 c6
  exact ⟨⟨(a1.alloc _).alloc _, (a2.alloc _).alloc _, (a3.alloc _).alloc _, (a4.alloc _).alloc _, h5.1.alloc _, h6.1⟩, by subst hg; exact nextB (nextB aq), h6.2⟩
/-- What holds of After's boxes. -/
structure AfB (W : World) (g : Nat) (cs : Array Value) (mode : Int) (x : Xp) (t r e : Int) : Prop where
  r0 : Row W g 24 cs
  r1 : Row W (g + 1) 5 #[.int .u8 mode]
  r2 : Row W (g + 1 + 1) 29 (xpC x)
  r3 : Row W (g + 1 + 1 + 1) 2 #[.int .i64 t]
  r4 : Row W (g + 1 + 1 + 1 + 1) 2 #[.int .i64 r]
  r5 : Row W (g + 1 + 1 + 1 + 1 + 1) 36 #[.int .i64 e]
theorem AfB.over {W W' : World} {g : Nat} {cs : Array Value} {mode : Int} {x : Xp} {t r e : Int} (h : AfB W g cs mode x t r e) (hb : Below W.heap.size W W') : AfB W' g cs mode x t r e :=
  ⟨h.r0.over hb, h.r1.over hb, h.r2.over hb, h.r3.over hb, h.r4.over hb, h.r5.over hb⟩
theorem AfB.kept {W W' : World} {row : Option Nat} {g : Nat} {cs : Array Value} {mode : Int} {x : Xp} {t r e : Int} (h : AfB W g cs mode x t r e) (hg : W.grownBy W' row) (hr : ∀ q, row = some q → ∃ o : Obj, W.heap[q]? = some o ∧ o.isCells = false) : AfB W' g cs mode x t r e :=
  ⟨row_kept h.r0 hg hr, row_kept h.r1 hg hr, row_kept h.r2 hg hr, row_kept h.r3 hg hr, row_kept h.r4 hg hr, row_kept h.r5 hg hr⟩
theorem AfB.far {W : World} {g : Nat} {cs : Array Value} {mode : Int} {x : Xp} {t r e : Int} (h : AfB W g cs mode x t r e) {f : Nat} (hf : g + 1 + 1 + 1 + 1 + 1 < f) (o : Nat) (u : Value) : AfB (W.setCell ⟨f, o, none⟩ u) g cs mode x t r e :=
  ⟨h.r0.far (by show g ≠ f; omega) u, h.r1.far (by show g + 1 ≠ f; omega) u, h.r2.far (by show g + 1 + 1 ≠ f; omega) u, h.r3.far (by show g + 1 + 1 + 1 ≠ f; omega) u, h.r4.far (by show g + 1 + 1 + 1 + 1 ≠ f; omega) u, h.r5.far (by show g + 1 + 1 + 1 + 1 + 1 ≠ f; omega) u⟩
theorem load_i64 {w : World} {a : Addr} {v : Value} (h : w.cell? a = some v) : (loadVar 2 a).run Tryd.prog w = .ok v w := by
  simp [go_sem, loadVar, h]
theorem after_nocal (v : Value) (k : Nat) (off on : List Int) (mode : Int) (x : Xp) (hx : x.Ok) (t : Int) (w : World) (h : CalAt w v k off on) (hm : mayC k off on = false) :
    Calls Tryd.prog 14 #[v, .int .u8 mode, xpV x, .int .i64 t] w fun e w' => e = .returned (.tuple #[.int .i64 0, .int .i64 2]) ∧ Below w.heap.size w w' := by
  have CM := Lib.hid (fun W (hW : Below w.heap.size w W) => mayCal_any v k off on W (h.over hW))
  have CX := Lib.hid (mayX_any x hx)
  rw [hm] at CM
  clear hm
  obtain ⟨A, cA, B, cB, rfl, ha, hb2⟩ := h.ex
  obtain ⟨g, hg⟩ : ∃ g, w.heap.size = g := ⟨_, rfl⟩
  obtain ⟨W0, hW0⟩ : ∃ W0, (((((w.alloc (.cells #[.int .u8 k, .slice A off.length cA, .slice B on.length cB] 24)).alloc (.cells #[.int .u8 mode] 5)).alloc (.cells (xpC x) 29)).alloc (.cells #[.int .i64 t] 2)).alloc (.cells #[.int .i64 0] 2)).alloc (.cells #[.int .i64 0] 36) = W0 := ⟨_, rfl⟩
  obtain ⟨⟨r0, r1, r2, r3, r4, r5⟩, q0, z0⟩ := six hg hW0
  have AB : AfB W0 g #[.int .u8 k, .slice A off.length cA, .slice B on.length cB] mode x t 0 0 := ⟨r0, r1, r2, r3, r4, r5⟩
  have HG := Lib.hid hg
  clear r0 r1 r2 r3 r4 r5 h ha hb2
  rw [hg] at CM ⊢
  clear hg
  obtain ⟨b0, b1, b2, b3, b4, s0, s1, s2, s3, s4⟩ := x
  dsimp only [xpV] at *
  have HW := Lib.hid (show (((((w.alloc (.cells #[.int .u8 k, .slice A off.length cA, .slice B on.length cB] 24)).alloc (.cells #[.int .u8 mode] 5)).alloc (.cells #[.int .u64 b0, .bool s0, .int .u64 b1, .bool s1, .int .u64 b2, .bool s2, .int .u64 b3, .bool s3, .int .u64 b4, .bool s4] 29)).alloc (.cells #[.int .i64 t] 2)).alloc (.cells #[.int .i64 0] 2)).alloc (.cells #[.int .i64 0] 36) = W0 from hW0)
  clear hW0
  go_enter Tryd.func14, Tryd.ntmps14
  go_wp2_with fail
  rw [HW.out, HG.out]
  refine (CM.out _ q0).mono ?_
  rintro e w1 ⟨rfl, hb1⟩
  have AB1 := AB.over hb1
  have q1 := belowG HG.out q0 hb1
  have ka0 := fun o => AB1.r0.cell o
  have ka1 := fun o => AB1.r1.cell o
  have ka2 := fun o => AB1.r2.cell o
  have ka3 := fun o => AB1.r3.cell o
  have ka4 := fun o => AB1.r4.cell o
  have ka5 := fun o => AB1.r5.cell o
  have fa4 := fun o => AB1.r4.free o
  have fa5 := fun o => AB1.r5.free o
  dsimp only [xpC] at ka2
  go_wp2_with fail
  have e4 := ((AB1.r4.put 0 (.int .i64 0)).far (p := ⟨g + 1 + 1 + 1 + 1 + 1, 0, none⟩) (by simp) (.int .i64 2)).cell 0
  have e5 := ((AB1.r5.far (p := ⟨g + 1 + 1 + 1 + 1, 0, none⟩) (by simp) (.int .i64 0)).put 0 (.int .i64 2)).cell 0
  exact bodyPost_ret (results_cells2 Tryd.results14 _ _ rfl rfl (load_i64 e4) (load_err e5)) rfl ⟨rfl, (q1.setCell (p := ⟨g + 1 + 1 + 1 + 1, 0, none⟩) (by simp; omega) _).setCell (p := ⟨g + 1 + 1 + 1 + 1 + 1, 0, none⟩) (by simp; omega) _⟩
theorem after_nomode (v : Value) (k : Nat) (off on : List Int) (mode : Int) (x : Xp) (hx : x.Ok) (t : Int) (w : World) (h : CalAt w v k off on) (hm : mayC k off on = true) (hmode : mode < 1 ∨ 3 < mode) :
    Calls Tryd.prog 14 #[v, .int .u8 mode, xpV x, .int .i64 t] w fun e w' => e = .returned (.tuple #[.int .i64 0, .int .i64 2]) ∧ Below w.heap.size w w' := by
  have CM := Lib.hid (fun W (hW : Below w.heap.size w W) => mayCal_any v k off on W (h.over hW))
  have CX := Lib.hid (mayX_any x hx)
  rw [hm] at CM
  clear hm
  obtain ⟨A, cA, B, cB, rfl, ha, hb2⟩ := h.ex
  obtain ⟨g, hg⟩ : ∃ g, w.heap.size = g := ⟨_, rfl⟩
  obtain ⟨W0, hW0⟩ : ∃ W0, (((((w.alloc (.cells #[.int .u8 k, .slice A off.length cA, .slice B on.length cB] 24)).alloc (.cells #[.int .u8 mode] 5)).alloc (.cells (xpC x) 29)).alloc (.cells #[.int .i64 t] 2)).alloc (.cells #[.int .i64 0] 2)).alloc (.cells #[.int .i64 0] 36) = W0 := ⟨_, rfl⟩
  obtain ⟨⟨r0, r1, r2, r3, r4, r5⟩, q0, z0⟩ := six hg hW0
  have AB : AfB W0 g #[.int .u8 k, .slice A off.length cA, .slice B on.length cB] mode x t 0 0 := ⟨r0, r1, r2, r3, r4, r5⟩
  have HG := Lib.hid hg
  clear r0 r1 r2 r3 r4 r5 h ha hb2
  rw [hg] at CM ⊢
  clear hg
  obtain ⟨b0, b1, b2, b3, b4, s0, s1, s2, s3, s4⟩ := x
  dsimp only [xpV] at *
  have HW := Lib.hid (show (((((w.alloc (.cells #[.int .u8 k, .slice A off.length cA, .slice B on.length cB] 24)).alloc (.cells #[.int .u8 mode] 5)).alloc (.cells #[.int .u64 b0, .bool s0, .int .u64 b1, .bool s1, .int .u64 b2, .bool s2, .int .u64 b3, .bool s3, .int .u64 b4, .bool s4] 29)).alloc (.cells #[.int .i64 t] 2)).alloc (.cells #[.int .i64 0] 2)).alloc (.cells #[.int .i64 0] 36) = W0 from hW0)
  clear hW0
  go_enter Tryd.func14, Tryd.ntmps14
  go_wp2_with fail
  rw [HW.out, HG.out]
  refine (CM.out _ q0).mono ?_
  rintro e w1 ⟨rfl, hb1⟩
  have AB1 := AB.over hb1
  have q1 := belowG HG.out q0 hb1
  have ka0 := fun o => AB1.r0.cell o
  have ka1 := fun o => AB1.r1.cell o
  have ka2 := fun o => AB1.r2.cell o
  have ka3 := fun o => AB1.r3.cell o
  have ka4 := fun o => AB1.r4.cell o
  have ka5 := fun o => AB1.r5.cell o
  have fa4 := fun o => AB1.r4.free o
  have fa5 := fun o => AB1.r5.free o
  dsimp only [xpC] at ka2
  rcases hmode with hmode | hmode
  all_goals
    go_wp2_with fail
    have e4 := ((AB1.r4.put 0 (.int .i64 0)).far (p := ⟨g + 1 + 1 + 1 + 1 + 1, 0, none⟩) (by simp) (.int .i64 2)).cell 0
    have e5 := ((AB1.r5.far (p := ⟨g + 1 + 1 + 1 + 1, 0, none⟩) (by simp) (.int .i64 0)).put 0 (.int .i64 2)).cell 0
    exact bodyPost_ret (results_cells2 Tryd.results14 _ _ rfl rfl (load_i64 e4) (load_err e5)) rfl ⟨rfl, (q1.setCell (p := ⟨g + 1 + 1 + 1 + 1, 0, none⟩) (by simp; omega) _).setCell (p := ⟨g + 1 + 1 + 1 + 1 + 1, 0, none⟩) (by simp; omega) _⟩
theorem after_noexpr (v : Value) (k : Nat) (off on : List Int) (mode : Int) (x : Xp) (hx : x.Ok) (t : Int) (w : World) (h : CalAt w v k off on) (hm : mayC k off on = true) (hmode : 1 ≤ mode ∧ mode ≤ 3) (hmx : mayX x = false) :
    Calls Tryd.prog 14 #[v, .int .u8 mode, xpV x, .int .i64 t] w fun e w' => e = .returned (.tuple #[.int .i64 0, .int .i64 2]) ∧ Below w.heap.size w w' := by
  have CM := Lib.hid (fun W (hW : Below w.heap.size w W) => mayCal_any v k off on W (h.over hW))
  have CX := Lib.hid (mayX_any x hx)
  rw [hm] at CM
  rw [hmx] at CX
  have hm1 : decide (mode < 1) = false := decide_eq_false (by omega)
  have hm3 : decide (3 < mode) = false := decide_eq_false (by omega)
  clear hm hmx hmode
  obtain ⟨A, cA, B, cB, rfl, ha, hb2⟩ := h.ex
  obtain ⟨g, hg⟩ : ∃ g, w.heap.size = g := ⟨_, rfl⟩
  obtain ⟨W0, hW0⟩ : ∃ W0, (((((w.alloc (.cells #[.int .u8 k, .slice A off.length cA, .slice B on.length cB] 24)).alloc (.cells #[.int .u8 mode] 5)).alloc (.cells (xpC x) 29)).alloc (.cells #[.int .i64 t] 2)).alloc (.cells #[.int .i64 0] 2)).alloc (.cells #[.int .i64 0] 36) = W0 := ⟨_, rfl⟩
  obtain ⟨⟨r0, r1, r2, r3, r4, r5⟩, q0, z0⟩ := six hg hW0
  have AB : AfB W0 g #[.int .u8 k, .slice A off.length cA, .slice B on.length cB] mode x t 0 0 := ⟨r0, r1, r2, r3, r4, r5⟩
  have HG := Lib.hid hg
  clear r0 r1 r2 r3 r4 r5 h ha hb2
  rw [hg] at CM ⊢
  clear hg
  obtain ⟨b0, b1, b2, b3, b4, s0, s1, s2, s3, s4⟩ := x
  dsimp only [xpV] at *
  have HW := Lib.hid (show (((((w.alloc (.cells #[.int .u8 k, .slice A off.length cA, .slice B on.length cB] 24)).alloc (.cells #[.int .u8 mode] 5)).alloc (.cells #[.int .u64 b0, .bool s0, .int .u64 b1, .bool s1, .int .u64 b2, .bool s2, .int .u64 b3, .bool s3, .int .u64 b4, .bool s4] 29)).alloc (.cells #[.int .i64 t] 2)).alloc (.cells #[.int .i64 0] 2)).alloc (.cells #[.int .i64 0] 36) = W0 from hW0)
  clear hW0
  go_enter Tryd.func14, Tryd.ntmps14
  go_wp2_with fail
  rw [HW.out, HG.out]
  refine (CM.out _ q0).mono ?_
  rintro e w1 ⟨rfl, hb1⟩
  have AB1 := AB.over hb1
  have q1 := belowG HG.out q0 hb1
  have ka0 := fun o => AB1.r0.cell o
  have ka1 := fun o => AB1.r1.cell o
  have ka2 := fun o => AB1.r2.cell o
  have ka3 := fun o => AB1.r3.cell o
  have ka4 := fun o => AB1.r4.cell o
  have ka5 := fun o => AB1.r5.cell o
  have fa4 := fun o => AB1.r4.free o
  have fa5 := fun o => AB1.r5.free o
  dsimp only [xpC] at ka2
  go_wp2_with fail
  refine (CX.out _).mono ?_
  rintro e w2 ⟨rfl, hb2⟩
  have AB2 := AB1.over hb2
  have q2 := belowG HG.out q1 hb2
  clear ka0 ka1 ka2 ka3 ka4 ka5 fa4 fa5
  have kb0 := fun o => AB2.r0.cell o
  have kb1 := fun o => AB2.r1.cell o
  have kb2 := fun o => AB2.r2.cell o
  have kb3 := fun o => AB2.r3.cell o
  have kb4 := fun o => AB2.r4.cell o
  have kb5 := fun o => AB2.r5.cell o
  have fb4 := fun o => AB2.r4.free o
  have fb5 := fun o => AB2.r5.free o
  dsimp only [xpC] at kb2
  go_wp2_with fail
  have e4 := ((AB2.r4.put 0 (.int .i64 0)).far (p := ⟨g + 1 + 1 + 1 + 1 + 1, 0, none⟩) (by simp) (.int .i64 2)).cell 0
  have e5 := ((AB2.r5.far (p := ⟨g + 1 + 1 + 1 + 1, 0, none⟩) (by simp) (.int .i64 0)).put 0 (.int .i64 2)).cell 0
  exact bodyPost_ret (results_cells2 Tryd.results14 _ _ rfl rfl (load_i64 e4) (load_err e5)) rfl ⟨rfl, (q2.setCell (p := ⟨g + 1 + 1 + 1 + 1, 0, none⟩) (by simp; omega) _).setCell (p := ⟨g + 1 + 1 + 1 + 1 + 1, 0, none⟩) (by simp; omega) _⟩
theorem after_range (v : Value) (k : Nat) (off on : List Int) (mode : Int) (x : Xp) (hx : x.Ok) (t : Int) (w : World) (h : CalAt w v k off on) (hm : mayC k off on = true) (hmode : 1 ≤ mode ∧ mode ≤ 3) (hmx : mayX x = true) (ht : t < 0 ∨ 13569465600 ≤ t) :
    Calls Tryd.prog 14 #[v, .int .u8 mode, xpV x, .int .i64 t] w fun e w' => e = .returned (.tuple #[.int .i64 0, .int .i64 50]) ∧ Below w.heap.size w w' := by
  have CM := Lib.hid (fun W (hW : Below w.heap.size w W) => mayCal_any v k off on W (h.over hW))
  have CX := Lib.hid (mayX_any x hx)
  rw [hm] at CM
  rw [hmx] at CX
  have hm1 : decide (mode < 1) = false := decide_eq_false (by omega)
  have hm3 : decide (3 < mode) = false := decide_eq_false (by omega)
  clear hm hmx hmode
  obtain ⟨A, cA, B, cB, rfl, ha, hb2⟩ := h.ex
  obtain ⟨g, hg⟩ : ∃ g, w.heap.size = g := ⟨_, rfl⟩
  obtain ⟨W0, hW0⟩ : ∃ W0, (((((w.alloc (.cells #[.int .u8 k, .slice A off.length cA, .slice B on.length cB] 24)).alloc (.cells #[.int .u8 mode] 5)).alloc (.cells (xpC x) 29)).alloc (.cells #[.int .i64 t] 2)).alloc (.cells #[.int .i64 0] 2)).alloc (.cells #[.int .i64 0] 36) = W0 := ⟨_, rfl⟩
  obtain ⟨⟨r0, r1, r2, r3, r4, r5⟩, q0, z0⟩ := six hg hW0
  have AB : AfB W0 g #[.int .u8 k, .slice A off.length cA, .slice B on.length cB] mode x t 0 0 := ⟨r0, r1, r2, r3, r4, r5⟩
  have HG := Lib.hid hg
  clear r0 r1 r2 r3 r4 r5 h ha hb2
  rw [hg] at CM ⊢
  clear hg
  obtain ⟨b0, b1, b2, b3, b4, s0, s1, s2, s3, s4⟩ := x
  dsimp only [xpV] at *
  have HW := Lib.hid (show (((((w.alloc (.cells #[.int .u8 k, .slice A off.length cA, .slice B on.length cB] 24)).alloc (.cells #[.int .u8 mode] 5)).alloc (.cells #[.int .u64 b0, .bool s0, .int .u64 b1, .bool s1, .int .u64 b2, .bool s2, .int .u64 b3, .bool s3, .int .u64 b4, .bool s4] 29)).alloc (.cells #[.int .i64 t] 2)).alloc (.cells #[.int .i64 0] 2)).alloc (.cells #[.int .i64 0] 36) = W0 from hW0)
  clear hW0
  go_enter Tryd.func14, Tryd.ntmps14
  go_wp2_with fail
  rw [HW.out, HG.out]
  refine (CM.out _ q0).mono ?_
  rintro e w1 ⟨rfl, hb1⟩
  have AB1 := AB.over hb1
  have q1 := belowG HG.out q0 hb1
  have ka0 := fun o => AB1.r0.cell o
  have ka1 := fun o => AB1.r1.cell o
  have ka2 := fun o => AB1.r2.cell o
  have ka3 := fun o => AB1.r3.cell o
  have ka4 := fun o => AB1.r4.cell o
  have ka5 := fun o => AB1.r5.cell o
  have fa4 := fun o => AB1.r4.free o
  have fa5 := fun o => AB1.r5.free o
  dsimp only [xpC] at ka2
  go_wp2_with fail
  refine (CX.out _).mono ?_
  rintro e w2 ⟨rfl, hb2⟩
  have AB2 := AB1.over hb2
  have q2 := belowG HG.out q1 hb2
  clear ka0 ka1 ka2 ka3 ka4 ka5 fa4 fa5
  have kb0 := fun o => AB2.r0.cell o
  have kb1 := fun o => AB2.r1.cell o
  have kb2 := fun o => AB2.r2.cell o
  have kb3 := fun o => AB2.r3.cell o
  have kb4 := fun o => AB2.r4.cell o
  have kb5 := fun o => AB2.r5.cell o
  have fb4 := fun o => AB2.r4.free o
  have fb5 := fun o => AB2.r5.free o
  dsimp only [xpC] at kb2
  rcases ht with ht | ht
  all_goals
    go_wp2_with fail
    have e4 := ((AB2.r4.put 0 (.int .i64 0)).far (p := ⟨g + 1 + 1 + 1 + 1 + 1, 0, none⟩) (by simp) (.int .i64 50)).cell 0
    have e5 := ((AB2.r5.far (p := ⟨g + 1 + 1 + 1 + 1, 0, none⟩) (by simp) (.int .i64 0)).put 0 (.int .i64 50)).cell 0
    exact bodyPost_ret (results_cells2 Tryd.results14 _ _ rfl rfl (load_i64 e4) (load_err e5)) rfl ⟨rfl, (q2.setCell (p := ⟨g + 1 + 1 + 1 + 1, 0, none⟩) (by simp; omega) _).setCell (p := ⟨g + 1 + 1 + 1 + 1 + 1, 0, none⟩) (by simp; omega) _⟩
end Go.Proofs.YthigmjjafilbcaaDoor
