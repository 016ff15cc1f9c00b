/- Contracts of calendar.clock and of After's two closures. -/
import Derived.Test.YthigmjjafilbcaaDoorRgK
namespace Go.Proofs.YthigmjjafilbcaaDoor
set_option linter.unusedVariables false
set_option maxRecDepth 100000
open Go.RowKit
theorem results_row1 {P : Program} {fn : Func} {p : Tmp} {ty : TypeId} (h : fn.results = #[.cell p ty]) (tmps : Array Value) (w : World) (g : Nat) (t : TypeId) (cs : Array Value) (fr : Nat × Nat) (d : TypeDesc)
    (hp : tmps[p]?.getD undef = .pointer (some ⟨g, 0, none⟩)) (hg : w.heap[g]? = some (.cells cs t fr))
    (hu : P.underlying ty = some d) (hd : (match d with | .struct _ | .array _ _ => true | _ => false) = true) (hi : (P.info? ty).map (·.size) = some cs.size) :
    (results fn tmps).run P w = .ok (.agg cs) w := by
  have e1 : (asAddr (tmps[p]?.getD undef)).run P w = .ok ⟨g, 0, none⟩ w := by rw [hp]; rfl
  have e2 := run_loadVar_row w g t ty cs fr d hg hu hd hi
  simp only [results, h]
  simp [Sem.run_bind, Result.andThen, e1, e2]
/-- A clock's value, at a minute of a day. -/
def clkA (n m : Int) : Array Value := #[.int .i64 (ofY n), .int .i64 (ofM n), .int .i64 (ofD n), .int .i64 (m / 60), .int .i64 (m % 60), .int .i64 0, .int .i64 ((n + 4) % 7)]
theorem split_at_min (n m : Int) (h0 : 0 ≤ n) (h1 : n < 157054) (m0 : 0 ≤ m) (m1 : m < 1440) (w : World) :
    Calls Tryd.prog 69 #[.int .i64 (n * 86400 + m * 60)] w fun e w' => e = .returned (.tuple #[.agg (clkA n m), .int .i64 0]) ∧ Below w.heap.size w w' := by
  have h := split_yes (n * 86400 + m * 60) w (by omega) (by omega)
  have e1 : (n * 86400 + m * 60) / 86400 = n := by omega
  have e2 : (n * 86400 + m * 60) % 86400 / 3600 = m / 60 := by omega
  have e3 : (n * 86400 + m * 60) % 86400 % 3600 / 60 = m % 60 := by omega
  have e4 : (n * 86400 + m * 60) % 86400 % 60 = 0 := by omega
  rw [e1, e2, e3, e4] at h
  exact h
theorem clock_any (n m : Int) (h0 : 0 ≤ n) (h1 : n < 157054) (m0 : 0 ≤ m) (m1 : m < 1440) (w : World) :
    Calls Tryd.prog 39 #[.int .i64 n, .int .i64 m] w fun e w' => e = .returned (.agg (clkA n m)) ∧ Below w.heap.size w w' := by
  have C := Lib.hid (split_at_min n m h0 h1 m0 m1)
  unfold clkA at *
  generalize ofY n = y at *
  generalize ofM n = mo at *
  generalize ofD n = d at *
  generalize m / 60 = hh at *
  generalize m % 60 = mi at *
  generalize (n + 4) % 7 = wd at *
  go_enter Tryd.func39, Tryd.ntmps39
  go_wp2_with fail
  refine (C.out _).mono ?_
  rintro e w1 ⟨rfl, hb1⟩
  have kr := newC hb1
  have q1 := nextA (Below.refl w.heap.size w) hb1
  have kz := kr.lt
  go_upto_region 2 with fail
  have a1 := Row.alloc kr (.cells #[.int .i64 y, .int .i64 mo, .int .i64 d, .int .i64 hh, .int .i64 mi, .int .i64 0, .int .i64 wd] 42)
  have a2 := Row.new w1 42 #[.int .i64 y, .int .i64 mo, .int .i64 d, .int .i64 hh, .int .i64 mi, .int .i64 0, .int .i64 wd]
  have q2 := nextB (o := .cells #[.int .i64 y, .int .i64 mo, .int .i64 d, .int .i64 hh, .int .i64 mi, .int .i64 0, .int .i64 wd] 42) q1
  generalize w1.alloc _ = V at a1 a2 q2 ⊢
  have k1 := fun o => a1.cell o
  have f1 := fun o => a1.free o
  have k2 := fun o => a2.cell o
  go_wp2_with fail
  refine bodyPost_ret (results_row1 Tryd.results39 _ _ w.heap.size 42 #[.int .i64 y, .int .i64 mo, .int .i64 d, .int .i64 hh, .int .i64 mi, .int .i64 0, .int .i64 wd] (0, 0) _ rfl ?_ Tryd.underlying42 rfl (by kernel_rfl)) rfl ⟨rfl, ?_⟩
  · exact (((((((a1.put 0 _).put 1 _).put 2 _).put 3 _).put 4 _).put 5 _).put 6 _).eq rfl
  · exact ((((((q2.setCell (by simp) _).setCell (by simp) _).setCell (by simp) _).setCell (by simp) _).setCell (by simp) _).setCell (by simp) _).setCell (by simp) _
theorem drewB {B : Nat} {w v : World} (h : Below B w v) : Below B w v.drew := below_drewN h 1
/-- The closure that strikes the days that do not fit. -/
theorem after1_any (x : Xp) (hx : x.Ok) (g : Nat) (n : Int) (h0 : 0 ≤ n) (h1 : n < 157054) (w : World) (h : Row w g 29 (xpC x)) :
    Calls Tryd.prog 37 #[.int .i64 n, .pointer (some ⟨g, 0, none⟩)] w fun e w' => e = .returned (.bool (!dayFit x n)) ∧ Below w.heap.size w w' := by
  obtain ⟨T, F, hT, hF, hG⟩ := class_of (fun v => Row v g 29 (xpC x) ∧ Below w.heap.size w v) w.drew ⟨h.drew, drewB (Below.refl _ _)⟩
  have q0 := fun n o => (hF n).1.cell o
  have Q0 := Lib.hid (hG _ ⟨h.drew, drewB (Below.refl _ _)⟩)
  have D1 := Lib.hid (fun n' => show Calls Tryd.prog 39 #[.int .i64 n, .int .i64 0] (F n') fun e w' => e = .returned (.agg (clkA n 0)) ∧ ∃ m, w' = F m from (clock_any n 0 h0 h1 (by omega) (by omega) (F n')).mono fun e w' ⟨he, hw⟩ => ⟨he, hG _ ⟨(hF n').1.over hw, nextC (hF n').2 hw⟩⟩)
  have D2 := Lib.hid (fun n' => show Calls Tryd.prog 38 #[xpV x, .agg (clkA n 0)] (F n') fun e w' => e = .returned (.bool (dayFit x n)) ∧ ∃ m, w' = F m from by
    have := dayFits_any x hx (ofY n) (ofM n) (ofD n) (0 / 60) (0 % 60) 0 ((n + 4) % 7) (F n')
    rw [dayFitsC_at x h0 h1 (by omega) (by omega)] at this
    exact this.mono fun e w' ⟨he, hw⟩ => ⟨he, hG _ ⟨(hF n').1.over hw, nextC (hF n').2 hw⟩⟩)
  have QB := Lib.hid (fun n => (hF n).2)
  clear hF hG
  generalize clkA n 0 = ca at *
  generalize dayFit x n = r at *
  obtain ⟨b0, b1, b2, b3, b4, s0, s1, s2, s3, s4⟩ := x
  dsimp only [xpV, xpC] at *
  clear hx
  go_enter Tryd.func37, Tryd.ntmps37
  go_wp2_with fail
  refine wp_region_class F (by kernel_rfl) (by kernel_rfl) Q0.out ?_
  repeat (go_big_quiet_step (first | (go_at_call 39; with_reducible exact D1.out _) | (go_at_call 38; with_reducible exact D2.out _)))
  refine wpQuiet_nil ?_
  rintro _ ⟨nq, rfl⟩
  go_wp2_with fail
  go_ret
  exact ⟨rfl, QB.out nq⟩
/-- The closure that asks whether a day's minute fits. -/
theorem after2_any (x : Xp) (hx : x.Ok) (g g2 : Nat) (n m : Int) (h0 : 0 ≤ n) (h1 : n < 157054) (m0 : 0 ≤ m) (m1 : m < 1440) (w : World) (h : Row w g 29 (xpC x)) (h2 : Row w g2 3 #[.int .i64 m]) :
    Calls Tryd.prog 41 #[.int .i64 n, .pointer (some ⟨g, 0, none⟩), .pointer (some ⟨g2, 0, none⟩)] w fun e w' => e = .returned (.bool (minFit x n m)) ∧ Below w.heap.size w w' := by
  obtain ⟨T, F, hT, hF, hG⟩ := class_of (fun v => (Row v g 29 (xpC x) ∧ Row v g2 3 #[.int .i64 m]) ∧ Below w.heap.size w v) w.drew ⟨⟨h.drew, h2.drew⟩, drewB (Below.refl _ _)⟩
  have q0 := fun n o => (hF n).1.1.cell o
  have q1 := fun n o => (hF n).1.2.cell o
  have Q0 := Lib.hid (hG _ ⟨⟨h.drew, h2.drew⟩, drewB (Below.refl _ _)⟩)
  have D1 := Lib.hid (fun n' => show Calls Tryd.prog 39 #[.int .i64 n, .int .i64 m] (F n') fun e w' => e = .returned (.agg (clkA n m)) ∧ ∃ m, w' = F m from (clock_any n m h0 h1 m0 m1 (F n')).mono fun e w' ⟨he, hw⟩ => ⟨he, hG _ ⟨⟨(hF n').1.1.over hw, (hF n').1.2.over hw⟩, nextC (hF n').2 hw⟩⟩)
  have D2 := Lib.hid (fun n' => show Calls Tryd.prog 42 #[xpV x, .agg (clkA n m)] (F n') fun e w' => e = .returned (.bool (minFit x n m)) ∧ ∃ m, w' = F m from by
    have := fits_any x hx (ofY n) (ofM n) (ofD n) (m / 60) (m % 60) 0 ((n + 4) % 7) (F n')
    rw [fitsC_at x h0 h1 m0 m1] at this
    exact this.mono fun e w' ⟨he, hw⟩ => ⟨he, hG _ ⟨⟨(hF n').1.1.over hw, (hF n').1.2.over hw⟩, nextC (hF n').2 hw⟩⟩)
  have QB := Lib.hid (fun n => (hF n).2)
  clear hF hG
  generalize clkA n m = ca at *
  generalize minFit x n m = r at *
  obtain ⟨b0, b1, b2, b3, b4, s0, s1, s2, s3, s4⟩ := x
  dsimp only [xpV, xpC] at *
  clear hx
  go_enter Tryd.func41, Tryd.ntmps41
  go_wp2_with fail
  refine wp_region_class F (by kernel_rfl) (by kernel_rfl) Q0.out ?_
  repeat (go_big_quiet_step (first | (go_at_call 39; with_reducible exact D1.out _) | (go_at_call 42; with_reducible exact D2.out _)))
  refine wpQuiet_nil ?_
  rintro _ ⟨nq, rfl⟩
  go_wp2_with fail
  go_ret
  exact ⟨rfl, QB.out nq⟩
end Go.Proofs.YthigmjjafilbcaaDoor
