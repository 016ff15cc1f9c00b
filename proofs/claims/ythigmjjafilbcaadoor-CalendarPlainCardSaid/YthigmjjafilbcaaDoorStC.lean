/- Contracts of ringerref05.Split and Join. -/
import Derived.Test.YthigmjjafilbcaaDoorStB
import Derived.Test.YthigmjjafilbcaaDoorMa
namespace Go.Proofs.YthigmjjafilbcaaDoor
set_option linter.unusedVariables false
open Go.RowKit

theorem refSplit_no (t : Int) (w : World) (h : t < 0 ∨ 13569465600 ≤ t) :
    Calls Tryd.prog 11 #[.int .i64 t] w fun e w' => e = .returned (.tuple #[.agg #[.int .i64 0, .int .i64 0, .int .i64 0, .int .i64 0, .int .i64 0, .int .i64 0, .int .i64 0], .int .i64 50]) ∧ Below w.heap.size w w' := by
  rcases h with h | h
  · go_enter Tryd.func11, Tryd.ntmps11
    go_wp2_with fail
    exact bodyPost_ret (v := .tuple #[.agg #[.int .i64 0, .int .i64 0, .int .i64 0, .int .i64 0, .int .i64 0, .int .i64 0, .int .i64 0], .int .i64 50]) (by simp [results, Tryd.results11, go_sem]) rfl ⟨rfl, (Below.refl _ _).alloc (Nat.le_refl _) _⟩
  · have h' : ¬ t < 0 := by omega
    go_enter Tryd.func11, Tryd.ntmps11
    go_wp2_with fail
    exact bodyPost_ret (v := .tuple #[.agg #[.int .i64 0, .int .i64 0, .int .i64 0, .int .i64 0, .int .i64 0, .int .i64 0, .int .i64 0], .int .i64 50]) (by simp [results, Tryd.results11, go_sem]) rfl ⟨rfl, (Below.refl _ _).alloc (Nat.le_refl _) _⟩

theorem block_of_new {w w' : World} {X : Array Value} {T : TypeId} (hb : Below (w.alloc (.cells X T)).heap.size (w.alloc (.cells X T)) w') :
    w'.heap[w.heap.size]? = some (.cells X T (0, 0)) := (hb.block w.heap.size (by simp)).trans (heap_alloc_new w _)
theorem block_of_new2 {w w' : World} {A : Obj} {X : Array Value} {T : TypeId} (hb : Below ((w.alloc A).alloc (.cells X T)).heap.size ((w.alloc A).alloc (.cells X T)) w') :
    w'.heap[w.heap.size + 1]? = some (.cells X T (0, 0)) := by
  have h := (hb.block (w.alloc A).heap.size (by simp)).trans (heap_alloc_new (w.alloc A) _)
  rwa [show (w.alloc A).heap.size = w.heap.size + 1 by simp] at h
theorem free_of_row {w : World} {g : Nat} {X : Array Value} {T : TypeId} (h : w.heap[g]? = some (.cells X T (0, 0))) (o : Nat) : w.frozen? ⟨g, o, none⟩ = false := by
  simp [World.frozen?, h]
theorem mul_parts (t : Int) (h0 : 0 ≤ t) : t / 3600 % 24 = t % 86400 / 3600 ∧ t / 60 % 60 = t % 86400 % 3600 / 60 ∧ t % 60 = t % 86400 % 60 := by
  refine ⟨by omega, by omega, by omega⟩

set_option maxHeartbeats 1000000 in
theorem refSplit_yes (t : Int) (w : World) (h0 : 0 ≤ t) (h1 : t < 13569465600) :
    Calls Tryd.prog 11 #[.int .i64 t] w fun e w' => e = .returned (.tuple #[.agg #[.int .i64 (ofY (t / 86400)), .int .i64 (ofM (t / 86400)), .int .i64 (ofD (t / 86400)), .int .i64 (t % 86400 / 3600), .int .i64 (t % 86400 % 3600 / 60), .int .i64 (t % 86400 % 60), .int .i64 ((t / 86400 + 4) % 7)], .int .i64 0]) ∧ Below w.heap.size w w' := by
  obtain ⟨p1, p2, p3⟩ := mul_parts t h0
  rw [← p1, ← p2, ← p3]
  clear p1 p2 p3
  have C := Lib.hid fun W => refOf_in (t / 86400) W (by omega) (by omega)
  have D := Lib.hid fun W => refWeekday_any (t / 86400) W
  generalize ofY (t / 86400) = y at *
  generalize ofM (t / 86400) = m at *
  generalize ofD (t / 86400) = d at *
  go_enter Tryd.func11, Tryd.ntmps11
  go_wp2_with fail
  refine (C.out _).mono ?_
  rintro e w1 ⟨rfl, hb1⟩
  have kb := block_of_new2 hb1
  have q1 := (((Below.refl w.heap.size w).alloc (Nat.le_refl _) _).alloc (by simp) _).trans (hb1.mono (by simp; omega))
  have kz : w.heap.size + 1 < w1.heap.size := by have := hb1.size; simp at this; omega
  have kc : ∀ o, w1.cell? ⟨w.heap.size + 1, o, none⟩ = _ := fun o => cell_of_row w1 (w.heap.size + 1) o _ _ _ kb
  have kf : ∀ o, w1.frozen? ⟨w.heap.size + 1, o, none⟩ = false := fun o => free_of_row kb o
  go_wp2_with fail
  have kb2 : Row ((((w1.setCell ⟨w.heap.size + 1, 0, none⟩ (.int .i64 y)).setCell ⟨w.heap.size + 1, 1, none⟩ (.int .i64 m)).setCell ⟨w.heap.size + 1, 2, none⟩ (.int .i64 d)).alloc (.cells #[.int .i64 y, .int .i64 m, .int .i64 d] 40)) (w.heap.size + 1) 42
      #[.int .i64 y, .int .i64 m, .int .i64 d, .int .i64 (t / 3600 % 24), .int .i64 (t / 60 % 60), .int .i64 (t % 60), .int .i64 0] := ((((Row.put kb 0 _).put 1 _).put 2 _).alloc _).eq rfl
  have q2 : Below w.heap.size w ((((w1.setCell ⟨w.heap.size + 1, 0, none⟩ (.int .i64 y)).setCell ⟨w.heap.size + 1, 1, none⟩ (.int .i64 m)).setCell ⟨w.heap.size + 1, 2, none⟩ (.int .i64 d)).alloc (.cells #[.int .i64 y, .int .i64 m, .int .i64 d] 40)) :=
    (((q1.setCell (by simp) _).setCell (by simp) _).setCell (by simp) _).alloc (by simp; omega) _
  have kr := hb1.block w.heap.size (by simp; omega)
  rw [Below.heap_alloc _ _ _ (by simp), heap_alloc_new] at kr
  have kr2 : Row ((((w1.setCell ⟨w.heap.size + 1, 0, none⟩ (.int .i64 y)).setCell ⟨w.heap.size + 1, 1, none⟩ (.int .i64 m)).setCell ⟨w.heap.size + 1, 2, none⟩ (.int .i64 d)).alloc (.cells #[.int .i64 y, .int .i64 m, .int .i64 d] 40)) w.heap.size 42 _ :=
    (((Row.far kr (by simp) _).far (by simp) _).far (by simp) _).alloc _
  generalize World.alloc _ _ = V at kb2 q2 kr2 ⊢
  clear kb kc kf q1 kz kr
  refine (D.out _).mono ?_
  rintro e w2 ⟨rfl, rfl⟩
  have kc := fun o => kb2.cell o
  have kf := fun o => kb2.free o
  have kc3 := fun o => kr2.cell o
  have kf3 := fun o => kr2.free o
  go_wp2_with fail
  refine bodyPost_ret (results_cell_row2 Tryd.results11 _ _ w.heap.size 42 #[.int .i64 y, .int .i64 m, .int .i64 d, .int .i64 (t / 3600 % 24), .int .i64 (t / 60 % 60), .int .i64 (t % 60), .int .i64 ((t / 86400 + 4) % 7)] (0, 0) _ rfl ?_ Tryd.underlying42 rfl (by kernel_rfl)) rfl ⟨rfl, ?_⟩
  · exact ((((((((Row.far kr2 (by simp) _).put 0 _).put 1 _).put 2 _).put 3 _).put 4 _).put 5 _).put 6 _).eq rfl
  · exact (((((((q2.setCell (by simp) _).setCell (by simp) _).setCell (by simp) _).setCell (by simp) _).setCell (by simp) _).setCell (by simp) _).setCell (by simp) _).setCell (by simp) _

theorem refSplit_any (t : Int) (w : World) :
    Calls Tryd.prog 11 #[.int .i64 t] w fun e w' => e = .returned (.tuple #[clockV t, .int .i64 (clockE t)]) ∧ Below w.heap.size w w' := by
  unfold clockV clockE
  cases hk : okT t
  · have hh : t < 0 ∨ 13569465600 ≤ t := by
      have : ¬ (0 ≤ t ∧ t < 13569465600) := fun x => by rw [okT_iff.2 x] at hk; cases hk
      omega
    exact refSplit_no t w hh
  · obtain ⟨t0, t1⟩ := okT_iff.1 hk
    exact refSplit_yes t w t0 t1

theorem split_any (t : Int) (w : World) :
    Calls Tryd.prog 69 #[.int .i64 t] w fun e w' => e = .returned (.tuple #[clockV t, .int .i64 (clockE t)]) ∧ Below w.heap.size w w' := by
  unfold clockV clockE
  cases hk : okT t
  · have hh : t < 0 ∨ 13569465600 ≤ t := by
      have : ¬ (0 ≤ t ∧ t < 13569465600) := fun x => by rw [okT_iff.2 x] at hk; cases hk
      omega
    exact split_no t w hh
  · obtain ⟨t0, t1⟩ := okT_iff.1 hk
    exact split_yes t w t0 t1

theorem refJoin_nodate (y m d h mi s wd : Int) (w : World) (hm : mayB y m d = false) :
    Calls Tryd.prog 61 #[.agg #[.int .i64 y, .int .i64 m, .int .i64 d, .int .i64 h, .int .i64 mi, .int .i64 s, .int .i64 wd]] w fun e w' => e = .returned (.tuple #[.int .i64 0, .int .i64 2]) ∧ Below w.heap.size w w' := by
  have C := Lib.hid fun W => refDays_no y m d W hm
  clear hm
  go_enter Tryd.func61, Tryd.ntmps61
  go_wp2_with fail
  refine (C.out _).mono ?_
  rintro e w1 ⟨rfl, hb1⟩
  obtain ⟨kc1, kz1⟩ := cells_of_new hb1
  have q1 := ((Below.refl w.heap.size w).alloc (Nat.le_refl _) _).trans (hb1.mono (by simp))
  go_wp2_with fail
  go_quiet (fail)
  go_wp2
  go_ret2
  exact ⟨rfl, below_drewN q1 _⟩

theorem first_bad {h mi s : Int} (hr : rngB h mi s = false) :
    h < 0 ∨ (decide (h < 0) = false ∧ 24 ≤ h) ∨ (decide (h < 0) = false ∧ decide (24 ≤ h) = false ∧ mi < 0) ∨ (decide (h < 0) = false ∧ decide (24 ≤ h) = false ∧ decide (mi < 0) = false ∧ 60 ≤ mi) ∨
      (decide (h < 0) = false ∧ decide (24 ≤ h) = false ∧ decide (mi < 0) = false ∧ decide (60 ≤ mi) = false ∧ s < 0) ∨ (decide (h < 0) = false ∧ decide (24 ≤ h) = false ∧ decide (mi < 0) = false ∧ decide (60 ≤ mi) = false ∧ decide (s < 0) = false ∧ 60 ≤ s) := by
  have : ¬ (0 ≤ h ∧ h ≤ 23 ∧ 0 ≤ mi ∧ mi ≤ 59 ∧ 0 ≤ s ∧ s ≤ 59) := fun x => by rw [rngB_iff.2 x] at hr; cases hr
  simp only [decide_eq_false_iff_not]
  omega

set_option maxHeartbeats 1000000 in
theorem refJoin_norng (y m d h mi s wd : Int) (w : World) (hm : mayB y m d = true) (hr : rngB h mi s = false) :
    Calls Tryd.prog 61 #[.agg #[.int .i64 y, .int .i64 m, .int .i64 d, .int .i64 h, .int .i64 mi, .int .i64 s, .int .i64 wd]] w fun e w' => e = .returned (.tuple #[.int .i64 0, .int .i64 2]) ∧ Below w.heap.size w w' := by
  have C := Lib.hid fun W => refDays_yes y m d W hm
  have hh := first_bad hr
  clear hm hr
  rcases hh with k1 | ⟨k1, k2⟩ | ⟨k1, k2, k3⟩ | ⟨k1, k2, k3, k4⟩ | ⟨k1, k2, k3, k4, k5⟩ | ⟨k1, k2, k3, k4, k5, k6⟩
  all_goals
    go_enter Tryd.func61, Tryd.ntmps61
    go_wp2_with fail
    refine (C.out _).mono ?_
    rintro e w1 ⟨rfl, hb1⟩
    obtain ⟨kc1, kz1⟩ := cells_of_new hb1
    have q1 := ((Below.refl w.heap.size w).alloc (Nat.le_refl _) _).trans (hb1.mono (by simp))
    go_wp2_with fail
    go_quiet (fail)
    go_wp2
    go_ret2
    exact ⟨rfl, below_drewN q1 _⟩

set_option maxHeartbeats 1000000 in
theorem refJoin_in (y m d h mi s wd : Int) (w : World) (hm : mayB y m d = true) (hr : rngB h mi s = true) :
    Calls Tryd.prog 61 #[.agg #[.int .i64 y, .int .i64 m, .int .i64 d, .int .i64 h, .int .i64 mi, .int .i64 s, .int .i64 wd]] w fun e w' => e = .returned (.tuple #[.int .i64 (if wd == (numI y m d + 4) % 7 then momI y m d h mi s else 0), .int .i64 (if wd == (numI y m d + 4) % 7 then 0 else 2)]) ∧ Below w.heap.size w w' := by
  have C := Lib.hid fun W => refDays_yes y m d W hm
  have D := Lib.hid fun W => refWeekday_any (numI y m d) W
  obtain ⟨a1, a2, a3, a4, a5, a6⟩ := rngB_iff.1 hr
  obtain ⟨n0, n1⟩ := num_range hm
  unfold momI
  generalize numI y m d = n at *
  have em : n * 86400 + h * 3600 + mi * 60 + s = ((n * 24 + h) * 60 + mi) * 60 + s := by omega
  rw [em]
  clear hm hr em
  generalize hkk : (n + 4) % 7 = k at *
  clear hkk
  have k1 : decide (h < 0) = false := by simpa using a1
  have k2 : decide (24 ≤ h) = false := by simp; omega
  have k3 : decide (mi < 0) = false := by simpa using a3
  have k4 : decide (60 ≤ mi) = false := by simp; omega
  have k5 : decide (s < 0) = false := by simpa using a5
  have k6 : decide (60 ≤ s) = false := by simp; omega
  cases hk : (wd == k)
  · have hk' : (wd != k) = true := by rw [bne, hk]; rfl
    go_enter Tryd.func61, Tryd.ntmps61
    go_wp2_with fail
    refine (C.out _).mono ?_
    rintro e w1 ⟨rfl, hb1⟩
    obtain ⟨kc1, kz1⟩ := cells_of_new hb1
    have q1 := ((Below.refl w.heap.size w).alloc (Nat.le_refl _) _).trans (hb1.mono (by simp))
    go_wp2_with fail
    go_quiet ((go_at_call 29; exact quiet_left (D.out _)))
    go_wp2
    go_ret2
    exact ⟨rfl, below_drewN q1 _⟩
  · have hk' : (wd != k) = false := by rw [bne, hk]; rfl
    go_enter Tryd.func61, Tryd.ntmps61
    go_wp2_with fail
    refine (C.out _).mono ?_
    rintro e w1 ⟨rfl, hb1⟩
    obtain ⟨kc1, kz1⟩ := cells_of_new hb1
    have q1 := ((Below.refl w.heap.size w).alloc (Nat.le_refl _) _).trans (hb1.mono (by simp))
    go_wp2_with fail
    go_quiet ((go_at_call 29; exact quiet_left (D.out _)))
    go_wp2
    go_ret2
    exact ⟨rfl, below_drewN q1 _⟩

theorem refJoin_any (y m d h mi s wd : Int) (w : World) :
    Calls Tryd.prog 61 #[.agg #[.int .i64 y, .int .i64 m, .int .i64 d, .int .i64 h, .int .i64 mi, .int .i64 s, .int .i64 wd]] w fun e w' => e = .returned (.tuple #[.int .i64 (joinV y m d h mi s wd), .int .i64 (joinE y m d h mi s wd)]) ∧ Below w.heap.size w w' := by
  unfold joinV joinE clkB
  cases hm : mayB y m d
  · exact refJoin_nodate y m d h mi s wd w hm
  · cases hr : rngB h mi s
    · exact refJoin_norng y m d h mi s wd w hm hr
    · exact refJoin_in y m d h mi s wd w hm hr
end Go.Proofs.YthigmjjafilbcaaDoor
