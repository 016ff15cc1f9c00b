/- Contracts of package stamp (layer 5) and of its reference: moments and clocks. -/
import Derived.Test.YthigmjjafilbcaaDoorCivC
import Derived.Test.YthigmjjafilbcaaDoorStM
import Derived.StillTailTactics
import Derived.BigRegion
import Derived.IntWalk
import Derived.Laws.Rows
import Derived.Laws.CopyOwn
import Derived.Laws.ResultCell
import Derived.Deep.AppendLies
namespace Go.Proofs.YthigmjjafilbcaaDoor
set_option linter.unusedVariables false
open Go.RowKit

theorem cells_of_new {w w' : World} {X : Array Value} {T : TypeId} (hb : Below (w.alloc (.cells X T)).heap.size (w.alloc (.cells X T)) w') :
    (∀ o, w'.cell? ⟨w.heap.size, o, none⟩ = X[o]?) ∧ w.heap.size < w'.heap.size := by
  refine ⟨fun o => (hb.cell (p := ⟨w.heap.size, o, none⟩) (by simp)).trans (by simp [go_sem]), by have := hb.size; simp at this; omega⟩

/-- Two results, the first a struct in a cell row: as it lies there. -/
theorem results_cell_row2 {P : Program} {fn : Func} {p u : Tmp} {ty : TypeId} (h : fn.results = #[.cell p ty, .tmp u]) (tmps : Array Value) (w : World) (g : Nat) (t : TypeId) (cs : Array Value) (fr : Nat × Nat) (d : TypeDesc)
    (hp : tmps.getD p undef = .pointer (some ⟨g, 0, none⟩)) (hg : w.heap[g]? = some (.cells cs t fr))
    (hu : P.underlying ty = some d) (hd : (match d with | .struct _ | .array _ _ => true | _ => false) = true) (hi : (P.info? ty).map (·.size) = some cs.size) :
    (results fn tmps).run P w = .ok (.tuple #[.agg cs, tmps.getD u undef]) w := by
  rw [results_cell_tmp h]
  have e : (asAddr (tmps.getD p undef)).run P w = .ok ⟨g, 0, none⟩ w := by rw [hp]; rfl
  rw [e]
  simp only [Result.andThen]
  rw [run_loadVar_row w g t ty cs fr d hg hu hd hi]

theorem still_tail_drew {P : Program} {id : Nat} {Q : Exit → Act → World → Prop} {a : Act} {w : World} {l : List Oper} (n : Nat) (hm : P.follows .mixedOrders = true) (hB : Region.lexTailB .any l.toArray n = true)
    (h : wpStill P l.toArray w.drew (fun a' => wpList P l.toArray Q (l.drop n) a' w.drew) (l.take n) a) : (Code.region id l.toArray true).wp P Q a w :=
  wp_region_still_tail n hm hB h

theorem is_any (t : Int) (w : World) : Calls Tryd.prog 74 #[.int .i64 t] w fun e w' => e = .returned (.bool (decide (0 ≤ t) && decide (t < 13569465600))) ∧ w = w' := by
  by_cases h : 0 ≤ t
  · go_enter Tryd.func74, Tryd.ntmps74
    go_wp2
    go_ret
    exact ⟨ret_bool (by simp [h]), rfl⟩
  · have h' : decide (0 ≤ t) = false := decide_eq_false h
    go_enter Tryd.func74, Tryd.ntmps74
    go_wp2
    go_ret
    exact ⟨ret_bool (by simp), rfl⟩

theorem split_no (t : Int) (w : World) (h : t < 0 ∨ 13569465600 ≤ t) :
    Calls Tryd.prog 69 #[.int .i64 t] w fun e w' => e = .returned (.tuple #[.agg #[.int .i64 0, .int .i64 0, .int .i64 0, .int .i64 0, .int .i64 0, .int .i64 0, .int .i64 0], .int .i64 50]) ∧ Below w.heap.size w w' := by
  have c := fun W => is_any t W
  rw [show (decide (0 ≤ t) && decide (t < 13569465600)) = false by rw [Bool.and_eq_false_iff, decide_eq_false_iff_not, decide_eq_false_iff_not]; omega] at c
  have C := Lib.hid c; clear c
  go_enter Tryd.func69, Tryd.ntmps69
  go_wp2_with (go_at_call 74; refine (C.out _).mono ?_; rintro e w' ⟨rfl, rfl⟩)
  exact bodyPost_ret (v := .tuple #[.agg #[.int .i64 0, .int .i64 0, .int .i64 0, .int .i64 0, .int .i64 0, .int .i64 0, .int .i64 0], .int .i64 50]) (by simp [results, Tryd.results69, go_sem]) rfl ⟨rfl, (Below.refl _ _).alloc (Nat.le_refl _) _⟩

set_option maxRecDepth 100000 in
set_option maxHeartbeats 1000000 in
theorem split_yes (t : Int) (w : World) (h0 : 0 ≤ t) (h1 : t < 13569465600) :
    Calls Tryd.prog 69 #[.int .i64 t] w fun e w' => e = .returned (.tuple #[.agg #[.int .i64 (ofY (t / 86400)), .int .i64 (ofM (t / 86400)), .int .i64 (ofD (t / 86400)), .int .i64 (t % 86400 / 3600), .int .i64 (t % 86400 % 3600 / 60), .int .i64 (t % 86400 % 60), .int .i64 ((t / 86400 + 4) % 7)], .int .i64 0]) ∧ Below w.heap.size w w' := by
  have c := fun W => is_any t W
  rw [show (decide (0 ≤ t) && decide (t < 13569465600)) = true by simp [h0, h1]] at c
  have C := Lib.hid c; clear c
  obtain ⟨n, hn⟩ : ∃ n, t / 86400 = n := ⟨_, rfl⟩
  obtain ⟨s, hs⟩ : ∃ s, t % 86400 = s := ⟨_, rfl⟩
  have n0 : 0 ≤ n := by omega
  have n1 : n < 157054 := by omega
  have s0 : 0 ≤ s := by omega
  have s1 : s < 86400 := by omega
  rw [hn, hs]
  go_enter Tryd.func69, Tryd.ntmps69
  go_wp2_with (first | (go_at_call 74; refine (C.out _).mono ?_; rintro e w' ⟨rfl, rfl⟩) | (go_at_call 43; refine (of_yes _ _ n0 n1).mono ?_; rintro e w' ⟨rfl, hb⟩))
  have kb : w'.heap[w.heap.size]? = some (.cells #[.int .i64 0, .int .i64 0, .int .i64 0, .int .i64 0, .int .i64 0, .int .i64 0, .int .i64 0] 42 (0, 0)) := (hb.block w.heap.size (by simp)).trans (heap_alloc_new w _)
  have kz : w.heap.size < w'.heap.size := by have := hb.size; simp at this; omega
  have q := ((Below.refl w.heap.size w).alloc (Nat.le_refl _) (.cells #[.int .i64 0, .int .i64 0, .int .i64 0, .int .i64 0, .int .i64 0, .int .i64 0, .int .i64 0] 42)).trans (hb.mono (by simp))
  have q2 := (q.alloc q.size (.cells #[.int .i64 (ofY n), .int .i64 (ofM n), .int .i64 (ofD n)] 40)).drew
  have kd : (w'.alloc (.cells #[.int .i64 (ofY n), .int .i64 (ofM n), .int .i64 (ofD n)] 40)).drew.heap[w.heap.size]? = some (.cells #[.int .i64 0, .int .i64 0, .int .i64 0, .int .i64 0, .int .i64 0, .int .i64 0, .int .i64 0] 42 (0, 0)) := (Below.heap_alloc w' _ _ kz).trans kb
  clear kb hb q
  have u1 : s.tmod 3600 = s % 3600 := Int.tmod_eq_emod_of_nonneg s0
  have u2 : s.tmod 60 = s % 60 := Int.tmod_eq_emod_of_nonneg s0
  have u3 : IntKind.i64.wrap (s.tdiv 3600) = s / 3600 := by rw [Int.tdiv_eq_ediv_of_nonneg s0]; exact IntWalk.i64_in _ (by omega)
  have u4 : IntKind.i64.wrap ((s % 3600).tdiv 60) = s % 3600 / 60 := by rw [Int.tdiv_eq_ediv_of_nonneg (by omega)]; exact IntWalk.i64_in _ (by omega)
  refine still_tail_drew 11 (by kernel_rfl) (by kernel_rfl) ?_
  simp only [List.take_succ_cons, List.take_zero, List.drop_succ_cons, List.drop_zero]
  repeat still_step
  still_call ((weekday_any n _).mono fun _ _ ⟨h1, h2⟩ => ⟨h1, h2.symm⟩)
  repeat still_step
  refine wpStill_nil ?_
  refine wpList_store_row rfl 42 _ _ rfl w.heap.size #[.int .i64 (ofY n), .int .i64 (ofM n), .int .i64 (ofD n), .int .i64 (s / 3600), .int .i64 (s % 3600 / 60), .int .i64 (s % 60), .int .i64 ((n + 4) % 7)] rfl rfl 42 _ kd (by kernel_rfl) rfl (by simp [Value.oneCell']) ?_
  have ke := setRow_heap _ w.heap.size _ #[.int .i64 (ofY n), .int .i64 (ofM n), .int .i64 (ofD n), .int .i64 (s / 3600), .int .i64 (s % 3600 / 60), .int .i64 (s % 60), .int .i64 ((n + 4) % 7)] _ _ kd
  have q3 := below_setRow q2 (Nat.le_refl _) #[.int .i64 (ofY n), .int .i64 (ofM n), .int .i64 (ofD n), .int .i64 (s / 3600), .int .i64 (s % 3600 / 60), .int .i64 (s % 60), .int .i64 ((n + 4) % 7)]
  generalize World.setRow _ w.heap.size _ = V at ke q3 ⊢
  go_wp2
  exact bodyPost_ret (results_cell_row2 Tryd.results69 _ V w.heap.size _ _ _ _ rfl ke Tryd.underlying42 rfl (by kernel_rfl)) rfl ⟨rfl, q3⟩

/-- What Split answers, in package stamp as in the reference. -/
def okT (t : Int) : Bool := decide (0 ≤ t) && decide (t < 13569465600)
theorem okT_iff {t : Int} : okT t = true ↔ 0 ≤ t ∧ t < 13569465600 := by unfold okT; simp
def clockV (t : Int) : Value := if okT t = true then
  .agg #[.int .i64 (ofY (t / 86400)), .int .i64 (ofM (t / 86400)), .int .i64 (ofD (t / 86400)), .int .i64 (t % 86400 / 3600), .int .i64 (t % 86400 % 3600 / 60), .int .i64 (t % 86400 % 60), .int .i64 ((t / 86400 + 4) % 7)]
  else .agg #[.int .i64 0, .int .i64 0, .int .i64 0, .int .i64 0, .int .i64 0, .int .i64 0, .int .i64 0]
def clockE (t : Int) : Int := if okT t = true then 0 else 50

/-- A clock that may be: its moment. -/
theorem moment_yes (y m d h mi s wd : Int) (w : World) (hm : mayB y m d = true) (hr : rngB h mi s = true) :
    Calls Tryd.prog 83 #[.agg #[.int .i64 y, .int .i64 m, .int .i64 d, .int .i64 h, .int .i64 mi, .int .i64 s, .int .i64 wd]] w fun e w' => e = .returned (.int .i64 (momI y m d h mi s)) ∧ Below w.heap.size w w' := by
  have c := fun W => days_any y m d W
  unfold daysV daysE at c
  rw [hm, if_pos rfl, if_pos rfl] at c
  have C := Lib.hid c; clear c
  have hn := num_range hm
  obtain ⟨a1, a2, a3, a4, a5, a6⟩ := rngB_iff.1 hr
  unfold momI
  obtain ⟨n0, n1⟩ := hn
  generalize numI y m d = n at *
  clear hr hm
  go_enter Tryd.func83, Tryd.ntmps83
  go_wp2_with (go_at_call 90; refine (C.out _).mono ?_; rintro e w' ⟨rfl, hb⟩; have hc := fun o => hb.cell (p := ⟨w.heap.size, o, none⟩) (by simp))
  go_ret
  exact ⟨rfl, ((Below.refl _ _).alloc (Nat.le_refl _) _).trans (hb.mono (by simp))⟩

theorem smay_nodate (y m d h mi s wd : Int) (w : World) (hm : mayB y m d = false) :
    Calls Tryd.prog 67 #[.agg #[.int .i64 y, .int .i64 m, .int .i64 d, .int .i64 h, .int .i64 mi, .int .i64 s, .int .i64 wd]] w fun e w' => e = .returned (.bool false) ∧ Below w.heap.size w w' := by
  have c := fun W => may_any y m d W
  rw [hm] at c
  have C := Lib.hid c; clear c
  go_enter Tryd.func67, Tryd.ntmps67
  go_wp2_with (go_at_call 82; refine (C.out _).mono ?_; rintro e w' ⟨rfl, hb⟩)
  all_goals
    go_ret
    first
    | exact ⟨rfl, (Below.refl _ _).alloc (Nat.le_refl _) _⟩
    | exact ⟨rfl, ((Below.refl _ _).alloc (Nat.le_refl _) _).trans (hb.mono (by simp))⟩

set_option maxHeartbeats 2000000 in
theorem smay_norng (y m d h mi s wd : Int) (w : World) (hr : rngB h mi s = false) :
    Calls Tryd.prog 67 #[.agg #[.int .i64 y, .int .i64 m, .int .i64 d, .int .i64 h, .int .i64 mi, .int .i64 s, .int .i64 wd]] w fun e w' => e = .returned (.bool false) ∧ Below w.heap.size w w' := by
  have hh : h < 0 ∨ 23 < h ∨ mi < 0 ∨ 59 < mi ∨ s < 0 ∨ 59 < s := by
    have : ¬ (0 ≤ h ∧ h ≤ 23 ∧ 0 ≤ mi ∧ mi ≤ 59 ∧ 0 ≤ s ∧ s ≤ 59) := fun x => by rw [rngB_iff.2 x] at hr; cases hr
    omega
  rcases hh with k | k | k | k | k | k
  all_goals
    go_enter Tryd.func67, Tryd.ntmps67
    go_wp2_with fail
    all_goals
      go_ret
      exact ⟨rfl, (Below.refl _ _).alloc (Nat.le_refl _) _⟩

theorem split_mom (y m d h mi s : Int) (w : World) (hm : mayB y m d = true) (hr : rngB h mi s = true) :
    Calls Tryd.prog 69 #[.int .i64 (momI y m d h mi s)] w fun e w' => e = .returned (.tuple #[.agg #[.int .i64 y, .int .i64 m, .int .i64 d, .int .i64 h, .int .i64 mi, .int .i64 s, .int .i64 ((numI y m d + 4) % 7)], .int .i64 0]) ∧ Below w.heap.size w w' := by
  have r := mom_range hm hr
  have c := split_yes (momI y m d h mi s) w r.1 r.2
  obtain ⟨p1, p2, p3, p4⟩ := mom_parts hm hr
  obtain ⟨o1, o2, o3⟩ := of_num_date hm
  rw [p1, p2, p3, p4, o1, o2, o3] at c
  exact c

set_option maxHeartbeats 2000000 in
theorem smay_in (y m d h mi s wd : Int) (w : World) (hm : mayB y m d = true) (hr : rngB h mi s = true) :
    Calls Tryd.prog 67 #[.agg #[.int .i64 y, .int .i64 m, .int .i64 d, .int .i64 h, .int .i64 mi, .int .i64 s, .int .i64 wd]] w fun e w' => e = .returned (.bool (wd == (numI y m d + 4) % 7)) ∧ Below w.heap.size w w' := by
  have c := fun W => may_any y m d W
  rw [hm] at c
  have C := Lib.hid c; clear c
  have C2 := Lib.hid fun W => moment_yes y m d h mi s wd W hm hr
  have C3 := Lib.hid fun W => split_mom y m d h mi s W hm hr
  obtain ⟨a1, a2, a3, a4, a5, a6⟩ := rngB_iff.1 hr
  obtain ⟨b1, -⟩ := mayB_bds hm
  generalize (numI y m d + 4) % 7 = k at *
  generalize momI y m d h mi s = M at *
  clear hm hr
  cases hk : (wd == k)
  · have hk' : (k == wd) = false := by rw [beq_eq_false_iff_ne] at *; omega
    go_enter Tryd.func67, Tryd.ntmps67
    go_wp2_with fail
    refine (C.out _).mono ?_
    rintro e w1 ⟨rfl, hb1⟩
    obtain ⟨kc1, kz1⟩ := cells_of_new hb1
    have q1 := ((Below.refl w.heap.size w).alloc (Nat.le_refl _) _).trans (hb1.mono (by simp))
    go_wp2_with fail
    refine (C2.out _).mono ?_
    rintro e w2 ⟨rfl, hb2⟩
    have kc2 : ∀ o, w2.cell? ⟨w.heap.size, o, none⟩ = _ := fun o => (hb2.cell (p := ⟨w.heap.size, o, none⟩) kz1).trans (kc1 o)
    have q2 := q1.trans (hb2.mono q1.size)
    have kz2 : w.heap.size < w2.heap.size := Nat.lt_of_lt_of_le kz1 hb2.size
    clear kc1
    go_wp2_with fail
    refine (C3.out _).mono ?_
    rintro e w3 ⟨rfl, hb3⟩
    have kc3 : ∀ o, w3.cell? ⟨w.heap.size, o, none⟩ = _ := fun o => (hb3.cell (p := ⟨w.heap.size, o, none⟩) kz2).trans (kc2 o)
    have q3 := q2.trans (hb3.mono q2.size)
    have kz3 : w.heap.size < w3.heap.size := Nat.lt_of_lt_of_le kz2 hb3.size
    clear kc2
    go_wp2_with fail
    go_ret
    exact ⟨rfl, q3.alloc q3.size _⟩
  · have hk' : k = wd := by rw [beq_iff_eq] at hk; exact hk.symm
    subst hk'
    go_enter Tryd.func67, Tryd.ntmps67
    go_wp2_with fail
    refine (C.out _).mono ?_
    rintro e w1 ⟨rfl, hb1⟩
    obtain ⟨kc1, kz1⟩ := cells_of_new hb1
    have q1 := ((Below.refl w.heap.size w).alloc (Nat.le_refl _) _).trans (hb1.mono (by simp))
    go_wp2_with fail
    refine (C2.out _).mono ?_
    rintro e w2 ⟨rfl, hb2⟩
    have kc2 : ∀ o, w2.cell? ⟨w.heap.size, o, none⟩ = _ := fun o => (hb2.cell (p := ⟨w.heap.size, o, none⟩) kz1).trans (kc1 o)
    have q2 := q1.trans (hb2.mono q1.size)
    have kz2 : w.heap.size < w2.heap.size := Nat.lt_of_lt_of_le kz1 hb2.size
    clear kc1
    go_wp2_with fail
    refine (C3.out _).mono ?_
    rintro e w3 ⟨rfl, hb3⟩
    have kc3 : ∀ o, w3.cell? ⟨w.heap.size, o, none⟩ = _ := fun o => (hb3.cell (p := ⟨w.heap.size, o, none⟩) kz2).trans (kc2 o)
    have q3 := q2.trans (hb3.mono q2.size)
    have kz3 : w.heap.size < w3.heap.size := Nat.lt_of_lt_of_le kz2 hb3.size
    clear kc2
    go_wp2_with fail
    go_ret
    exact ⟨rfl, q3.alloc q3.size _⟩

theorem smay_any (y m d h mi s wd : Int) (w : World) :
    Calls Tryd.prog 67 #[.agg #[.int .i64 y, .int .i64 m, .int .i64 d, .int .i64 h, .int .i64 mi, .int .i64 s, .int .i64 wd]] w fun e w' => e = .returned (.bool (clkB y m d h mi s wd)) ∧ Below w.heap.size w w' := by
  unfold clkB
  cases hm : mayB y m d
  · exact smay_nodate y m d h mi s wd w hm
  · cases hr : rngB h mi s
    · exact smay_norng y m d h mi s wd w hr
    · exact smay_in y m d h mi s wd w hm hr
end Go.Proofs.YthigmjjafilbcaaDoor
