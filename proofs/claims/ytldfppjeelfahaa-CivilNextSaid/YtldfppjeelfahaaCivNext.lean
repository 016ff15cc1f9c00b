/- CivilNext: dates and days are one to one; the next day is the next one of the month, the first one of the next month, or of the next year, and of the week. No condition. -/
import Derived.Test.YtldfppjeelfahaaCivK
import Derived.Test.YtldfppjeelfahaaPost
import Derived.Lib.SmallJoins
import Derived.RegionTactic
namespace Go.Proofs.Ytldfppjeelfahaa.civilNext
open Go.ChangeShapes Go.WideShapes Go.ChangeAt Go.RowKit Go.Joins
set_option linter.unusedVariables false

theorem own : ownKnob Try.prog.godebug = none := by kernel_rfl
theorem laidOut : laidOutB Try.prog = true := by kernel_rfl

theorem out1 (n : Int) (w : World) (h : n < 0 ∨ 157053 ≤ n) :
    Calls Try.prog 5 #[.int .i64 n] w fun e w' => e = .returned (.bool true) ∧ Below w.heap.size w w' := by
  rcases h with h | h
  · have h2 : decide (n < 0) = true := decide_eq_true h
    go_enter Try.func5, Try.ntmps5
    go_wp2_with (go_at_call 15; refine (known_any _).mono ?_; rintro e w1 ⟨rfl, hb1⟩)
    go_ret
    exact ⟨rfl, hb1⟩
  · have h2 : decide (n < 0) = false := decide_eq_false (by omega)
    have h3 : decide (157053 ≤ n) = true := decide_eq_true h
    go_enter Try.func5, Try.ntmps5
    go_wp2_with (go_at_call 15; refine (known_any _).mono ?_; rintro e w1 ⟨rfl, hb1⟩)
    go_ret
    exact ⟨rfl, hb1⟩

theorem cells_of_new {w w' : World} {X : Array Value} {T : TypeId} (hb : Below (w.alloc (.cells X T)).heap.size (w.alloc (.cells X T)) w') :
    (∀ o, w'.cell? ⟨w.heap.size, o, none⟩ = X[o]?) ∧ w.heap.size < w'.heap.size := by
  refine ⟨fun o => (hb.cell (p := ⟨w.heap.size, o, none⟩) (by simp)).trans (by simp [go_sem]), by have := hb.size; simp at this; omega⟩

set_option maxHeartbeats 4000000 in
theorem core (n y m d y' m' d' L : Int) (w : World) (h0 : 0 ≤ n) (h1 : n < 157053) (d0 : 1 ≤ d) (d1 : d ≤ 31) (hm : m ≤ 12) (hm1 : 1 ≤ m) (hy : y ≤ 2399) (hy0 : 0 ≤ y)
    (hcase : Hid (d + 1 ≤ L ∧ y' = y ∧ m' = m ∧ d' = d + 1 ∨ d = L ∧ m ≤ 11 ∧ y' = y ∧ m' = m + 1 ∧ d' = 1 ∨ d = L ∧ m = 12 ∧ y' = y + 1 ∧ m' = 1 ∧ d' = 1))
    (c1 : Hid (∀ W, Calls Try.prog 16 #[.int .i64 n] W fun e w' => e = .returned (.tuple #[.agg #[.int .i64 y, .int .i64 m, .int .i64 d], .int .i64 0]) ∧ Below W.heap.size W w'))
    (c2 : Hid (∀ W, Calls Try.prog 16 #[.int .i64 (n + 1)] W fun e w' => e = .returned (.tuple #[.agg #[.int .i64 y', .int .i64 m', .int .i64 d'], .int .i64 0]) ∧ Below W.heap.size W w'))
    (c3 : Hid (∀ W, Calls Try.prog 7 #[.agg #[.int .i64 y, .int .i64 m, .int .i64 d]] W fun e w' => e = .returned (.tuple #[.int .i64 n, .int .i64 0]) ∧ Below W.heap.size W w'))
    (c4 : Hid (∀ W, Calls Try.prog 7 #[.agg #[.int .i64 y', .int .i64 m', .int .i64 d']] W fun e w' => e = .returned (.tuple #[.int .i64 (n + 1), .int .i64 0]) ∧ Below W.heap.size W w'))
    (c5 : Hid (∀ W, Calls Try.prog 9 #[.agg #[.int .i64 y, .int .i64 m, .int .i64 d]] W fun e w' => e = .returned (.bool true) ∧ Below W.heap.size W w'))
    (c6 : Hid (∀ W, Calls Try.prog 11 #[.int .i64 y, .int .i64 m] W fun e w' => e = .returned (.int .i64 L) ∧ Below W.heap.size W w')) :
    Calls Try.prog 5 #[.int .i64 n] w fun e w' => e = .returned (.bool true) ∧ Below w.heap.size w w' := by
  have h2 : decide (n < 0) = false := decide_eq_false (by omega)
  have h3 : decide (157053 ≤ n) = false := decide_eq_false (by omega)
  obtain ⟨k, hk⟩ : ∃ k, (n + 4) % 7 = k := ⟨_, rfl⟩
  have k0 : 0 ≤ k := by omega
  have k6 : k ≤ 6 := by omega
  have c7 := fun W => weekday_any n W
  have c8 := fun W => weekday_any (n + 1) W
  rw [hk] at c7
  rw [show (n + 1 + 4) % 7 = (k + 1) % 7 by omega] at c8
  have C7 := Lib.hid c7; clear c7
  have C8 := Lib.hid c8; clear c8 hk
  go_enter Try.func5, Try.ntmps5
  go_wp2_with fail
  refine (known_any _).mono ?_
  rintro e w1 ⟨rfl, hb1⟩
  go_wp2_with fail
  refine (c1.out _).mono ?_
  rintro e w2 ⟨rfl, hb2⟩
  have q2 := hb1.trans (hb2.mono hb1.size)
  go_wp2_with fail
  refine (c2.out _).mono ?_
  rintro e w3 ⟨rfl, hb3⟩
  obtain ⟨ka3, kz3⟩ := cells_of_new hb3
  have q3 := (q2.alloc q2.size _).trans (hb3.mono (by simp; exact Nat.le_succ_of_le q2.size))
  go_wp2_with fail
  refine (c3.out _).mono ?_
  rintro e w4 ⟨rfl, hb4⟩
  obtain ⟨kb4, kz4⟩ := cells_of_new hb4
  have q4 := (q3.alloc q3.size _).trans (hb4.mono (by simp; exact Nat.le_succ_of_le q3.size))
  have ka4 : ∀ o, w4.cell? ⟨w2.heap.size, o, none⟩ = _ := fun o => (hb4.cell (p := ⟨w2.heap.size, o, none⟩) (by simp; omega)).trans ((World.cell?_alloc_lt _ _ _ kz3).trans (ka3 o))
  go_wp2_with fail
  refine (c4.out _).mono ?_
  rintro e w5 ⟨rfl, hb5⟩
  have q5 := q4.trans (hb5.mono q4.size)
  have kb5 : ∀ o, w5.cell? ⟨w3.heap.size, o, none⟩ = _ := fun o => (hb5.cell (p := ⟨w3.heap.size, o, none⟩) kz4).trans (kb4 o)
  have ka5 : ∀ o, w5.cell? ⟨w2.heap.size, o, none⟩ = _ := fun o => (hb5.cell (p := ⟨w2.heap.size, o, none⟩) (by show w2.heap.size < w4.heap.size; omega)).trans (ka4 o)
  clear ka3 ka4 kb4
  go_wp2_with fail
  refine (c5.out _).mono ?_
  rintro e w6 ⟨rfl, hb6⟩
  have q6 := q5.trans (hb6.mono q5.size)
  go_wp2_with fail
  refine (C8.out _).mono ?_
  rintro e w7 ⟨rfl, rfl⟩
  go_wp2_with fail
  refine (C7.out _).mono ?_
  rintro e w8 ⟨rfl, rfl⟩
  have kb6 : ∀ o, w6.cell? ⟨w3.heap.size, o, none⟩ = _ := fun o => (hb6.cell (p := ⟨w3.heap.size, o, none⟩) (Nat.lt_of_lt_of_le kz4 hb5.size)).trans (kb5 o)
  have ka6 : ∀ o, w6.cell? ⟨w2.heap.size, o, none⟩ = _ := fun o => (hb6.cell (p := ⟨w2.heap.size, o, none⟩) (Nat.lt_of_lt_of_le (by show w2.heap.size < w4.heap.size; omega) hb5.size)).trans (ka5 o)
  have z6 : w4.heap.size ≤ w6.heap.size := Nat.le_trans hb5.size hb6.size
  clear ka5 kb5
  go_wp2_with fail
  have kA : ∀ o, (w6.alloc (.cells #[.int .i64 y, .int .i64 m, .int .i64 (d + 1)] 23)).cell? ⟨w2.heap.size, o, none⟩ = _ := fun o => (World.cell?_alloc_lt _ _ _ (by show w2.heap.size < _; omega)).trans (ka6 o)
  have kB : ∀ o, (w6.alloc (.cells #[.int .i64 y, .int .i64 m, .int .i64 (d + 1)] 23)).cell? ⟨w3.heap.size, o, none⟩ = _ := fun o => (World.cell?_alloc_lt _ _ _ (by show w3.heap.size < _; omega)).trans (kb6 o)
  have kN : ∀ o, (w6.alloc (.cells #[.int .i64 y, .int .i64 m, .int .i64 (d + 1)] 23)).cell? ⟨w6.heap.size, o, none⟩ = (#[.int .i64 y, .int .i64 m, .int .i64 (d + 1)] : Array Value)[o]? := fun o => by simp [go_sem]
  have kF : ∀ o, (w6.alloc (.cells #[.int .i64 y, .int .i64 m, .int .i64 (d + 1)] 23)).frozen? ⟨w6.heap.size, o, none⟩ = false := fun o => by simp [go_sem]
  have kS : (w6.alloc (.cells #[.int .i64 y, .int .i64 m, .int .i64 (d + 1)] 23)).heap.size = w6.heap.size + 1 := by simp
  have q7 := q6.alloc q6.size (.cells #[.int .i64 y, .int .i64 m, .int .i64 (d + 1)] 23)
  generalize w6.alloc (.cells #[.int .i64 y, .int .i64 m, .int .i64 (d + 1)] 23) = W at *
  have za : w2.heap.size < W.heap.size := by omega
  have zb : w3.heap.size < W.heap.size := by omega
  have zn : w6.heap.size < W.heap.size := by omega
  have zab : w2.heap.size ≠ w6.heap.size := by omega
  have zbn : w3.heap.size ≠ w6.heap.size := by omega
  have zwn : w.heap.size ≤ w6.heap.size := q6.size
  generalize w2.heap.size = A at *
  generalize w3.heap.size = B at *
  generalize w6.heap.size = N at *
  clear hb1 hb2 hb3 hb4 hb5 hb6 q2 q3 q4 q5 q6 kz3 kz4 z6 ka6 kb6 kS
  have kA0 := kA 0
  have kA1 := kA 1
  have kN2 := kN 2
  simp at kA0 kA1 kN2
  go_region_held3 (fun w' => w'.cell? ⟨N, 2, none⟩ = some (.int .i64 (d + 1)) ∧ w'.cell? ⟨A, 0, none⟩ = some (.int .i64 y) ∧ w'.cell? ⟨A, 1, none⟩ = some (.int .i64 m) ∧ Below W.heap.size W w')
    (first | assumption | exact ⟨kN2, kA0, kA1, (Below.refl _ _).drew⟩ | exact ⟨(hb.cell (p := ⟨N, 2, none⟩) zn).trans kN2, (hb.cell (p := ⟨A, 0, none⟩) za).trans kA0, (hb.cell (p := ⟨A, 1, none⟩) za).trans kA1, (Below.refl _ _).drew.trans hb⟩)
    (first | (go_at_call 11; refine (c6.out _).mono ?_; rintro e w' ⟨rfl, hb⟩))
  have jA : ∀ o, w'.cell? ⟨A, o, none⟩ = _ := fun o => (hb.cell (p := ⟨A, o, none⟩) za).trans (kA o)
  have jB : ∀ o, w'.cell? ⟨B, o, none⟩ = _ := fun o => (hb.cell (p := ⟨B, o, none⟩) zb).trans (kB o)
  have jN : ∀ o, w'.cell? ⟨N, o, none⟩ = _ := fun o => (hb.cell (p := ⟨N, o, none⟩) zn).trans (kN o)
  have jF : ∀ o, w'.frozen? ⟨N, o, none⟩ = false := fun o => (hb.frozen (p := ⟨N, o, none⟩) zn).trans (kF o)
  have q9 := q7.trans ((Below.refl _ _).drew.trans (hb.mono q7.size))
  clear kA kB kN kF hb q7 kA0 kA1 kN2 zn
  rcases hcase.out with ⟨hc, rfl, rfl, rfl⟩ | ⟨hc, hc1, rfl, rfl, rfl⟩ | ⟨hc, hc1, rfl, rfl, rfl⟩
  · clear hcase
    have hd : decide (L < d + 1) = false := decide_eq_false (by omega)
    go_wp2
    go_ret
    exact ⟨rfl, q9⟩
  · clear hcase
    have hd : L < d + 1 := by omega
    have HC := Lib.hid hc; clear hc
    go_wp2
    go_region
    go_wp2
    go_ret
    exact ⟨rfl, by repeat (first | exact q9 | refine Below.drew ?_ | refine Below.setCell ?_ zwn _)⟩
  · clear hcase
    subst hc1
    have hd : L < d + 1 := by omega
    have HC := Lib.hid hc; clear hc
    go_wp2
    go_region
    go_wp2
    have lA : ∀ o, ((w'.setCell ⟨N, 2, none⟩ (.int .i64 1)).setCell ⟨N, 1, none⟩ (.int .i64 13)).drew.cell? ⟨A, o, none⟩ = _ := fun o => (World.cell?_setCell_other _ _ _ _ (fun e => zab (by have := congrArg Addr.block e; dsimp only at this; omega))).trans ((World.cell?_setCell_other _ _ _ _ (fun e => zab (by have := congrArg Addr.block e; dsimp only at this; omega))).trans (jA o))
    have lB : ∀ o, ((w'.setCell ⟨N, 2, none⟩ (.int .i64 1)).setCell ⟨N, 1, none⟩ (.int .i64 13)).drew.cell? ⟨B, o, none⟩ = _ := fun o => (World.cell?_setCell_other _ _ _ _ (fun e => zbn (by have := congrArg Addr.block e; dsimp only at this; omega))).trans ((World.cell?_setCell_other _ _ _ _ (fun e => zbn (by have := congrArg Addr.block e; dsimp only at this; omega))).trans (jB o))
    have n0 : w'.cell? ⟨N, 0, none⟩ = some (.int .i64 y) := jN 0
    have n1 : w'.cell? ⟨N, 1, none⟩ = some (.int .i64 12) := jN 1
    have n2 : w'.cell? ⟨N, 2, none⟩ = some (.int .i64 (d + 1)) := jN 2
    have lN0 : ((w'.setCell ⟨N, 2, none⟩ (.int .i64 1)).setCell ⟨N, 1, none⟩ (.int .i64 13)).drew.cell? ⟨N, 0, none⟩ = some (.int .i64 y) := by go_simp
    have lN1 : ((w'.setCell ⟨N, 2, none⟩ (.int .i64 1)).setCell ⟨N, 1, none⟩ (.int .i64 13)).drew.cell? ⟨N, 1, none⟩ = some (.int .i64 13) := by go_simp
    have lN2 : ((w'.setCell ⟨N, 2, none⟩ (.int .i64 1)).setCell ⟨N, 1, none⟩ (.int .i64 13)).drew.cell? ⟨N, 2, none⟩ = some (.int .i64 1) := by go_simp
    have lF : ∀ o, ((w'.setCell ⟨N, 2, none⟩ (.int .i64 1)).setCell ⟨N, 1, none⟩ (.int .i64 13)).drew.frozen? ⟨N, o, none⟩ = false := by go_simp
    have qq := ((q9.setCell (p := ⟨N, 2, none⟩) zwn (.int .i64 1)).setCell (p := ⟨N, 1, none⟩) zwn (.int .i64 13)).drew
    generalize ((w'.setCell ⟨N, 2, none⟩ (.int .i64 1)).setCell ⟨N, 1, none⟩ (.int .i64 13)).drew = V at *
    clear jA jB jN jF n0 n1 n2 q9
    go_region
    go_wp2
    go_ret
    exact ⟨rfl, by repeat (first | exact qq | refine Below.drew ?_ | refine Below.setCell ?_ zwn _)⟩

theorem walk (n : Int) (w : World) :
    Calls Try.prog 5 #[.int .i64 n] w fun e w' => e = .returned (.bool true) ∧ Below w.heap.size w w' := by
  by_cases h : n < 0 ∨ 157053 ≤ n
  · exact out1 n w h
  · have h0 : 0 ≤ n := by omega
    have h1 : n < 157053 := by omega
    obtain ⟨y, m, d, e1, e2, e3, hm, hn, hc⟩ := of_next n h0 h1
    obtain ⟨b1, b2, b3, b4, b5, b6, b7⟩ := mayB_bds hm
    obtain ⟨hm', hd'⟩ := of_num (n + 1) (by omega) (by omega)
    rw [daysA_num hm'] at hd'
    obtain ⟨y', q1⟩ : ∃ y', ofY (n + 1) = y' := ⟨_, rfl⟩
    obtain ⟨m', q2⟩ : ∃ m', ofM (n + 1) = m' := ⟨_, rfl⟩
    obtain ⟨d', q3⟩ : ∃ d', ofD (n + 1) = d' := ⟨_, rfl⟩
    rw [q1, q2, q3] at hc hm' hd'
    have i0 : inB n = true := inB_iff.2 ⟨h0, by omega⟩
    have i1 : inB (n + 1) = true := inB_iff.2 ⟨by omega, by omega⟩
    refine core n y m d y' m' d' (longI y m) w h0 h1 b5 b6 b4 b3 b2 (by omega) (Lib.hid hc) (Lib.hid fun W => ?_) (Lib.hid fun W => ?_) (Lib.hid fun W => ?_) (Lib.hid fun W => ?_) (Lib.hid fun W => ?_) (Lib.hid fun W => ?_)
    · have := of_any n W
      unfold ofYV ofMV ofDV ofE at this
      rw [i0, if_pos rfl, if_pos rfl, if_pos rfl, if_pos rfl, e1, e2, e3] at this
      exact this
    · have := of_any (n + 1) W
      unfold ofYV ofMV ofDV ofE at this
      rw [i1, if_pos rfl, if_pos rfl, if_pos rfl, if_pos rfl, q1, q2, q3] at this
      exact this
    · have := days_any y m d W
      unfold daysV daysE at this
      rw [hm, if_pos rfl, if_pos rfl, hn] at this
      exact this
    · have := days_any y' m' d' W
      unfold daysV daysE at this
      rw [hm', if_pos rfl, if_pos rfl, hd'] at this
      exact this
    · have := may_any y m d W
      rw [hm] at this
      exact this
    · exact long_any y m W

theorem opened (H : Type) (enc : TypeId × Value → H) (W : World) (base : Nat) (args : Array Value) (ds gs : List (DataW H)) (before : List MemPlace)
    (hval : ∀ (j : Nat) t v, Try.f5.params[j]? = some t → args[j]? = some v → Value.okWide Try.prog W .any base t v)
    (hW : DataW.Whole enc Try.prog Try.f5.params.toList Rows.civilNextSpec.vars false W args.toList ds gs before) :
    Calls Try.prog 5 args W fun e w' => e = .returned (.bool true) ∧ Below W.heap.size W w' := by
  obtain ⟨p, q, hA, hV, rfl, hfz, hnd⟩ := hW
  rw [Try.params5] at hA hval
  obtain ⟨v0, vs0, d0, ds0, p0, q0, hargs, rfl, rfl, h0, r0⟩ := trodAll_cons hA
  obtain ⟨rfl, rfl, rfl⟩ := trodAll_nil r0
  obtain rfl : args = #[v0] := by cases args; simp_all
  obtain ⟨a0, rfl, _, _, w0⟩ := open_int Try.underlying3 (hval 0 3 v0 rfl rfl) h0
  exact walk a0 W

set_option maxRecDepth 100000 in
theorem lifted (os : Os) (started : os.Started) (H : Type) (enc : TypeId × Value → H) :
    ReturnsInHanded {} Try.checked os 5 .any (Rows.civilNextSpec.pre6 enc Try.prog Try.f5 Rows.civilNextRow.domain false) (Rows.civilNextSpec.post enc Try.prog Try.f5 false true false false) := by
  refine returnsInHanded_of_change (C := Try.checked) own started (by kernel_rfl) Try.func5
    (ChangeSpec.witness6 (enc := enc) (C := Try.checked) false ⟨#[], #[.int .i64 0], []⟩ 8 (by kernel_rfl) (by kernel_rfl) (by kernel_rfl) (by kernel_rfl)) ?_
  intro W base args ds gs before hval hW hcnd hh
  refine (opened H enc W base args ds gs before hval hW).mono fun e W' ⟨he, hg⟩ => ?_
  subst he
  exact ⟨_, rfl, law_post hW rfl laidOut (by kernel_rfl) rfl Try.underlying4 (fun l hl => by match l, hl with | [d0], _ => rfl) hg⟩

theorem over : Rows.civilNextRow.holds Try.pinned (OpenSpec.ofChange Rows.civilNextSpec) :=
  OpenClaim.holds_of_wide 5 Try.f5 rfl rfl rfl rfl rfl rfl rfl ⟨rfl, rfl, rfl, rfl, rfl⟩ rfl rfl rfl rfl rfl (by kernel_rfl) Try.func5 (by kernel_rfl)
    (of_decide_eq_true (by kernel_rfl)) (by unfold Func.isWrapper; first | (rw [if_pos (by decide +kernel)]; kernel_rfl) | (rw [if_neg (by decide +kernel)]; exact ⟨rfl, rfl⟩))
    (fun os started H enc _ => lifted os started H enc)

/-- THE STATEMENT. -/
theorem proved : Rows.CivilNextSaid :=
  over
#print axioms proved
end Go.Proofs.Ytldfppjeelfahaa.civilNext
