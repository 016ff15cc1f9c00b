/- CivilOrder: dates are in order as their days are; a year has 365 days, or 366, and its months as many together; 400 years later it is the same day of the week. No condition. -/
import Derived.Test.YtldfppjeelfahaaCivK
import Derived.Test.YtldfppjeelfahaaPost
import Derived.Deep.DeepCutAuto
namespace Go.Proofs.Ytldfppjeelfahaa.civilOrder
open Go.ChangeShapes Go.WideShapes Go.ChangeAt Go.RowKit
set_option linter.unusedVariables false

theorem own : ownKnob Try.prog.godebug = none := by kernel_rfl
theorem laidOut : laidOutB Try.prog = true := by kernel_rfl

theorem out1 (p q : Int) (w : World) (h : p < 0 ∨ q < 0 ∨ 157054 ≤ p ∨ 157054 ≤ q) :
    Calls Try.prog 6 #[.int .i64 p, .int .i64 q] w fun e w' => e = .returned (.bool true) ∧ Below w.heap.size w w' := by
  cases h1 : decide (p < 0) <;> cases h2 : decide (q < 0) <;> cases h3 : decide (157054 ≤ p) <;> cases h4 : decide (157054 ≤ q)
  case false.false.false.false => simp at h1 h2 h3 h4; omega
  all_goals
    clear h
    go_enter Try.func6, Try.ntmps6
    go_wp2_with (go_at_call 15; refine (known_any _).mono ?_; rintro e w1 ⟨rfl, hb1⟩)
    go_ret
    exact ⟨rfl, hb1⟩

theorem cells_of_new {w w' : World} {X : Array Value} {T : TypeId} (hb : Below (w.alloc (.cells X T)).heap.size (w.alloc (.cells X T)) w') :
    (∀ o, w'.cell? ⟨w.heap.size, o, none⟩ = X[o]?) ∧ w.heap.size < w'.heap.size := by
  refine ⟨fun o => (hb.cell (p := ⟨w.heap.size, o, none⟩) (by simp)).trans (by simp [go_sem]), by have := hb.size; simp at this; omega⟩

/-- How two dates lie. -/
def Lie (y m d y' m' d' p q : Int) : Prop :=
  y < y' ∧ p < q ∨ y' = y ∧ m < m' ∧ p < q ∨ y' = y ∧ m' = m ∧ d < d' ∧ p < q ∨ y' < y ∧ q ≤ p ∨ y' = y ∧ m' < m ∧ q ≤ p ∨ y' = y ∧ m' = m ∧ d' ≤ d ∧ q ≤ p

theorem lie {y m d y' m' d' : Int} (h : mayB y m d = true) (h' : mayB y' m' d' = true) : Lie y m d y' m' d' (numI y m d) (numI y' m' d') := by
  have a := fun x => num_lt h h' x
  have b := fun x => num_lt h' h x
  unfold Lie
  by_cases c1 : y' = y
  · by_cases c2 : m' = m
    · by_cases c3 : d < d'
      · exact .inr (.inr (.inl ⟨c1, c2, c3, a (.inr ⟨c1.symm, .inr ⟨c2.symm, c3⟩⟩)⟩))
      · refine .inr (.inr (.inr (.inr (.inr ⟨c1, c2, by omega, ?_⟩))))
        by_cases c4 : d' = d
        · rw [c1, c2, c4]; omega
        · have := b (.inr ⟨c1, .inr ⟨c2, by omega⟩⟩); omega
    · by_cases c3 : m < m'
      · exact .inr (.inl ⟨c1, c3, a (.inr ⟨c1.symm, .inl c3⟩)⟩)
      · have c4 : m' < m := by omega
        have := b (.inr ⟨c1, .inl c4⟩)
        exact .inr (.inr (.inr (.inr (.inl ⟨c1, c4, by omega⟩))))
  · by_cases c3 : y < y'
    · exact .inl ⟨c3, a (.inl c3)⟩
    · have c4 : y' < y := by omega
      have := b (.inl c4)
      exact .inr (.inr (.inr (.inl ⟨c4, by omega⟩)))

set_option maxHeartbeats 4000000 in
theorem core (p q y m d y' m' d' : Int) (w : World) (p0 : 0 ≤ p) (p1 : p < 157054) (q0 : 0 ≤ q) (q1 : q < 157054) (hl : Hid (Lie y m d y' m' d' p q))
    (c1 : Hid (∀ W, Calls Try.prog 16 #[.int .i64 p] W fun e w' => e = .returned (.tuple #[.agg #[.int .i64 y, .int .i64 m, .int .i64 d], .int .i64 0]) ∧ Below W.heap.size W w'))
    (c2 : Hid (∀ W, Calls Try.prog 16 #[.int .i64 q] W fun e w' => e = .returned (.tuple #[.agg #[.int .i64 y', .int .i64 m', .int .i64 d'], .int .i64 0]) ∧ Below W.heap.size W w')) :
    Calls Try.prog 6 #[.int .i64 p, .int .i64 q] w fun e w' => e = .returned (.bool true) ∧ Below w.heap.size w w' := by
  have h1 : decide (p < 0) = false := decide_eq_false (by omega)
  have h2 : decide (q < 0) = false := decide_eq_false (by omega)
  have h3 : decide (157054 ≤ p) = false := decide_eq_false (by omega)
  have h4 : decide (157054 ≤ q) = false := decide_eq_false (by omega)
  obtain ⟨k, hk⟩ : ∃ k, (p + 4) % 7 = k := ⟨_, rfl⟩
  have c7 := fun W => weekday_any p W
  have c8 := fun W => weekday_any (p + 146097) W
  have c9 := fun W => weekday_any (p - 7) W
  rw [hk] at c7
  rw [show (p + 146097 + 4) % 7 = k by omega] at c8
  rw [show (p - 7 + 4) % 7 = k by omega] at c9
  have C7 := Lib.hid c7; clear c7
  have C8 := Lib.hid c8; clear c8
  have C9 := Lib.hid c9; clear c9 hk
  go_enter Try.func6, Try.ntmps6
  go_wp2_with fail
  refine (known_any _).mono ?_
  rintro e w1 ⟨rfl, hb1⟩
  go_wp2_with fail
  refine (c1.out _).mono ?_
  rintro e w2 ⟨rfl, hb2⟩
  have q2 := hb1.trans (hb2.mono hb1.size)
  go_wp2_with fail
  refine (c2.out _).mono ?_
  rintro e w3 ⟨rfl, hb3⟩
  obtain ⟨ka3, kz3⟩ := cells_of_new hb3
  have q3 := (q2.alloc q2.size _).trans (hb3.mono (by simp; exact Nat.le_succ_of_le q2.size))
  go_upto_region 7 with (fail)
  have kA : ∀ o, (w3.alloc (.cells #[.int .i64 y', .int .i64 m', .int .i64 d'] 23)).cell? ⟨w2.heap.size, o, none⟩ = _ := fun o => (World.cell?_alloc_lt _ _ _ kz3).trans (ka3 o)
  have kB : ∀ o, (w3.alloc (.cells #[.int .i64 y', .int .i64 m', .int .i64 d'] 23)).cell? ⟨w3.heap.size, o, none⟩ = (#[.int .i64 y', .int .i64 m', .int .i64 d'] : Array Value)[o]? := fun o => by simp [go_sem]
  have zA : w2.heap.size < (w3.alloc (.cells #[.int .i64 y', .int .i64 m', .int .i64 d'] 23)).heap.size := by simp; omega
  have q4 := q3.alloc q3.size (.cells #[.int .i64 y', .int .i64 m', .int .i64 d'] 23)
  generalize w3.alloc (.cells #[.int .i64 y', .int .i64 m', .int .i64 d'] 23) = W at *
  generalize w2.heap.size = A at *
  generalize w3.heap.size = B at *
  obtain ⟨y0, HA⟩ : ∃ y0, Hid (W.cell? ⟨A, 0, none⟩ = some (.int .i64 y0)) := ⟨y, Lib.hid (kA 0)⟩
  have ZA := Lib.hid zA; clear zA
  clear ka3 kz3 hb1 hb2 hb3 q2 q3
  rcases hl.out with ⟨l1, l2⟩ | ⟨rfl, l1, l2⟩ | ⟨rfl, rfl, l1, l2⟩ | ⟨l1, l2⟩ | ⟨rfl, l1, l2⟩ | ⟨rfl, rfl, l1, l2⟩
  case' inr.inr.inr.inl => have l3 : decide (y < y') = false := decide_eq_false (by omega); have l4 : (y == y') = false := beq_eq_false_iff_ne.2 (by omega); have l5 : decide (p < q) = false := decide_eq_false (by omega)
  case' inr.inr.inr.inr.inl => have l3 : decide (m < m') = false := decide_eq_false (by omega); have l4 : (m == m') = false := beq_eq_false_iff_ne.2 (by omega); have l5 : decide (p < q) = false := decide_eq_false (by omega)
  case' inr.inr.inr.inr.inr => have l3 : decide (d < d') = false := decide_eq_false (by omega); have l5 : decide (p < q) = false := decide_eq_false (by omega)
  all_goals
    clear hl
    go_wp2_with fail
    clear kA kB
    go_loopw [10, 11] (fun s i wr => ∃ k : Int, 1 ≤ k ∧ k ≤ 13 ∧ i = .int .i64 k ∧ s = .int .i64 (cum y0 k) ∧ wr.cell? ⟨A, 0, none⟩ = some (.int .i64 y0) ∧ A < wr.heap.size ∧ Below w.heap.size w wr) (fun _ i _ => (13 - intOf i).toNat)
    case atStart => exact ⟨1, by omega, by omega, rfl, by rw [cum_1], HA.out, ZA.out, q4⟩
    case round =>
      obtain ⟨j, j1, j2, rfl, rfl, ja, jz, jq⟩ := hrel
      have cb := cum_bd y0 j j1 j2
      by_cases hj : j ≤ 12
      · have cs := cum_succ (y := y0) j1 hj
        have lb := longI_bd y0 j
        have CS := Lib.hid cs; clear cs
        go_wp2_with (go_at_call 11; refine (long_any _ _ _).mono ?_; rintro e w' ⟨rfl, hb⟩)
        go_roundw
        case rel => exact ⟨j + 1, by omega, by omega, rfl, by rw [CS.out], (hb.cell (p := ⟨A, 0, none⟩) jz).trans ja, Nat.lt_of_lt_of_le jz hb.size, jq.trans (hb.mono jq.size)⟩
        case measure => simp [intOf]; omega
      · have e13 : j = 13 := by omega
        subst e13
        have c13 := cum_13 y0
        cases hlp : leapB y0
        all_goals
          rw [hlp] at c13
          simp only [Bool.false_eq_true, if_false, if_true, Int.add_zero, Int.reduceAdd] at c13
          have L0 := fun W => leap_any y0 W
          rw [hlp] at L0
          have L1 := Lib.hid L0; clear L0 hlp
          go_wp2_with fail
          refine (L1.out _).mono ?_
          rintro e w5 ⟨rfl, hb5⟩
          have q5 := jq.trans (hb5.mono jq.size)
          go_wp2_with fail
          refine (C7.out _).mono ?_
          rintro e w6 ⟨rfl, rfl⟩
          go_wp2_with fail
          refine (C8.out _).mono ?_
          rintro e w6 ⟨rfl, rfl⟩
          go_wp2_with fail
          refine (C7.out _).mono ?_
          rintro e w6 ⟨rfl, rfl⟩
          go_wp2_with fail
          refine (C9.out _).mono ?_
          rintro e w6 ⟨rfl, rfl⟩
          go_wp2_with fail
          go_ret
          exact ⟨rfl, q5⟩

theorem walk (p q : Int) (w : World) :
    Calls Try.prog 6 #[.int .i64 p, .int .i64 q] w fun e w' => e = .returned (.bool true) ∧ Below w.heap.size w w' := by
  by_cases h : p < 0 ∨ q < 0 ∨ 157054 ≤ p ∨ 157054 ≤ q
  · exact out1 p q w h
  · have p0 : 0 ≤ p := by omega
    have p1 : p < 157054 := by omega
    have q0 : 0 ≤ q := by omega
    have q1 : q < 157054 := by omega
    obtain ⟨hm, hd⟩ := of_num p p0 p1
    obtain ⟨hm', hd'⟩ := of_num q q0 q1
    rw [daysA_num hm] at hd
    rw [daysA_num hm'] at hd'
    have hl := lie hm hm'
    rw [hd, hd'] at hl
    exact core p q _ _ _ _ _ _ w p0 p1 q0 q1 (Lib.hid hl) (Lib.hid fun W => of_yes p W p0 p1) (Lib.hid fun W => of_yes q W q0 q1)

theorem opened (H : Type) (enc : TypeId × Value → H) (W : World) (base : Nat) (args : Array Value) (ds gs : List (DataW H)) (before : List MemPlace)
    (hval : ∀ (j : Nat) t v, Try.f6.params[j]? = some t → args[j]? = some v → Value.okWide Try.prog W .any base t v)
    (hW : DataW.Whole enc Try.prog Try.f6.params.toList Rows.civilOrderSpec.vars false W args.toList ds gs before) :
    Calls Try.prog 6 args W fun e w' => e = .returned (.bool true) ∧ Below W.heap.size W w' := by
  obtain ⟨p, q, hA, hV, rfl, hfz, hnd⟩ := hW
  rw [Try.params6] at hA hval
  obtain ⟨v0, vs0, d0, ds0, p0, q0, hargs, rfl, rfl, h0, r0⟩ := trodAll_cons hA
  obtain ⟨v1, vs1, d1, ds1, p1, q1, rfl, rfl, rfl, h1, r1⟩ := trodAll_cons r0
  obtain ⟨rfl, rfl, rfl⟩ := trodAll_nil r1
  obtain rfl : args = #[v0, v1] := by cases args; simp_all
  obtain ⟨a0, rfl, _, _, w0⟩ := open_int Try.underlying3 (hval 0 3 v0 rfl rfl) h0
  obtain ⟨a1, rfl, _, _, w1⟩ := open_int Try.underlying3 (hval 1 3 v1 rfl rfl) h1
  exact walk a0 a1 W

set_option maxRecDepth 100000 in
theorem lifted (os : Os) (started : os.Started) (H : Type) (enc : TypeId × Value → H) :
    ReturnsInHanded {} Try.checked os 6 .any (Rows.civilOrderSpec.pre6 enc Try.prog Try.f6 Rows.civilOrderRow.domain false) (Rows.civilOrderSpec.post enc Try.prog Try.f6 false true false false) := by
  refine returnsInHanded_of_change (C := Try.checked) own started (by kernel_rfl) Try.func6
    (ChangeSpec.witness6 (enc := enc) (C := Try.checked) false ⟨#[], #[.int .i64 0, .int .i64 0], []⟩ 8 (by kernel_rfl) (by kernel_rfl) (by kernel_rfl) (by kernel_rfl)) ?_
  intro W base args ds gs before hval hW hcnd hh
  refine (opened H enc W base args ds gs before hval hW).mono fun e W' ⟨he, hg⟩ => ?_
  subst he
  exact ⟨_, rfl, law_post hW rfl laidOut (by kernel_rfl) rfl Try.underlying4 (fun l hl => by match l, hl with | [d0, d1], _ => rfl) hg⟩

theorem over : Rows.civilOrderRow.holds Try.pinned (OpenSpec.ofChange Rows.civilOrderSpec) :=
  OpenClaim.holds_of_wide 6 Try.f6 rfl rfl rfl rfl rfl rfl rfl ⟨rfl, rfl, rfl, rfl, rfl⟩ rfl rfl rfl rfl rfl (by kernel_rfl) Try.func6 (by kernel_rfl)
    (of_decide_eq_true (by kernel_rfl)) (by unfold Func.isWrapper; first | (rw [if_pos (by decide +kernel)]; kernel_rfl) | (rw [if_neg (by decide +kernel)]; exact ⟨rfl, rfl⟩))
    (fun os started H enc _ => lifted os started H enc)

/-- THE STATEMENT. -/
theorem proved : Rows.CivilOrderSaid :=
  over
#print axioms proved
end Go.Proofs.Ytldfppjeelfahaa.civilOrder
