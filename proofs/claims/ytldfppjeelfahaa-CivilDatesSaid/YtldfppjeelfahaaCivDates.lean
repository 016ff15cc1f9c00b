/- CivilDates: which dates may be, their days, and how long years and months are, is the document's. No condition. -/
import Derived.Test.YtldfppjeelfahaaCivK
import Derived.Test.YtldfppjeelfahaaPost
import Derived.Lib.SmallJoins
namespace Go.Proofs.Ytldfppjeelfahaa.civilDates
open Go.ChangeShapes Go.WideShapes Go.ChangeAt Go.RowKit Go.Joins
set_option linter.unusedVariables false

theorem own : ownKnob Try.prog.godebug = none := by kernel_rfl
theorem laidOut : laidOutB Try.prog = true := by kernel_rfl
theorem cellsD : Try.prog.cellsOf 23 = 3 := by kernel_rfl

theorem held3 {w W w' : World} {b : Nat} {x y z : Value} (hb : Below W.heap.size W w')
    (h : W.cell? ⟨b, 0, none⟩ = some x ∧ W.cell? ⟨b, 1, none⟩ = some y ∧ W.cell? ⟨b, 2, none⟩ = some z ∧ b < W.heap.size ∧ Below w.heap.size w W) :
    w'.cell? ⟨b, 0, none⟩ = some x ∧ w'.cell? ⟨b, 1, none⟩ = some y ∧ w'.cell? ⟨b, 2, none⟩ = some z ∧ b < w'.heap.size ∧ Below w.heap.size w w' :=
  ⟨(hb.cell h.2.2.2.1).trans h.1, (hb.cell h.2.2.2.1).trans h.2.1, (hb.cell h.2.2.2.1).trans h.2.2.1, Nat.lt_of_lt_of_le h.2.2.2.1 hb.size, h.2.2.2.2.trans (hb.mono h.2.2.2.2.size)⟩

set_option maxHeartbeats 4000000 in
theorem walk (y m d : Int) (w : World) :
    Calls Try.prog 3 #[.agg #[.int .i64 y, .int .i64 m, .int .i64 d]] w fun e w' => e = .returned (.bool true) ∧ Below w.heap.size w w' := by
  go_enter Try.func3, Try.ntmps3
  go_wp2_with fail
  refine (days_any _ _ _ _).mono ?_
  rintro e w1 ⟨rfl, hb1⟩
  have s1 := held3 (w := w) (b := w.heap.size) (x := .int .i64 y) (y := .int .i64 m) (z := .int .i64 d) hb1 ⟨by simp [go_sem], by simp [go_sem], by simp [go_sem], by simp, (Below.refl _ _).alloc (Nat.le_refl _) _⟩
  have hc1 := fun o => hb1.cell (p := ⟨w.heap.size, o, none⟩) (by simp)
  go_wp2_with fail
  refine (refDays_any _ _ _ _).mono ?_
  rintro e w2 ⟨rfl, hb2⟩
  have s2 := held3 hb2 s1
  clear hc1 s1
  go_wp2_with fail
  go_region_held3 (fun w' => w'.cell? ⟨w.heap.size, 0, none⟩ = some (.int .i64 y) ∧ w'.cell? ⟨w.heap.size, 1, none⟩ = some (.int .i64 m) ∧ w'.cell? ⟨w.heap.size, 2, none⟩ = some (.int .i64 d) ∧ w.heap.size < w'.heap.size ∧ Below w.heap.size w w') 
    (first | assumption | exact ⟨s2.1, s2.2.1, s2.2.2.1, s2.2.2.2.1, s2.2.2.2.2.drew⟩ | exact held3 (by assumption) (by assumption))
    (first | (go_at_call 9; refine (may_any _ _ _ _).mono ?_; rintro e w' ⟨rfl, hb⟩)
           | (go_at_call 10; refine (refMay_any _ _ _ _).mono ?_; rintro e w' ⟨rfl, hb⟩)
           | (go_at_call 11; refine (long_any _ _ _).mono ?_; rintro e w' ⟨rfl, hb⟩)
           | (go_at_call 12; refine (refLong_any _ _ _).mono ?_; rintro e w' ⟨rfl, rfl⟩)
           | (go_at_call 13; refine (leap_any _ _).mono ?_; rintro e w' ⟨rfl, hb⟩)
           | (go_at_call 14; refine (refLeap_any _ _).mono ?_; rintro e w' ⟨rfl, rfl⟩)
           | (go_at_call 15; refine (known_any _).mono ?_; rintro e w' ⟨rfl, hb⟩))
  go_wp2
  go_ret
  exact ⟨rfl, (‹_ ∧ _› : _ ∧ _ ∧ _ ∧ _ ∧ Below w.heap.size w _).2.2.2.2⟩

theorem opened (H : Type) (enc : TypeId × Value → H) (W : World) (base : Nat) (args : Array Value) (ds gs : List (DataW H)) (before : List MemPlace)
    (hval : ∀ (j : Nat) t v, Try.f3.params[j]? = some t → args[j]? = some v → Value.okWide Try.prog W .any base t v)
    (hW : DataW.Whole enc Try.prog Try.f3.params.toList Rows.civilDatesSpec.vars false W args.toList ds gs before) :
    Calls Try.prog 3 args W fun e w' => e = .returned (.bool true) ∧ Below W.heap.size W w' := by
  obtain ⟨p, q, hA, hV, rfl, hfz, hnd⟩ := hW
  rw [Try.params3] at hA hval
  obtain ⟨v0, vs0, d0, ds0, p0, q0, hargs, rfl, rfl, h0, r0⟩ := trodAll_cons hA
  obtain ⟨rfl, rfl, rfl⟩ := trodAll_nil r0
  obtain rfl : args = #[v0] := by cases args; simp_all
  obtain ⟨c0, c1, c2, y0, y1, y2, k, rfl, _, _, g0, g1, g2⟩ := open_agg3 Try.underlying23 (by kernel_rfl) cellsD (hval 0 23 v0 rfl rfl) h0
  obtain ⟨y, e0, _, _⟩ := DataW.trod_int Try.underlying3 g0
  obtain ⟨m, e1, _, _⟩ := DataW.trod_int Try.underlying3 g1
  obtain ⟨d, e2, _, _⟩ := DataW.trod_int Try.underlying3 g2
  simp at e0 e1 e2
  subst e0 e1 e2
  exact walk y m d W

set_option maxRecDepth 100000 in
theorem lifted (os : Os) (started : os.Started) (H : Type) (enc : TypeId × Value → H) :
    ReturnsInHanded {} Try.checked os 3 .any (Rows.civilDatesSpec.pre6 enc Try.prog Try.f3 Rows.civilDatesRow.domain false) (Rows.civilDatesSpec.post enc Try.prog Try.f3 false true false false) := by
  refine returnsInHanded_of_change (C := Try.checked) own started (by kernel_rfl) Try.func3
    (ChangeSpec.witness6 (enc := enc) (C := Try.checked) false ⟨#[], #[.agg #[.int .i64 0, .int .i64 0, .int .i64 0]], []⟩ 8 (by kernel_rfl) (by kernel_rfl) (by kernel_rfl) (by kernel_rfl)) ?_
  intro W base args ds gs before hval hW hcnd hh
  refine (opened H enc W base args ds gs before hval hW).mono fun e W' ⟨he, hg⟩ => ?_
  subst he
  exact ⟨_, rfl, law_post hW rfl laidOut (by kernel_rfl) rfl Try.underlying4 (fun l hl => by match l, hl with | [d0], _ => rfl) hg⟩

theorem over : Rows.civilDatesRow.holds Try.pinned (OpenSpec.ofChange Rows.civilDatesSpec) :=
  OpenClaim.holds_of_wide 3 Try.f3 rfl rfl rfl rfl rfl rfl rfl ⟨rfl, rfl, rfl, rfl, rfl⟩ rfl rfl rfl rfl rfl (by kernel_rfl) Try.func3 (by kernel_rfl)
    (of_decide_eq_true (by kernel_rfl)) (by unfold Func.isWrapper; first | (rw [if_pos (by decide +kernel)]; kernel_rfl) | (rw [if_neg (by decide +kernel)]; exact ⟨rfl, rfl⟩))
    (fun os started H enc _ => lifted os started H enc)

/-- THE STATEMENT. -/
theorem proved : Rows.CivilDatesSaid :=
  over
#print axioms proved
end Go.Proofs.Ytldfppjeelfahaa.civilDates
