/- StampClocks: which clocks may be, their moments, and their texts, is the document's. Condition: the library's three tables lie as their initialisers lay them (tied by the card). -/
import Derived.Test.YtldfppjeelfahaaDoorStTie
import Derived.Test.YtldfppjeelfahaaDoorOpen
namespace Go.Proofs.YtldfppjeelfahaaDoor.stampClocks
open Go.ChangeShapes Go.WideShapes Go.ChangeAt Go.RowKit
set_option linter.unusedVariables false

theorem str_same_lit (x : ByteArray) : Op.stringOp .eql x x = pure (.bool true) := str_same x

theorem tx7_next {w w' w2 : World} {v0 v1 v2 v3 v4 v5 v6 : Value} (h : w'.cell? ⟨w.heap.size, 0, none⟩ = some v0 ∧ w'.cell? ⟨w.heap.size, 1, none⟩ = some v1 ∧ w'.cell? ⟨w.heap.size, 2, none⟩ = some v2 ∧ w'.cell? ⟨w.heap.size, 3, none⟩ = some v3 ∧ w'.cell? ⟨w.heap.size, 4, none⟩ = some v4 ∧ w'.cell? ⟨w.heap.size, 5, none⟩ = some v5 ∧ w'.cell? ⟨w.heap.size, 6, none⟩ = some v6 ∧ TxS w w') (hb : Below w'.heap.size w' w2) :
    w2.cell? ⟨w.heap.size, 0, none⟩ = some v0 ∧ w2.cell? ⟨w.heap.size, 1, none⟩ = some v1 ∧ w2.cell? ⟨w.heap.size, 2, none⟩ = some v2 ∧ w2.cell? ⟨w.heap.size, 3, none⟩ = some v3 ∧ w2.cell? ⟨w.heap.size, 4, none⟩ = some v4 ∧ w2.cell? ⟨w.heap.size, 5, none⟩ = some v5 ∧ w2.cell? ⟨w.heap.size, 6, none⟩ = some v6 ∧ TxS w w2 := by
  obtain ⟨h0, h1, h2, h3, h4, h5, h6, hb0, ht, hz⟩ := h
  exact ⟨(hb.cell (p := ⟨w.heap.size, 0, none⟩) hz).trans h0, (hb.cell (p := ⟨w.heap.size, 1, none⟩) hz).trans h1, (hb.cell (p := ⟨w.heap.size, 2, none⟩) hz).trans h2, (hb.cell (p := ⟨w.heap.size, 3, none⟩) hz).trans h3, (hb.cell (p := ⟨w.heap.size, 4, none⟩) hz).trans h4, (hb.cell (p := ⟨w.heap.size, 5, none⟩) hz).trans h5, (hb.cell (p := ⟨w.heap.size, 6, none⟩) hz).trans h6,
    hb0.trans (hb.mono (Nat.le_of_lt hz)), ht.stays hb (Nat.le_refl _), Nat.lt_of_lt_of_le hz hb.size⟩
theorem tx7_tab {w w' : World} {a b c d e f g : Prop} (h : a ∧ b ∧ c ∧ d ∧ e ∧ f ∧ g ∧ TxS w w') : Tab w' := h.2.2.2.2.2.2.2.2.1
theorem tx7_below {w w' : World} {a b c d e f g : Prop} (h : a ∧ b ∧ c ∧ d ∧ e ∧ f ∧ g ∧ TxS w w') : Below w.heap.size w w' := h.2.2.2.2.2.2.2.1

set_option maxHeartbeats 4000000 in
theorem walk (y m d h mi s wd : Int) (w : World) (ht : Tab w) :
    Calls Tryd.prog 4 #[.agg #[.int .i64 y, .int .i64 m, .int .i64 d, .int .i64 h, .int .i64 mi, .int .i64 s, .int .i64 wd]] w fun e w' => e = .returned (.bool true) ∧ Below w.heap.size w w' := by
  have C1 := Lib.hid fun W => join_any y m d h mi s wd W
  have C2 := Lib.hid fun W => refJoin_any y m d h mi s wd W
  have C3 := Lib.hid fun W => smay_any y m d h mi s wd W
  have C4 := Lib.hid fun W hW => text_any y m d h mi s wd W hW
  have C5 := Lib.hid fun W => refText_any y m d h mi s wd W
  have C6 := Lib.hid fun W hW => known_any W hW
  have hs := str_same (bts (textL y m d h mi s wd))
  unfold joinE at C1 C2
  generalize joinV y m d h mi s wd = v at *
  generalize bts (textL y m d h mi s wd) = tx at *
  cases hb : clkB y m d h mi s wd
  all_goals
    rw [hb] at C1 C2 C3
    clear hb
    go_enter Tryd.func4, Tryd.ntmps4
    go_wp2_with fail
    refine (C1.out _).mono ?_
    rintro e w1 ⟨rfl, hb1⟩
    have ka1 := newC hb1
    have q1 := nextA (Below.refl w.heap.size w) hb1
    have kc1 := fun o => ka1.cell o
    have kz1 := ka1.lt
    clear hb1
    go_wp2_with fail
    refine (C2.out _).mono ?_
    rintro e w2 ⟨rfl, hb2⟩
    have ka2 := ka1.over hb2
    have q2 := nextC q1 hb2
    have kc2 := fun o => ka2.cell o
    have kz2 := ka2.lt
    clear hb2 ka1 kc1 kz1 q1
    go_wp2_with fail
    have S0 : TxS w w2 := ⟨q2, ht.stays q2 (Nat.le_refl _), kz2⟩
    go_region_held3 (fun w' => w'.cell? ⟨w.heap.size, 0, none⟩ = some (.int .i64 y) ∧ w'.cell? ⟨w.heap.size, 1, none⟩ = some (.int .i64 m) ∧ w'.cell? ⟨w.heap.size, 2, none⟩ = some (.int .i64 d) ∧ w'.cell? ⟨w.heap.size, 3, none⟩ = some (.int .i64 h) ∧ w'.cell? ⟨w.heap.size, 4, none⟩ = some (.int .i64 mi) ∧ w'.cell? ⟨w.heap.size, 5, none⟩ = some (.int .i64 s) ∧ w'.cell? ⟨w.heap.size, 6, none⟩ = some (.int .i64 wd) ∧ TxS w w')
      (first | exact ⟨kc2 0, kc2 1, kc2 2, kc2 3, kc2 4, kc2 5, kc2 6, S0.drew⟩ | exact hs)
      (first | (go_at_call 14; refine (C3.out _).mono ?_; rintro e w' ⟨rfl, hb⟩; have hs := tx7_next (by assumption) hb)
             | (go_at_call 15; refine (C4.out _ ?_).mono ?_; exact tx7_tab (by assumption); rintro e w' ⟨rfl, hb⟩; have hs := tx7_next (by assumption) hb)
             | (go_at_call 16; refine (C5.out _).mono ?_; rintro e w' ⟨rfl, hb⟩; have hs := tx7_next (by assumption) hb)
             | (go_at_call 11; refine (C6.out _ ?_).mono ?_; exact tx7_tab (by assumption); rintro e w' ⟨rfl, hb⟩; have hs := tx7_next (by assumption) hb))
    go_wp2
    go_ret
    exact ⟨rfl, tx7_below (by assumption)⟩

theorem cellsC : Tryd.prog.cellsOf 25 = 7 := by kernel_rfl
theorem cellsD : Tryd.prog.cellsOf 23 = 3 := by kernel_rfl
theorem cellsI : Tryd.prog.cellsOf 3 = 1 := by kernel_rfl
theorem opened (H : Type) (enc : TypeId × Value → H) (W : World) (base : Nat) (args : Array Value) (ds gs : List (DataW H)) (before : List MemPlace)
    (hval : ∀ (j : Nat) t v, Tryd.f4.params[j]? = some t → args[j]? = some v → Value.okWide Tryd.prog W .any base t v)
    (hW : DataW.Whole enc Tryd.prog Tryd.f4.params.toList Rows.stampClocksSpec.vars false W args.toList ds gs before)
    (hsz : (DataW.weightsEach Tryd.prog (Tryd.f4.params.toList ++ Rows.stampClocksSpec.plain.varTypes Tryd.prog) (ds ++ gs)).all (· ≤ reachBytes) = true)
    (hL : laidMetH Tryd.prog Rows.stampClocksRow.laid W) :
    Calls Tryd.prog 4 args W fun e w' => e = .returned (.bool true) ∧ Below W.heap.size W w' := by
  obtain ⟨p, q, hA, hV, rfl, hfz, hnd⟩ := hW
  rw [Tryd.params4] at hA hval
  obtain ⟨v0, vs0, d0, ds0, p0, q0, hargs, rfl, rfl, h0, r0⟩ := trodAll_cons hA
  obtain ⟨rfl, rfl, rfl⟩ := trodAll_nil r0
  obtain rfl : args = #[v0] := by cases args; simp_all
  obtain ⟨cs, rfl, hs⟩ := okWide_struct Tryd.underlying25 (hval 0 25 v0 rfl rfl)
  obtain ⟨c0, c1, c2, c3, c4, c5, c6, rfl⟩ := array7 (hs.trans cellsC)
  obtain ⟨fuel, hf⟩ := h0
  obtain ⟨n, y0, g0⟩ := field_of Tryd.underlying25 hf 0 _ rfl
  obtain ⟨x3, e3, w3⟩ := int_of Tryd.underlying25 hf 1 _ rfl Tryd.underlying3
  obtain ⟨x4, e4, w4⟩ := int_of Tryd.underlying25 hf 2 _ rfl Tryd.underlying3
  obtain ⟨x5, e5, w5⟩ := int_of Tryd.underlying25 hf 3 _ rfl Tryd.underlying3
  obtain ⟨x6, e6, w6⟩ := int_of Tryd.underlying25 hf 4 _ rfl Tryd.underlying3
  obtain ⟨x0, e0, w0⟩ := int_of Tryd.underlying23 g0 0 _ rfl Tryd.underlying3
  obtain ⟨x1, e1, w1⟩ := int_of Tryd.underlying23 g0 1 _ rfl Tryd.underlying3
  obtain ⟨x2, e2, w2⟩ := int_of Tryd.underlying23 g0 2 _ rfl Tryd.underlying3
  simp [Value.cells, cellsI, cellsD] at e0 e1 e2 e3 e4 e5 e6
  subst e0 e1 e2 e3 e4 e5 e6
  exact walk x0 x1 x2 x3 x4 x5 x6 W (tab_of_laid hL)

theorem door_met (os : Os) (args : Array Value) : laidMetH Tryd.prog Rows.stampClocksRow.laid ((World.doorLaid Tryd.prog 24 os).forCall (fun _ _ => 0) ⟨#[], args, []⟩).memory :=
  laidMetH_of_parts3 (fuel := 8) (laidMet_of_run' 8 (by kernel_rfl) (by kernel_rfl)) (by kernel_rfl) (by kernel_rfl)

set_option maxRecDepth 100000 in
theorem lifted (os : Os) (started : os.Started) (H : Type) (enc : TypeId × Value → H) :
    ReturnsInHanded {} Tryd.checked os 4 .any (fun w args => (Rows.stampClocksSpec.pre enc Tryd.prog Tryd.f4 [] false w args ∧ laidMetH Tryd.prog Rows.stampClocksRow.laid w) ∧ sizedMet enc Tryd.prog Tryd.f4 (OpenSpec.ofChange Rows.stampClocksSpec) false w args)
      (Rows.stampClocksSpec.post enc Tryd.prog Tryd.f4 false true false false) := by
  refine returnsInHanded_of_change_and (C := Tryd.checked) (X := fun w _ => laidMetH Tryd.prog Rows.stampClocksRow.laid w) (fun _ _ _ hh h => h.of_heap hh) own started (by kernel_rfl) Tryd.func4
    (ChangeSpec.witness_shaped (enc := enc) (C := Tryd.checked) (os := os) (X := fun w _ => laidMetH Tryd.prog Rows.stampClocksRow.laid w) false (World.doorLaid Tryd.prog 24 os) #[.agg #[.int .i64 0, .int .i64 0, .int .i64 0, .int .i64 0, .int .i64 0, .int .i64 0, .int .i64 0]] 8 rfl (World.shaped_of_RefB (by kernel_rfl) (by kernel_rfl)) (by kernel_rfl) (by kernel_rfl) (by kernel_rfl) (door_met os _)) ?_
  intro W base args ds gs before hval hW _ hsz hL _
  refine (opened H enc W base args ds gs before hval hW hsz hL).mono fun e W' ⟨he, hg⟩ => ?_
  subst he
  exact ⟨_, rfl, law_post hW rfl laidOut (by kernel_rfl) rfl Tryd.underlying4 (fun l hl => by match l, hl with | [d0], _ => rfl) hg⟩

theorem over : Rows.stampClocksRow.holds Tryd.pinned (OpenSpec.ofChange Rows.stampClocksSpec) :=
  OpenClaim.holds_of_wide 4 Tryd.f4 rfl rfl rfl rfl rfl rfl rfl ⟨rfl, rfl, rfl, rfl, rfl⟩ rfl rfl rfl rfl rfl (by kernel_rfl) Tryd.func4 (by kernel_rfl)
    (of_decide_eq_true (by kernel_rfl)) (by unfold Func.isWrapper; first | (rw [if_pos (by decide +kernel)]; kernel_rfl) | (rw [if_neg (by decide +kernel)]; exact ⟨rfl, rfl⟩))
    (fun os started H enc _ => lifted os started H enc)

theorem own_func {f : FuncId} {fn : Func} (hf : Tryd.prog.funcNamed "ringer/ringerlaw05.StampClocks" = some f) (hfn : Tryd.prog.funcs[f]? = some fn) : f = 4 ∧ fn = Tryd.f4 := by
  obtain rfl : f = 4 := Option.some.inj ((show Tryd.prog.funcNamed "ringer/ringerlaw05.StampClocks" = some 4 by kernel_rfl).symm.trans hf) |>.symm
  exact ⟨rfl, (Option.some.inj (Tryd.func4.symm.trans hfn)).symm⟩

/-- THE STATEMENT: THE CARD. -/
theorem proved : Rows.StampClocksCardSaid := by
  unfold Rows.StampClocksCardSaid Rows.stampClocksCard
  exact Claim7.holds_tied_plain_at .later [] _ true _ _
    over (fun _ h => by cases h) (by kernel_rfl) (fun _ h => by cases h) stampClocks_row_tie rfl ⟨rfl, rfl⟩ (by kernel_rfl) rfl
    (fun f fn hf hfn => by
      obtain ⟨rfl, rfl⟩ := own_func hf hfn
      exact ⟨by kernel_rfl, fun j t ht => by
        have hall : (Tryd.f4.params.toList.all fun u => !Tryd.prog.wantsStandIn u) = true := by kernel_rfl
        have hm : t ∈ Tryd.f4.params.toList := by simpa using Array.mem_of_getElem? ht
        exact (show Tryd.prog.wantsStandIn t = false by simpa using List.all_eq_true.1 hall t hm)⟩)
    (by kernel_rfl)
#print axioms proved
end Go.Proofs.YtldfppjeelfahaaDoor.stampClocks

