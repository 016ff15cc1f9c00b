/- StampMoments: the clock of any moment, what comes so many seconds later, and the beginning of its minute, is the document's. Condition: the library's three tables lie as their initialisers lay them (tied by the card). -/
import Derived.Test.YtldfppjeelfahaaDoorStTie
namespace Go.Proofs.YtldfppjeelfahaaDoor.stampMoments
open Go.ChangeShapes Go.WideShapes Go.ChangeAt Go.RowKit
set_option linter.unusedVariables false


theorem floor_div {t : Int} (h : okT t = true) : floorV t = t / 60 * 60 := by
  unfold floorV
  rw [if_pos h]
  have := okT_iff.1 h
  omega

set_option maxHeartbeats 2000000 in
theorem walk_no (t n : Int) (wn : (Lit.int .i64 n).wf = true) (w : World) (ht : Tab w) (hk : okT t = false) :
    Calls Tryd.prog 3 #[.int .i64 t, .int .i64 n] w fun e w' => e = .returned (.bool true) ∧ Below w.heap.size w w' := by
  obtain ⟨n0, n1⟩ := bounds_i64 wn
  have ev : clockV t = .agg #[.int .i64 0, .int .i64 0, .int .i64 0, .int .i64 0, .int .i64 0, .int .i64 0, .int .i64 0] := by unfold clockV; rw [hk, if_neg (by simp)]
  have ee : clockE t = 50 := by unfold clockE; rw [hk, if_neg (by simp)]
  have ef : floorV t = 0 := by unfold floorV; rw [hk, if_neg (by simp)]
  have C1 := Lib.hid fun W => split_at t _ _ ev ee W
  have C2 := Lib.hid fun W => refSplit_at t _ _ ev ee W
  have C3 := Lib.hid fun W => add_any t n W (by omega) (by omega)
  have C4 := Lib.hid fun W => refAdd_any t n W (by omega) (by omega)
  have C5 := Lib.hid fun W => floor_at t _ _ ef ee W
  have C6 := Lib.hid fun W hW => known_any W hW
  clear ev ee ef hk wn n0 n1
  generalize addV t n = a at *
  generalize addE t n = b at *
  go_enter Tryd.func3, Tryd.ntmps3
  go_wp2_with fail
  refine (C1.out _).mono ?_
  rintro e w1 ⟨rfl, hb1⟩
  go_wp2_with fail
  refine (C2.out _).mono ?_
  rintro e w2 ⟨rfl, hb2⟩
  have ka2 := newC hb2
  have q2 := nextA hb1 hb2
  have t2 := ht.stays q2 (Nat.le_refl _)
  clear hb1 hb2
  go_wp2_with fail
  refine (C3.out _).mono ?_
  rintro e w3 ⟨rfl, rfl⟩
  go_wp2_with fail
  refine (C4.out _).mono ?_
  rintro e w4 ⟨rfl, rfl⟩
  go_wp2_with fail
  refine (C5.out _).mono ?_
  rintro e w5 ⟨rfl, rfl⟩
  have kc2 := fun o => ka2.cell o
  have kz2 := ka2.lt
  go_wp2_with fail
  refine (C6.out _ ?_).mono ?_
  · exact t2.alloc _
  rintro e w6 ⟨rfl, hb6⟩
  have q6 := nextA q2 hb6
  go_wp2_with fail
  go_ret
  exact ⟨rfl, q6⟩

set_option maxHeartbeats 2000000 in
theorem walk_yes (t n : Int) (wn : (Lit.int .i64 n).wf = true) (w : World) (ht : Tab w) (hk : okT t = true) :
    Calls Tryd.prog 3 #[.int .i64 t, .int .i64 n] w fun e w' => e = .returned (.bool true) ∧ Below w.heap.size w w' := by
  obtain ⟨n0, n1⟩ := bounds_i64 wn
  obtain ⟨y, m, d, h, mi, s, wd, ev⟩ : ∃ y m d h mi s wd : Int, clockV t = .agg #[.int .i64 y, .int .i64 m, .int .i64 d, .int .i64 h, .int .i64 mi, .int .i64 s, .int .i64 wd] := by
    unfold clockV; rw [if_pos hk]; exact ⟨_, _, _, _, _, _, _, rfl⟩
  have ee : clockE t = 0 := by unfold clockE; rw [if_pos hk]
  obtain ⟨t0, t1⟩ := okT_iff.1 hk
  have C1 := Lib.hid fun W => split_at t _ _ ev ee W
  have C2 := Lib.hid fun W => refSplit_at t _ _ ev ee W
  have C3 := Lib.hid fun W => add_any t n W (by omega) (by omega)
  have C4 := Lib.hid fun W => refAdd_any t n W (by omega) (by omega)
  have C5 := Lib.hid fun W => floor_at t _ _ (floor_div hk) ee W
  have C6 := Lib.hid fun W hW => known_any W hW
  clear ev ee hk wn n0 n1
  generalize addV t n = a at *
  generalize addE t n = b at *
  go_enter Tryd.func3, Tryd.ntmps3
  go_wp2_with fail
  refine (C1.out _).mono ?_
  rintro e w1 ⟨rfl, hb1⟩
  go_wp2_with fail
  refine (C2.out _).mono ?_
  rintro e w2 ⟨rfl, hb2⟩
  have ka2 := newC hb2
  have q2 := nextA hb1 hb2
  have t2 := ht.stays q2 (Nat.le_refl _)
  clear hb1 hb2
  go_wp2_with fail
  refine (C3.out _).mono ?_
  rintro e w3 ⟨rfl, rfl⟩
  go_wp2_with fail
  refine (C4.out _).mono ?_
  rintro e w4 ⟨rfl, rfl⟩
  go_wp2_with fail
  refine (C5.out _).mono ?_
  rintro e w5 ⟨rfl, rfl⟩
  have kc2 := fun o => ka2.cell o
  have kz2 := ka2.lt
  go_wp2_with fail
  refine (C6.out _ ?_).mono ?_
  · exact t2.alloc _
  rintro e w6 ⟨rfl, hb6⟩
  have q6 := nextA q2 hb6
  go_wp2_with fail
  go_ret
  exact ⟨rfl, q6⟩

theorem opened (H : Type) (enc : TypeId × Value → H) (W : World) (base : Nat) (args : Array Value) (ds gs : List (DataW H)) (before : List MemPlace)
    (hval : ∀ (j : Nat) t v, Tryd.f3.params[j]? = some t → args[j]? = some v → Value.okWide Tryd.prog W .any base t v)
    (hW : DataW.Whole enc Tryd.prog Tryd.f3.params.toList Rows.stampMomentsSpec.vars false W args.toList ds gs before)
    (hsz : (DataW.weightsEach Tryd.prog (Tryd.f3.params.toList ++ Rows.stampMomentsSpec.plain.varTypes Tryd.prog) (ds ++ gs)).all (· ≤ reachBytes) = true)
    (hL : laidMetH Tryd.prog Rows.stampMomentsRow.laid W) :
    Calls Tryd.prog 3 args W fun e w' => e = .returned (.bool true) ∧ Below W.heap.size W w' := by
  obtain ⟨p, q, hA, hV, rfl, hfz, hnd⟩ := hW
  rw [Tryd.params3] at hA hval
  obtain ⟨v0, vs0, d0, ds0, p0, q0, hargs, rfl, rfl, h0, r0⟩ := trodAll_cons hA
  obtain ⟨v1, vs1, d1, ds1, p1, q1, rfl, rfl, rfl, h1, r1⟩ := trodAll_cons r0
  obtain ⟨rfl, rfl, rfl⟩ := trodAll_nil r1
  obtain rfl : args = #[v0, v1] := by cases args; simp_all
  obtain ⟨a0, rfl, _, _, w0⟩ := open_int Tryd.underlying2 (hval 0 2 v0 rfl rfl) h0
  obtain ⟨a1, rfl, _, _, w1⟩ := open_int Tryd.underlying2 (hval 1 2 v1 rfl rfl) h1
  cases hk : okT a0
  · exact walk_no a0 a1 w1 W (tab_of_laid hL) hk
  · exact walk_yes a0 a1 w1 W (tab_of_laid hL) hk

theorem door_met (os : Os) (args : Array Value) : laidMetH Tryd.prog Rows.stampMomentsRow.laid ((World.doorLaid Tryd.prog 24 os).forCall (fun _ _ => 0) ⟨#[], args, []⟩).memory :=
  laidMetH_of_parts3 (fuel := 8) (laidMet_of_run' 8 (by kernel_rfl) (by kernel_rfl)) (by kernel_rfl) (by kernel_rfl)

set_option maxRecDepth 100000 in
theorem lifted (os : Os) (started : os.Started) (H : Type) (enc : TypeId × Value → H) :
    ReturnsInHanded {} Tryd.checked os 3 .any (fun w args => (Rows.stampMomentsSpec.pre enc Tryd.prog Tryd.f3 [] false w args ∧ laidMetH Tryd.prog Rows.stampMomentsRow.laid w) ∧ sizedMet enc Tryd.prog Tryd.f3 (OpenSpec.ofChange Rows.stampMomentsSpec) false w args)
      (Rows.stampMomentsSpec.post enc Tryd.prog Tryd.f3 false true false false) := by
  refine returnsInHanded_of_change_and (C := Tryd.checked) (X := fun w _ => laidMetH Tryd.prog Rows.stampMomentsRow.laid w) (fun _ _ _ hh h => h.of_heap hh) own started (by kernel_rfl) Tryd.func3
    (ChangeSpec.witness_shaped (enc := enc) (C := Tryd.checked) (os := os) (X := fun w _ => laidMetH Tryd.prog Rows.stampMomentsRow.laid w) false (World.doorLaid Tryd.prog 24 os) #[.int .i64 0, .int .i64 0] 8 rfl (World.shaped_of_RefB (by kernel_rfl) (by kernel_rfl)) (by kernel_rfl) (by kernel_rfl) (by kernel_rfl) (door_met os _)) ?_
  intro W base args ds gs before hval hW _ hsz hL _
  refine (opened H enc W base args ds gs before hval hW hsz hL).mono fun e W' ⟨he, hg⟩ => ?_
  subst he
  exact ⟨_, rfl, law_post hW rfl laidOut (by kernel_rfl) rfl Tryd.underlying4 (fun l hl => by match l, hl with | [d0, d1], _ => rfl) hg⟩

theorem over : Rows.stampMomentsRow.holds Tryd.pinned (OpenSpec.ofChange Rows.stampMomentsSpec) :=
  OpenClaim.holds_of_wide 3 Tryd.f3 rfl rfl rfl rfl rfl rfl rfl ⟨rfl, rfl, rfl, rfl, rfl⟩ rfl rfl rfl rfl rfl (by kernel_rfl) Tryd.func3 (by kernel_rfl)
    (of_decide_eq_true (by kernel_rfl)) (by unfold Func.isWrapper; first | (rw [if_pos (by decide +kernel)]; kernel_rfl) | (rw [if_neg (by decide +kernel)]; exact ⟨rfl, rfl⟩))
    (fun os started H enc _ => lifted os started H enc)

theorem own_func {f : FuncId} {fn : Func} (hf : Tryd.prog.funcNamed "ringer/ringerlaw05.StampMoments" = some f) (hfn : Tryd.prog.funcs[f]? = some fn) : f = 3 ∧ fn = Tryd.f3 := by
  obtain rfl : f = 3 := Option.some.inj ((show Tryd.prog.funcNamed "ringer/ringerlaw05.StampMoments" = some 3 by kernel_rfl).symm.trans hf) |>.symm
  exact ⟨rfl, (Option.some.inj (Tryd.func3.symm.trans hfn)).symm⟩

/-- THE STATEMENT: THE CARD. -/
theorem proved : Rows.StampMomentsCardSaid := by
  unfold Rows.StampMomentsCardSaid Rows.stampMomentsCard
  exact Claim7.holds_tied_plain_at .later [] _ true _ _
    over (fun _ h => by cases h) (by kernel_rfl) (fun _ h => by cases h) stampMoments_row_tie rfl ⟨rfl, rfl⟩ (by kernel_rfl) rfl
    (fun f fn hf hfn => by
      obtain ⟨rfl, rfl⟩ := own_func hf hfn
      exact ⟨by kernel_rfl, fun j t ht => by
        have hall : (Tryd.f3.params.toList.all fun u => !Tryd.prog.wantsStandIn u) = true := by kernel_rfl
        have hm : t ∈ Tryd.f3.params.toList := by simpa using Array.mem_of_getElem? ht
        exact (show Tryd.prog.wantsStandIn t = false by simpa using List.all_eq_true.1 hall t hm)⟩)
    (by kernel_rfl)
#print axioms proved
end Go.Proofs.YtldfppjeelfahaaDoor.stampMoments

