/- StampOrder: moments and clocks are one to one; texts are in order as moments are; and with one number of a clock changed it is another moment's, or none's. Condition: the library's three tables lie as their initialisers lay them (tied by the card). -/
import Derived.Test.YtldfppjeelfahaaDoorStOrdA
namespace Go.Proofs.YtldfppjeelfahaaDoor.stampOrder
open Go.ChangeShapes Go.WideShapes Go.ChangeAt Go.RowKit
set_option linter.unusedVariables false

/-- A moment's state: it may be; it is below; it is beyond. -/
def St (s : Int) (e0 : Int) : Prop := (0 ≤ s ∧ s < 13569465600 ∧ e0 = 0) ∨ (decide (0 ≤ s) = false ∧ e0 = 50) ∨ (0 ≤ s ∧ decide (s < 13569465600) = false ∧ e0 = 50)
theorem st_of (s : Int) : St s (clockE s) := by
  unfold St clockE okT
  by_cases h0 : 0 ≤ s
  · by_cases h1 : s < 13569465600
    · exact .inl ⟨h0, h1, by simp [h0, h1]⟩
    · exact .inr (.inr ⟨h0, decide_eq_false h1, by simp [h1]⟩)
  · exact .inr (.inl ⟨decide_eq_false h0, by simp [h0]⟩)
theorem agg_of (s : Int) : ∃ y m d h mi sc wd : Int, clockV s = .agg #[.int .i64 y, .int .i64 m, .int .i64 d, .int .i64 h, .int .i64 mi, .int .i64 sc, .int .i64 wd] := by
  unfold clockV
  split
  · exact ⟨_, _, _, _, _, _, _, rfl⟩
  · exact ⟨_, _, _, _, _, _, _, rfl⟩

set_option maxHeartbeats 4000000 in
set_option maxRecDepth 100000 in
theorem out (s t which by' : Int) (w : World) (ht : Tab w) (hk : okT s = false ∨ okT t = false) :
    Calls Tryd.prog 5 #[.int .i64 s, .int .i64 t, .int .i64 which, .int .i64 by'] w fun e w' => e = .returned (.bool true) ∧ Below w.heap.size w w' := by
  have C0 := Lib.hid fun W hW => known_any W hW
  obtain ⟨y, m, d, h, mi, sc, wd, ev⟩ := agg_of s
  obtain ⟨y', m', d', h', mi', sc', wd', ev'⟩ := agg_of t
  have S1 := st_of s
  have S2 := st_of t
  have C1 := fun W => split_at s _ _ ev rfl W
  have C2 := fun W => split_at t _ _ ev' rfl W
  generalize clockE s = e1 at *
  generalize clockE t = e2 at *
  clear ev ev'
  unfold St at S1 S2
  rcases S1 with ⟨a0, a1, rfl⟩ | ⟨a0, rfl⟩ | ⟨a0, a1, rfl⟩ <;> rcases S2 with ⟨b0, b1, rfl⟩ | ⟨b0, rfl⟩ | ⟨b0, b1, rfl⟩
  · exfalso
    rcases hk with hk | hk
    · rw [okT_iff.2 ⟨a0, a1⟩] at hk; cases hk
    · rw [okT_iff.2 ⟨b0, b1⟩] at hk; cases hk
  all_goals
    clear hk
    have C1 := Lib.hid C1
    have C2 := Lib.hid C2
    go_enter Tryd.func5, Tryd.ntmps5
    go_wp2_with fail
    refine (C0.out _ ht).mono ?_
    rintro e w0 ⟨rfl, q0⟩
    go_wp2_with fail
    refine (C1.out _).mono ?_
    rintro e w1 ⟨rfl, hb1⟩
    have q1 := nextC q0 hb1
    go_wp2_with fail
    refine (C2.out _).mono ?_
    rintro e w2 ⟨rfl, hb2⟩
    have q2 := nextA q1 hb2
    go_wp2_with fail
    go_ret
    exact ⟨rfl, nextB q2⟩

theorem rest_of {cur b s : Int} {J : Int → Int → Int → Prop} (hc : 0 ≤ cur) (hc' : cur ≤ 10000) (hb : -9223372036854775808 ≤ b) (hb' : b ≤ 9223372036854775807) (V E : Int → Int)
    (hJ : ∀ z, J z (V z) (E z)) (hE : ∀ z, z ≠ cur → E z = 2 ∨ E z = 0 ∧ V z ≠ s) : Rest cur b s J := by
  by_cases h0 : b = 0
  · subst h0
    exact .inl ⟨by unfold wrap64; omega, rfl⟩
  · have hz := wrap_ne cur b hc hc' hb hb' h0
    have hj := hJ (wrap64 (cur + b))
    rcases hE _ hz with h | ⟨h, hv⟩
    · rw [h] at hj
      exact .inr (.inl ⟨_, _, rfl, beq_eq_false_iff_ne.2 h0, hj⟩)
    · rw [h] at hj
      exact .inr (.inr ⟨_, _, rfl, beq_eq_false_iff_ne.2 h0, by rw [bne_iff_ne]; exact hv, hj⟩)
theorem restw_of {cur b : Int} {J : Int → Int → Int → Prop} (hc : 0 ≤ cur) (hc' : cur ≤ 10000) (hb : -9223372036854775808 ≤ b) (hb' : b ≤ 9223372036854775807) (V E : Int → Int)
    (hJ : ∀ z, J z (V z) (E z)) (hE : ∀ z, z ≠ cur → E z = 2) : RestW cur b J := by
  by_cases h0 : b = 0
  · subst h0
    exact .inl ⟨by unfold wrap64; omega, rfl⟩
  · have hz := wrap_ne cur b hc hc' hb hb' h0
    have hj := hJ (wrap64 (cur + b))
    rw [hE _ hz] at hj
    exact .inr ⟨_, _, rfl, beq_eq_false_iff_ne.2 h0, hj⟩
/-- Join's answer: none, or the moment. -/
theorem join_two (y m d h mi sc wd s : Int) (hne : mayB y m d = true → wd = (numI y m d + 4) % 7 → momI y m d h mi sc ≠ s) : joinE y m d h mi sc wd = 2 ∨ joinE y m d h mi sc wd = 0 ∧ joinV y m d h mi sc wd ≠ s := by
  unfold joinE joinV
  cases hc : clkB y m d h mi sc wd
  · exact .inl (by simp)
  · obtain ⟨h1, h2, h3⟩ := clkB_parts hc
    exact .inr ⟨by simp, by simpa using hne h1 h3⟩

theorem walk (s t which by' : Int) (w : World) (ht : Tab w) (hb : -9223372036854775808 ≤ by') (hb' : by' ≤ 9223372036854775807) :
    Calls Tryd.prog 5 #[.int .i64 s, .int .i64 t, .int .i64 which, .int .i64 by'] w fun e w' => e = .returned (.bool true) ∧ Below w.heap.size w w' := by
  cases h1 : okT s
  · exact out s t which by' w ht (.inl h1)
  cases h2 : okT t
  · exact out s t which by' w ht (.inr h2)
  obtain ⟨s0, s1⟩ := okT_iff.1 h1
  obtain ⟨t0, t1⟩ := okT_iff.1 h2
  obtain ⟨ma, da, ra, na⟩ := mom_split s0 s1
  obtain ⟨mb, db, rb, nb⟩ := mom_split t0 t1
  have K1 := fun W => split_yes s W s0 s1
  have K2 := fun W => split_yes t W t0 t1
  have wa : (s / 86400 + 4) % 7 = (numI (ofY (s / 86400)) (ofM (s / 86400)) (ofD (s / 86400)) + 4) % 7 := by rw [na]
  have wb : (t / 86400 + 4) % 7 = (numI (ofY (t / 86400)) (ofM (t / 86400)) (ofD (t / 86400)) + 4) % 7 := by rw [nb]
  clear na nb
  generalize (s / 86400 + 4) % 7 = wd at *
  generalize (t / 86400 + 4) % 7 = wd' at *
  generalize ofY (s / 86400) = y at *
  generalize ofM (s / 86400) = m at *
  generalize ofD (s / 86400) = d at *
  generalize ofY (t / 86400) = y' at *
  generalize ofM (t / 86400) = m' at *
  generalize ofD (t / 86400) = d' at *
  generalize s % 86400 / 3600 = h at *
  generalize s % 86400 % 3600 / 60 = mi at *
  generalize s % 86400 % 60 = sc at *
  generalize t % 86400 / 3600 = h' at *
  generalize t % 86400 % 3600 / 60 = mi' at *
  generalize t % 86400 % 60 = sc' at *
  have ca : clkB y m d h mi sc wd = true := by unfold clkB; rw [da, ra, wa]; simp
  have cb : clkB y' m' d' h' mi' sc' wd' = true := by unfold clkB; rw [db, rb, wb]; simp
  have J := join_any y m d h mi sc wd
  unfold joinV joinE at J
  rw [ca, if_pos rfl, if_pos rfl, ma] at J
  have T1 := fun W hW => text_any y m d h mi sc wd W hW
  have T2 := fun W hW => text_any y' m' d' h' mi' sc' wd' W hW
  unfold textL at T1 T2
  rw [ca, if_pos rfl] at T1
  rw [cb, if_pos rfl] at T2
  have M := smay_any y m d h mi sc wd
  rw [ca] at M
  obtain ⟨r1, r2, r3, r4, r5, r6⟩ := rngB_iff.1 ra
  obtain ⟨b1, b2, b3, b4, b5, b6, -⟩ := mayB_bds da
  have mom0 := ma
  refine core s t which by' y m d h mi sc wd y' m' d' h' mi' sc' wd' w ht (decide (s < t)) (s == t) _ _ hb hb' (Lib.hid fun W hW => known_any W hW) (Lib.hid K1) (Lib.hid K2) (Lib.hid J) (Lib.hid M) (Lib.hid T1) (Lib.hid T2)
    (by rw [bts_size, txtL_len]) ?_ rfl rfl ?_
    (Lib.hid (rest_of r5 (by omega) hb hb' (fun z => joinV y m d h mi z wd) (fun z => joinE y m d h mi z wd) (fun z W => join_any _ _ _ _ _ _ _ W) fun z hz => join_two _ _ _ _ _ _ _ _ fun _ _ => by rw [← ma]; unfold momI; omega))
    (Lib.hid (rest_of r3 (by omega) hb hb' (fun z => joinV y m d h z sc wd) (fun z => joinE y m d h z sc wd) (fun z W => join_any _ _ _ _ _ _ _ W) fun z hz => join_two _ _ _ _ _ _ _ _ fun _ _ => by rw [← ma]; unfold momI; omega))
    (Lib.hid (rest_of r1 (by omega) hb hb' (fun z => joinV y m d z mi sc wd) (fun z => joinE y m d z mi sc wd) (fun z W => join_any _ _ _ _ _ _ _ W) fun z hz => join_two _ _ _ _ _ _ _ _ fun _ _ => by rw [← ma]; unfold momI; omega))
    (Lib.hid (restw_of (by omega) (by omega) hb hb' (fun z => joinV y m d h mi sc z) (fun z => joinE y m d h mi sc z) (fun z W => join_any _ _ _ _ _ _ _ W) fun z hz => ?_))
    (Lib.hid (rest_of (by omega) (by omega) hb hb' (fun z => joinV y m z h mi sc wd) (fun z => joinE y m z h mi sc wd) (fun z W => join_any _ _ _ _ _ _ _ W) fun z hz => join_two _ _ _ _ _ _ _ _ fun _ _ => by rw [← ma]; unfold momI numI; omega))
  · rw [lss_bts]
    by_cases hlt : s < t
    · rw [decide_eq_true hlt]
      exact decide_eq_true (text_lt da ra db rb (by rw [ma, mb]; exact hlt))
    · rw [decide_eq_false hlt]
      refine decide_eq_false fun hh => ?_
      by_cases he : s = t
      · obtain ⟨e1, e2, e3⟩ := num_inj da db (by
          have q1 := rngB_iff.1 ra
          have q2 := rngB_iff.1 rb
          have : momI y m d h mi sc = momI y' m' d' h' mi' sc' := by rw [ma, mb, he]
          unfold momI at this
          omega)
        subst e1 e2 e3
        have : momI y m d h mi sc = momI y m d h' mi' sc' := by rw [ma, mb, he]
        have q1 := rngB_iff.1 ra
        have q2 := rngB_iff.1 rb
        unfold momI at this
        have e4 : h = h' := by omega
        have e5 : mi = mi' := by omega
        have e6 : sc = sc' := by omega
        subst e4 e5 e6
        exact List.lt_irrefl _ hh
      · exact List.lt_asymm hh (text_lt db rb da ra (by rw [ma, mb]; omega))
  · unfold eqB
    by_cases he : s = t
    · rw [show (s == t) = true by simpa using he]
      refine decide_eq_true ?_
      have hmm : momI y m d h mi sc = momI y' m' d' h' mi' sc' := by rw [ma, mb, he]
      have q1 := rngB_iff.1 ra
      have q2 := rngB_iff.1 rb
      unfold momI at hmm
      obtain ⟨e1, e2, e3⟩ := num_inj da db (by omega)
      subst e1 e2 e3
      rw [← wa] at wb
      exact ⟨rfl, rfl, rfl, by omega, by omega, by omega, wb.symm⟩
    · rw [show (s == t) = false by simpa using he]
      refine decide_eq_false ?_
      rintro ⟨rfl, rfl, rfl, rfl, rfl, rfl, rfl⟩
      exact he (ma.symm.trans mb)
  · unfold joinE
    rw [if_neg]
    intro hc
    exact hz ((clkB_parts hc).2.2.trans wa.symm)

theorem opened (H : Type) (enc : TypeId × Value → H) (W : World) (base : Nat) (args : Array Value) (ds gs : List (DataW H)) (before : List MemPlace)
    (hval : ∀ (j : Nat) t v, Tryd.f5.params[j]? = some t → args[j]? = some v → Value.okWide Tryd.prog W .any base t v)
    (hW : DataW.Whole enc Tryd.prog Tryd.f5.params.toList Rows.stampOrderSpec.vars false W args.toList ds gs before)
    (hsz : (DataW.weightsEach Tryd.prog (Tryd.f5.params.toList ++ Rows.stampOrderSpec.plain.varTypes Tryd.prog) (ds ++ gs)).all (· ≤ reachBytes) = true)
    (hL : laidMetH Tryd.prog Rows.stampOrderRow.laid W) :
    Calls Tryd.prog 5 args W fun e w' => e = .returned (.bool true) ∧ Below W.heap.size W w' := by
  obtain ⟨p, q, hA, hV, rfl, hfz, hnd⟩ := hW
  rw [Tryd.params5] at hA hval
  obtain ⟨v0, vs0, d0, ds0, p0, q0, hargs, rfl, rfl, h0, r0⟩ := trodAll_cons hA
  obtain ⟨v1, vs1, d1, ds1, p1, q1, rfl, rfl, rfl, h1, r1⟩ := trodAll_cons r0
  obtain ⟨v2, vs2, d2, ds2, p2, q2, rfl, rfl, rfl, h2, r2⟩ := trodAll_cons r1
  obtain ⟨v3, vs3, d3, ds3, p3, q3, rfl, rfl, rfl, h3, r3⟩ := trodAll_cons r2
  obtain ⟨rfl, rfl, rfl⟩ := trodAll_nil r3
  obtain rfl : args = #[v0, v1, v2, v3] := by cases args; simp_all
  obtain ⟨a0, rfl, _, _, w0⟩ := open_int Tryd.underlying2 (hval 0 2 v0 rfl rfl) h0
  obtain ⟨a1, rfl, _, _, w1⟩ := open_int Tryd.underlying2 (hval 1 2 v1 rfl rfl) h1
  obtain ⟨a2, rfl, _, _, w2⟩ := open_int Tryd.underlying3 (hval 2 3 v2 rfl rfl) h2
  obtain ⟨a3, rfl, _, _, w3⟩ := open_int Tryd.underlying3 (hval 3 3 v3 rfl rfl) h3
  obtain ⟨n0, n1⟩ := bounds_i64 w3
  exact walk a0 a1 a2 a3 W (tab_of_laid hL) (by omega) (by omega)

theorem door_met (os : Os) (args : Array Value) : laidMetH Tryd.prog Rows.stampOrderRow.laid ((World.doorLaid Tryd.prog 24 os).forCall (fun _ _ => 0) ⟨#[], args, []⟩).memory :=
  laidMetH_of_parts3 (fuel := 8) (laidMet_of_run' 8 (by kernel_rfl) (by kernel_rfl)) (by kernel_rfl) (by kernel_rfl)

set_option maxRecDepth 100000 in
theorem lifted (os : Os) (started : os.Started) (H : Type) (enc : TypeId × Value → H) :
    ReturnsInHanded {} Tryd.checked os 5 .any (fun w args => (Rows.stampOrderSpec.pre enc Tryd.prog Tryd.f5 [] false w args ∧ laidMetH Tryd.prog Rows.stampOrderRow.laid w) ∧ sizedMet enc Tryd.prog Tryd.f5 (OpenSpec.ofChange Rows.stampOrderSpec) false w args)
      (Rows.stampOrderSpec.post enc Tryd.prog Tryd.f5 false true false false) := by
  refine returnsInHanded_of_change_and (C := Tryd.checked) (X := fun w _ => laidMetH Tryd.prog Rows.stampOrderRow.laid w) (fun _ _ _ hh h => h.of_heap hh) own started (by kernel_rfl) Tryd.func5
    (ChangeSpec.witness_shaped (enc := enc) (C := Tryd.checked) (os := os) (X := fun w _ => laidMetH Tryd.prog Rows.stampOrderRow.laid w) false (World.doorLaid Tryd.prog 24 os) #[.int .i64 0, .int .i64 0, .int .i64 0, .int .i64 0] 8 rfl (World.shaped_of_RefB (by kernel_rfl) (by kernel_rfl)) (by kernel_rfl) (by kernel_rfl) (by kernel_rfl) (door_met os _)) ?_
  intro W base args ds gs before hval hW _ hsz hL _
  refine (opened H enc W base args ds gs before hval hW hsz hL).mono fun e W' ⟨he, hg⟩ => ?_
  subst he
  exact ⟨_, rfl, law_post hW rfl laidOut (by kernel_rfl) rfl Tryd.underlying4 (fun l hl => by match l, hl with | [d0, d1, d2, d3], _ => rfl) hg⟩

theorem over : Rows.stampOrderRow.holds Tryd.pinned (OpenSpec.ofChange Rows.stampOrderSpec) :=
  OpenClaim.holds_of_wide 5 Tryd.f5 rfl rfl rfl rfl rfl rfl rfl ⟨rfl, rfl, rfl, rfl, rfl⟩ rfl rfl rfl rfl rfl (by kernel_rfl) Tryd.func5 (by kernel_rfl)
    (of_decide_eq_true (by kernel_rfl)) (by unfold Func.isWrapper; first | (rw [if_pos (by decide +kernel)]; kernel_rfl) | (rw [if_neg (by decide +kernel)]; exact ⟨rfl, rfl⟩))
    (fun os started H enc _ => lifted os started H enc)

theorem own_func {f : FuncId} {fn : Func} (hf : Tryd.prog.funcNamed "ringer/ringerlaw05.StampOrder" = some f) (hfn : Tryd.prog.funcs[f]? = some fn) : f = 5 ∧ fn = Tryd.f5 := by
  obtain rfl : f = 5 := Option.some.inj ((show Tryd.prog.funcNamed "ringer/ringerlaw05.StampOrder" = some 5 by kernel_rfl).symm.trans hf) |>.symm
  exact ⟨rfl, (Option.some.inj (Tryd.func5.symm.trans hfn)).symm⟩

/-- THE STATEMENT: THE CARD. -/
theorem proved : Rows.StampOrderCardSaid := by
  unfold Rows.StampOrderCardSaid Rows.stampOrderCard
  exact Claim7.holds_tied_plain_at .later [] _ true _ _
    over (fun _ h => by cases h) (by kernel_rfl) (fun _ h => by cases h) stampOrder_row_tie rfl ⟨rfl, rfl⟩ (by kernel_rfl) rfl
    (fun f fn hf hfn => by
      obtain ⟨rfl, rfl⟩ := own_func hf hfn
      exact ⟨by kernel_rfl, fun j t ht => by
        have hall : (Tryd.f5.params.toList.all fun u => !Tryd.prog.wantsStandIn u) = true := by kernel_rfl
        have hm : t ∈ Tryd.f5.params.toList := by simpa using Array.mem_of_getElem? ht
        exact (show Tryd.prog.wantsStandIn t = false by simpa using List.all_eq_true.1 hall t hm)⟩)
    (by kernel_rfl)
#print axioms proved
end Go.Proofs.YtldfppjeelfahaaDoor.stampOrder

