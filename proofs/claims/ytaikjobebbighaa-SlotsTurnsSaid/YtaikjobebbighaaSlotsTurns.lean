/- SlotsTurns: who waits is served in the order of asking, and at last. No condition. -/
import Derived.Test.YtaikjobebbighaaDoO
import Derived.Test.YtaikjobebbighaaSlPm
import Derived.Test.YtaikjobebbighaaPost
import Derived.Deep.DeepCutAuto
namespace Go.Proofs.Ytaikjobebbighaa.slotsTurns
open Go.ChangeShapes Go.WideShapes Go.ChangeAt Go.RowKit
set_option linter.unusedVariables false
theorem laidOut : laidOutB Try.prog = true := by kernel_rfl
theorem own : ownKnob Try.prog.godebug = none := by kernel_rfl
def p1 : Bk := [(nP, ⟨5, [], []⟩)]
theorem pn1 : setB [] nP 5 = (p1, [], 0) := by rfl
theorem po1 : BkOk 0 p1 := by have := setB_ok (BkOk.nil 0) nP 5; rwa [pn1] at this
set_option maxHeartbeats 8000000 in
set_option maxRecDepth 100000 in
theorem walk (A : Option Addr) (c : Nat) (l : List Dc) (A2 : Option Addr) (c2 : Nat) (tn : List Int) (w : World) (h : DoS w A l) (hlc : l.length ≤ c) (hcm : c ≤ maxLen) (hw : ∀ x ∈ l, x.name.length ≤ maxLen) (h2 : Sl w .u8 A2 tn) (hw2 : ∀ x ∈ tn, 0 ≤ x ∧ x < 256) :
    Calls Try.prog 4 #[.slice A l.length c, .slice A2 tn.length c2] w fun e w' => e = .returned (.bool true) ∧ Below w.heap.size w w' := by
  obtain ⟨N, hN⟩ : ∃ N, w.heap.size = N := ⟨_, rfl⟩
  have hNw : N ≤ w.heap.size := by omega
  have H := Lib.hid h
  have H2 := Lib.hid h2
  have HW2 := Lib.hid hw2
  have HN := Lib.hid hN
  have K0 := Lib.hid (known_true w)
  have HV := Lib.hid (fun (w1 : World) (hb : Below w.heap.size w w1) => heavy_any A c l w1 (h.over hb) hw hlc hcm)
  clear h hlc hcm hw hN h2 hw2
  go_enter Try.func4, Try.ntmps4
  go_wp2_with fail
  refine K0.out.mono ?_
  rintro e w1 ⟨rfl, hb1⟩
  have C1 := Lib.hid (HV.out w1 hb1)
  have B1 := Lib.hid hb1
  clear hb1 HV K0
  go_wp2_with fail
  refine C1.out.mono ?_
  rintro e w2 ⟨rfl, hb2⟩
  have B2 := Lib.hid (nextC B1.out hb2)
  clear hb2 C1 B1
  by_cases hv : heavyN l 0 = true
  · rw [hv]
    go_wp2_with fail
    go_ret
    exact ⟨rfl, B2.out⟩
  have hv0 : heavyN l 0 = false := by simpa using hv
  have hlen := (heavyN_no l 0 hv0 (by omega) (by omega)).1
  rw [hv0]
  by_cases hturn : 400 < tn.length
  · have t4 : (400 : Int) < (tn.length : Int) := by omega
    go_wp2_with fail
    go_ret
    exact ⟨rfl, B2.out⟩
  have t4 : decide ((400 : Int) < (tn.length : Int)) = false := decide_eq_false (by omega)
  have C2 := Lib.hid (new_at N w w2 (by rw [← HN.out]; exact B2.out) hNw)
  clear hv hv0 B2
  go_wp2_with fail
  refine C2.out.mono ?_
  rintro e w3 ⟨g, b, rfl, -, -, ha, -⟩
  have C3 := Lib.hid (ha.set (k := nP) hNw (BkOk.nil 0) (by decide) pn1)
  clear ha C2
  go_wp2_with fail
  refine C3.out.mono ?_
  rintro e w4 ⟨B1, d1, ys1, rfl, -, -, ha⟩
  have HA := Lib.hid ha
  clear ha C3
  go_wp2_with fail
  go_loopw [36] (fun i wr => ∃ (k : Nat) (st : Bk) (ys : List Wh) (s : Pst), k ≤ l.length ∧ i = .int .i64 k ∧ Hid (At N w wr g b st ys) ∧ Hid (BkOk k st) ∧ Hid (stGet st nP = some s) ∧ Hid (s.size = 5) ∧ Hid (Fits s)) (fun i _ => l.length - (intOf i).toNat)
  case atStart => exact ⟨0, p1, ys1, ⟨5, [], []⟩, by omega, rfl, HA, Lib.hid po1, Lib.hid rfl, Lib.hid rfl, Lib.hid (fun x hx => by cases hx)⟩
  case round =>
    obtain ⟨k, st, ys, s, hk, rfl, hA, hO, hS, hZ, hF⟩ := hrel
    by_cases hlt : k < l.length
    · have hbw := hA.out.low
      have hsd : DoS wr A l := H.out.over (by rw [HN.out]; exact hbw)
      obtain ⟨ad, rfl, hb, hc⟩ := hsd k hlt
      obtain ⟨-, c1, c2, c3, c4⟩ := hsd.cells4 k hlt
      generalize l[k] = x at *
      obtain ⟨xk, xn, xt, xv⟩ := x
      dsimp only at c1 c2 c3 c4
      have hbx : Below wr.heap.size wr (wr.alloc (.cells #[.int .u8 xk, nm xn, .int .u64 xt, .int .i64 xv] 30)) := (Below.refl _ _).alloc (Nat.le_refl _) _
      have ha2 := hA.out.over hNw hbx
      have HA2 := Lib.hid ha2
      have CA := Lib.hid (ha2.ask (k := nP) (x1 := xt) (x2 := xv) hNw hO.out (by omega) (by decide) rfl)
      have CF := Lib.hid (ha2.free (k := nP) (x := xt) hNw hO.out (by decide) rfl)
      clear hbw hsd hb hc hbx ha2
      by_cases e1 : xk = 1
      · subst e1
        go_wp2_with fail
        refine CA.out.mono ?_
        rintro e w5 ⟨ys2, rfl, -, ha⟩
        have HA3 := Lib.hid ha
        clear ha CA CF HA2
        go_wp2_with fail
        go_roundw
        case rel => exact ⟨k + 1, _, ys2, _, by omega, by go_num, HA3, Lib.hid (askB_ok hO.out (by omega) _ _), Lib.hid (askB_self hS.out _), Lib.hid ((askR_size _ _).trans hZ.out), Lib.hid (askR_fits hF.out _)⟩
        case measure => simp [intOf]; omega
      · have d1 : (xk == 1) = false := by simpa using e1
        by_cases e2 : xk = 2
        · subst e2
          go_wp2_with fail
          refine CF.out.mono ?_
          rintro e w5 ⟨B5, d5, ys2, rfl, -, -, ha⟩
          have HA3 := Lib.hid ha
          clear ha CA CF HA2
          go_wp2_with fail
          go_roundw
          case rel => exact ⟨k + 1, _, ys2, _, by omega, by go_num, HA3, Lib.hid ((freeB_ok hO.out _ _).mono (by omega)), Lib.hid (freeB_self hS.out _), Lib.hid ((freeR_size _ _).trans hZ.out), Lib.hid (freeR_fits hF.out _)⟩
          case measure => simp [intOf]; omega
        · have d2 : (xk == 2) = false := by simpa using e2
          clear CA CF
          go_wp2_with fail
          go_roundw
          case rel => exact ⟨k + 1, st, ys, s, by omega, by go_num, HA2, Lib.hid (hO.out.mono (by omega)), hS, hZ, hF⟩
          case measure => simp [intOf]; omega
    · obtain rfl : k = l.length := by omega
      have CL := Lib.hid (hA.out.line (k := nP) hNw hO.out (by decide) (getZ_some hS.out))
      go_wp2_with fail
      refine CL.out.mono ?_
      rintro e w5 ⟨BL, dL, rfl, hoL, hb5⟩
      have HA2 := Lib.hid (hA.out.over hNw hb5)
      have SL := Lib.hid (Side.new hA.out.bk hoL)
      obtain ⟨L0, hL0⟩ : ∃ L0, s.l = L0 := ⟨_, rfl⟩
      rw [hL0] at SL ⊢
      have HL0 := Lib.hid hL0
      have hga := hO.out nP s hS.out
      have hfw := hga.few
      clear hoL hb5 CL hA hga hL0
      go_wp2_with fail
      go_loopw [12, 11] (fun i v wr => ∃ (n : Nat) (st' : Bk) (ys' : List Wh) (s' : Pst) (BS : Option Addr) (dS : Nat) (sv : List Pl), i = .int .i64 n ∧ v = .slice BS sv.length dS ∧ Hid (At N w wr g b st' ys') ∧ Hid (BkOk l.length st') ∧ Hid (stGet st' nP = some s') ∧ Hid (s'.size = 5) ∧ Hid (Fits s') ∧
        Hid (L0 = sv ++ s'.l) ∧ s'.h.length + s'.l.length + n ≤ 300 ∧ Hid (Side wr g b ys' BL dL L0) ∧ Hid (Grows N wr g b ys' BL BS dS sv)) (fun i _ _ => 301 - (intOf i).toNat)
      case atStart => exact ⟨0, st, ys, s, none, 0, [], rfl, rfl, HA2, hO, hS, hZ, hF, Lib.hid (by rw [HL0.out]; rfl), by omega, SL, Lib.hid (Grows.nil _ _ _ _ _ _)⟩
      case round =>
        obtain ⟨n, st', ys', s', BS, dS, sv, rfl, rfl, hA, hO', hS', hZ', hF', hE, hsz, hSL, hGR⟩ := hrel
        have hga := hO'.out nP s' hS'.out
        have CH := Lib.hid (hA.out.holders (k := nP) hNw hO'.out (by decide) (getZ_some hS'.out))
        go_wp2_with fail
        refine CH.out.mono ?_
        rintro e v1 ⟨B1, e1, rfl, ho1, hb1⟩
        have HA1 := Lib.hid (hA.out.over hNw hb1)
        have SL1 := Lib.hid (hSL.out.over hb1)
        have GR1 := Lib.hid (hGR.out.over hb1)
        clear ho1 hb1 CH hA hSL hGR
        by_cases hh0 : s'.h = []
        · have hdone := hga.good.done hF'.out hh0
          have hl0 : s'.h.length = 0 := by rw [hh0]; rfl
          have HE2 := Lib.hid (show sv = L0 by rw [hE.out, hdone, List.append_nil])
          have hsl : sv.length ≤ 1000000 ∧ L0.length ≤ 1000000 := by
            have h1 := congrArg List.length hE.out
            have h3 : L0.length = s.l.length := by rw [HL0.out]
            rw [List.length_append] at h1
            omega
          have CE := Lib.hid ((equal_any BS dS sv BL dL L0 v1 (RkO.rks enP_len GR1.out.side.row) (RkO.rks enP_len SL1.out.row) hsl.1 hsl.2).mono (R' := fun e w' => e = .returned (.bool true) ∧ Below v1.heap.size v1 w') fun e w' h => ⟨h.1.trans (by rw [decide_eq_true HE2.out]), h.2⟩)
          rw [hl0]
          go_wp2_with fail
          refine CE.out.mono ?_
          rintro e v2 ⟨rfl, hb⟩
          have ha := HA1.out.over hNw hb
          have CL := Lib.hid ((ha.line (k := nP) hNw hO'.out (by decide) (getZ_some hS'.out)).mono (R' := fun e w' => (∃ B d, e = .returned (.slice B 0 d)) ∧ Below v2.heap.size v2 w') fun e w' ⟨B, d, h1, _, h3⟩ => ⟨⟨B, d, by rw [h1, hdone]; rfl⟩, h3⟩)
          have HA2 := Lib.hid ha
          clear ha hb CE
          go_wp2_with fail
          refine CL.out.mono ?_
          rintro e v3 ⟨⟨B3, d3, rfl⟩, hb⟩
          have ha := HA2.out.over hNw hb
          have CF := Lib.hid (ha.left (k := nP) (q := 5) hNw hO'.out (by decide) (by rw [getZ_some hS'.out, hh0, hZ'.out]; rfl))
          have HA3 := Lib.hid ha
          clear ha hb CL HA2
          go_wp2_with fail
          refine CF.out.mono ?_
          rintro e v4 ⟨rfl, hb⟩
          have HA4 := Lib.hid (HA3.out.over hNw hb)
          clear hb CF HA3
          go_wp2_with fail
          go_ret
          exact ⟨rfl, by rw [HN.out]; exact HA4.out.low⟩
        · have hpos : 0 < s'.h.length := List.length_pos_iff.2 hh0
          have hpz : (0 : Int) < (s'.h.length : Int) := by omega
          have hnz : ¬ ((s'.h.length : Int) = 0) := by omega
          have CH2 := Lib.hid (HA1.out.holders (k := nP) hNw hO'.out (by decide) (getZ_some hS'.out))
          go_wp2_with fail
          refine CH2.out.mono ?_
          rintro e v2 ⟨BH, dH, rfl, hoH, hb2⟩
          have HA2 := Lib.hid (HA1.out.over hNw hb2)
          have SL2 := Lib.hid (SL1.out.over hb2)
          have GR2 := Lib.hid (GR1.out.over hb2)
          have SH2 := Lib.hid (RkO.rks enP_len hoH)
          clear hoH hb2 CH2 HA1 SL1 GR1
          go_upto_if 71 with fail
          go_cut [14] (fun kv wx => ∃ zi : Nat, zi < s'.h.length ∧ kv = .int .i64 zi ∧ wx = v2)
          case first =>
            by_cases hnt : n < tn.length
            · have d5 : (n : Int) < (tn.length : Int) := by omega
              have hs2 := H2.out.over (w' := v2) (by rw [HN.out]; exact HA2.out.low)
              obtain ⟨ad2, rfl⟩ := hs2.some_ (by intro e; rw [e] at hnt; simp at hnt)
              have cn := hs2.at_ hnt
              have hx := HW2.out tn[n] (List.getElem_mem hnt)
              generalize tn[n] = xt at *
              obtain ⟨zi, hzi, hzl⟩ : ∃ zi : Nat, xt.tmod (s'.h.length : Int) = (zi : Int) ∧ zi < s'.h.length := by
                refine ⟨(xt.tmod (s'.h.length : Int)).toNat, ?_, ?_⟩
                · rw [Int.toNat_of_nonneg]
                  rw [Int.tmod_eq_emod_of_nonneg hx.1]
                  exact Int.emod_nonneg _ (by omega)
                · have := Int.emod_lt_of_pos xt hpz
                  rw [← Int.tmod_eq_emod_of_nonneg hx.1] at this
                  omega
              clear hs2
              go_wp2_with fail
              all_goals (go_meet; exact ⟨zi, hzl, rfl, rfl⟩)
            · have d5 : decide ((n : Int) < (tn.length : Int)) = false := decide_eq_false (by omega)
              go_wp2_with fail
              all_goals (go_meet; exact ⟨0, hpos, by simp, rfl⟩)
          case rest =>
            obtain ⟨zi, hzl, rfl, rfl⟩ := hcut
            obtain ⟨adH, rfl, hb, hc⟩ := SH2.out zi hzl
            obtain ⟨-, c1, c2⟩ := SH2.out.cells2 zi hzl (u := .int .u64 (s'.h[zi]).1) (v := .int .i64 (s'.h[zi]).2) rfl
            have hmem : ∃ x ∈ s'.h, x.1 = (s'.h[zi]).1 := ⟨_, List.getElem_mem hzl, rfl⟩
            generalize (s'.h[zi]).1 = tk at *
            have hfr := freeR_hold hmem
            have heq : freeB st' nP tk = ((freeB st' nP tk).1, (freeR s' tk).2.1, 0) := by
              unfold freeB
              rw [hS'.out]
              dsimp only
              rw [hfr.1]
            have CF := Lib.hid (HA2.out.free (k := nP) hNw hO'.out (by decide) heq)
            have d6 : decide ((1000 : Int) < (n : Int)) = false := decide_eq_false (by omega)
            have HFR := Lib.hid hfr
            clear hb hc hmem heq hfr c2
            go_wp2_with fail
            refine CF.out.mono ?_
            rintro e v3 ⟨B5, d5, ys5, rfl, hs5, ht5, ha5⟩
            have SL3 := Lib.hid (SL2.out.turn ht5)
            have GR3 := Lib.hid (GR2.out.turn ht5)
            have HA3 := Lib.hid ha5
            have SD := Lib.hid hs5
            have hs5n := row_none hs5.row
            have hrk := RkO.rks enP_len hs5.row
            have h1 := congrArg List.length hE.out
            have h2 := congrArg List.length HFR.out.2.1
            have h3 : L0.length = s.l.length := by rw [HL0.out]
            rw [List.length_append] at h1 h2
            have hlen2 : sv.length + (freeR s' tk).2.1.length ≤ 100000000 := by omega
            have HR := Lib.hid GR3.out.side.row
            have HRK := Lib.hid hrk
            clear hs5 ht5 ha5 CF HA2 SL2 GR2 SH2 hrk c1 h1 h2 h3
            go_wp2_with (at_builtin; refine appSN rfl _ _ rfl Try.underlying31 infoP rfl (by decide) (by decide) enP_len enP_one (by simp [Act.eval, Act.put]) HR.out B5 d5 (freeR s' tk).2.1 (by simp [Act.eval, Act.put]) HRK.out hs5n (Nat.zero_le _) hlen2 ?_; intro B6 d6' v4 ho6 hg6 hn6)
            obtain ⟨g1, g2, g3⟩ := GR3.out.app HA3.out hNw SL3.out ho6 hg6 hn6
            have hlen3 : (sv ++ (freeR s' tk).2.1).length = sv.length + (freeR s' tk).2.1.length := by rw [List.length_append]
            go_roundw
            case rel =>
              exact ⟨n + 1, _, ys5, (freeR s' tk).1, B6, d6', sv ++ (freeR s' tk).2.1, by go_num, by rw [hlen3], Lib.hid g2, Lib.hid (freeB_ok hO'.out _ _), Lib.hid (freeB_self hS'.out _), Lib.hid ((freeR_size _ _).trans hZ'.out), Lib.hid (freeR_fits hF'.out _),
                Lib.hid (by rw [List.append_assoc, ← HFR.out.2.1]; exact hE.out), by have := HFR.out.2.2; omega, Lib.hid g3, Lib.hid g1⟩
            case measure => simp [intOf]; omega
set_option maxRecDepth 100000 in
theorem opened (H : Type) (enc : TypeId × Value → H) (W : World) (base : Nat) (args : Array Value) (ds gs : List (DataW H)) (before : List MemPlace)
    (hval : ∀ (j : Nat) t v, Try.f4.params[j]? = some t → args[j]? = some v → Value.okWide Try.prog W .any base t v)
    (hW : DataW.Whole enc Try.prog Try.f4.params.toList Rows.slotsTurnsSpec.vars false W args.toList ds gs before) :
    Calls Try.prog 4 args W fun e w' => e = .returned (.bool true) ∧ Below W.heap.size W w' := by
  obtain ⟨p, q, hA, hV, rfl, hfz, hnd⟩ := hW
  rw [Try.params4] at hA hval
  obtain ⟨v0, vs0, d0, ds0, p0, q0, hargs, rfl, rfl, h0, r0⟩ := trodAll_cons hA
  obtain ⟨v1, vs1, d1, ds1, p1, q1, rfl, rfl, rfl, h1, r1⟩ := trodAll_cons r0
  obtain ⟨rfl, rfl, rfl⟩ := trodAll_nil r1
  obtain rfl : args = #[v0, v1] := by cases args; simp_all
  obtain ⟨A, c, l, rfl, s0, c0, m0, w0⟩ := open_dos Try.underlying22 Try.underlying30 (by kernel_rfl) rfl rfl rfl rfl (by kernel_rfl) (by kernel_rfl) (by kernel_rfl) (by kernel_rfl) Try.underlying5 Try.underlying9 Try.underlying28 Try.underlying3 (hval 0 _ _ rfl rfl) h0
  obtain ⟨A2, c2, tn, rfl, s2, -, -, w2, -⟩ := open_row Try.underlying45 Try.underlying5 (by kernel_rfl) (hval 1 _ _ rfl rfl) h1
  exact walk A c l A2 c2 tn W s0 c0 m0 (fun x hx => (w0 x hx).2.1) s2 (fun x hx => wf_u8 (w2 x hx))

set_option maxRecDepth 100000 in
theorem lifted (os : Os) (started : os.Started) (H : Type) (enc : TypeId × Value → H) :
    ReturnsInHanded {} Try.checked os 4 .any (Rows.slotsTurnsSpec.pre6 enc Try.prog Try.f4 Rows.slotsTurnsRow.domain false) (Rows.slotsTurnsSpec.post enc Try.prog Try.f4 false true false false) := by
  refine returnsInHanded_of_change (C := Try.checked) own started (by kernel_rfl) Try.func4
    (ChangeSpec.witness6 (enc := enc) (C := Try.checked) false ⟨#[], #[.slice none 0 0, .slice none 0 0], []⟩ 8 (by kernel_rfl) (by kernel_rfl) (by kernel_rfl) (by kernel_rfl)) ?_
  intro W base args ds gs before hval hW hcnd hh
  refine (opened H enc W base args ds gs before hval hW).mono fun e W' ⟨he, hg⟩ => ?_
  subst he
  exact ⟨_, rfl, law_post hW rfl laidOut (by kernel_rfl) rfl Try.underlying4 (fun l hl => by match l, hl with | [d0, d1], _ => rfl) hg⟩

theorem over : Rows.slotsTurnsRow.holds Try.pinned (OpenSpec.ofChange Rows.slotsTurnsSpec) :=
  OpenClaim.holds_of_wide 4 Try.f4 rfl rfl rfl rfl rfl rfl rfl ⟨rfl, rfl, rfl, rfl, rfl⟩ rfl rfl rfl rfl rfl (by kernel_rfl) Try.func4 (by kernel_rfl)
    (of_decide_eq_true (by kernel_rfl)) (by unfold Func.isWrapper; first | (rw [if_pos (by decide +kernel)]; kernel_rfl) | (rw [if_neg (by decide +kernel)]; exact ⟨rfl, rfl⟩))
    (fun os started H enc _ => lifted os started H enc)

/-- THE STATEMENT. -/
theorem proved : Rows.SlotsTurnsSaid :=
  over
#print axioms proved
end Go.Proofs.Ytaikjobebbighaa.slotsTurns

