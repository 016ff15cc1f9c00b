/- SlotsLess: made less, holders keep what they have; made great again, all that fits is served. No condition. -/
import Derived.Test.YtaikjobebbighaaDoO
import Derived.Test.YtaikjobebbighaaSlPl
import Derived.Test.YtaikjobebbighaaPost
import Derived.Deep.DeepCutAuto
namespace Go.Proofs.Ytaikjobebbighaa.slotsLess
open Go.ChangeShapes Go.WideShapes Go.ChangeAt Go.RowKit
set_option linter.unusedVariables false
theorem laidOut : laidOutB Try.prog = true := by kernel_rfl
theorem own : ownKnob Try.prog.godebug = none := by kernel_rfl
def p1 : Bk := [(nP, ⟨20, [], []⟩)]
theorem pn1 : setB [] nP 20 = (p1, [], 0) := by rfl
theorem po1 : BkOk 0 p1 := by have := setB_ok (BkOk.nil 0) nP 20; rwa [pn1] at this
set_option maxHeartbeats 8000000 in
set_option maxRecDepth 100000 in
theorem walk (A : Option Addr) (c : Nat) (l : List Dc) (y1 y2 : Int) (w : World) (h : DoS w A l) (hlc : l.length ≤ c) (hcm : c ≤ maxLen) (hw : ∀ x ∈ l, x.name.length ≤ maxLen) (hy1 : 0 ≤ y1 ∧ y1 < 256) (hy2 : 0 ≤ y2 ∧ y2 < 256) :
    Calls Try.prog 5 #[.slice A l.length c, .int .u8 y1, .int .u8 y2] w fun e w' => e = .returned (.bool true) ∧ Below w.heap.size w w' := by
  obtain ⟨N, hN⟩ : ∃ N, w.heap.size = N := ⟨_, rfl⟩
  have hNw : N ≤ w.heap.size := by omega
  have H := Lib.hid h
  have HN := Lib.hid hN
  have K0 := Lib.hid (known_true w)
  have HV := Lib.hid (fun (w1 : World) (hb : Below w.heap.size w w1) => heavy_any A c l w1 (h.over hb) hw hlc hcm)
  clear h hlc hcm hw hN
  go_enter Try.func5, Try.ntmps5
  go_wp2_with fail
  refine K0.out.mono ?_
  rintro e w1 ⟨rfl, hb1⟩
  have C1 := Lib.hid (HV.out w1 hb1)
  have B1 := Lib.hid hb1
  clear hb1 HV K0
  go_wp2_with fail
  refine C1.out.mono ?_
  rintro e w2 ⟨rfl, hb2⟩
  have B2 := Lib.hid (nextC B1.out hb2)
  clear hb2 C1 B1
  by_cases hv : heavyN l 0 = true
  · rw [hv]
    go_wp2_with fail
    go_ret
    exact ⟨rfl, B2.out⟩
  have hv0 : heavyN l 0 = false := by simpa using hv
  have hlen := (heavyN_no l 0 hv0 (by omega) (by omega)).1
  rw [hv0]
  have C2 := Lib.hid (new_at N w w2 (by rw [← HN.out]; exact B2.out) hNw)
  clear hv hv0 B2
  go_wp2_with fail
  refine C2.out.mono ?_
  rintro e w3 ⟨g, b, rfl, -, -, ha, -⟩
  have C3 := Lib.hid (ha.set (k := nP) hNw (BkOk.nil 0) (by decide) pn1)
  clear ha C2
  go_wp2_with fail
  refine C3.out.mono ?_
  rintro e w4 ⟨B1, d1, ys1, rfl, -, -, ha⟩
  have HA := Lib.hid ha
  clear ha C3
  go_wp2_with fail
  go_loopw [30] (fun i wr => ∃ (k : Nat) (st : Bk) (ys : List Wh) (s : Pst), k ≤ l.length ∧ i = .int .i64 k ∧ Hid (At N w wr g b st ys) ∧ Hid (BkOk k st) ∧ Hid (stGet st nP = some s) ∧ Hid (s.size = 20)) (fun i _ => l.length - (intOf i).toNat)
  case atStart => exact ⟨0, p1, ys1, ⟨20, [], []⟩, by omega, rfl, HA, Lib.hid po1, Lib.hid rfl, Lib.hid rfl⟩
  case round =>
    obtain ⟨k, st, ys, s, hk, rfl, hA, hO, hS, hZ⟩ := hrel
    by_cases hlt : k < l.length
    · have hbw := hA.out.low
      have hsd : DoS wr A l := H.out.over (by rw [HN.out]; exact hbw)
      obtain ⟨ad, rfl, hb, hc⟩ := hsd k hlt
      obtain ⟨-, c1, c2, c3, c4⟩ := hsd.cells4 k hlt
      generalize l[k] = x at *
      obtain ⟨xk, xn, xt, xv⟩ := x
      dsimp only at c1 c2 c3 c4
      have hbx : Below wr.heap.size wr (wr.alloc (.cells #[.int .u8 xk, nm xn, .int .u64 xt, .int .i64 xv] 30)) := (Below.refl _ _).alloc (Nat.le_refl _) _
      have ha2 := hA.out.over hNw hbx
      have HA2 := Lib.hid ha2
      have CA := Lib.hid (ha2.ask (k := nP) (x1 := xt) (x2 := xv) hNw hO.out (by omega) (by decide) rfl)
      have CF := Lib.hid (ha2.free (k := nP) (x := xt) hNw hO.out (by decide) rfl)
      clear hbw hsd hb hc hbx ha2
      by_cases e1 : xk = 1
      · subst e1
        go_wp2_with fail
        refine CA.out.mono ?_
        rintro e w5 ⟨ys2, rfl, -, ha⟩
        have HA3 := Lib.hid ha
        clear ha CA CF HA2
        go_wp2_with fail
        go_roundw
        case rel => exact ⟨k + 1, _, ys2, _, by omega, by go_num, HA3, Lib.hid (askB_ok hO.out (by omega) _ _), Lib.hid (askB_self hS.out _), Lib.hid ((askR_size _ _).trans hZ.out)⟩
        case measure => simp [intOf]; omega
      · have d1 : (xk == 1) = false := by simpa using e1
        by_cases e2 : xk = 2
        · subst e2
          go_wp2_with fail
          refine CF.out.mono ?_
          rintro e w5 ⟨B5, d5, ys2, rfl, -, -, ha⟩
          have HA3 := Lib.hid ha
          clear ha CA CF HA2
          go_wp2_with fail
          go_roundw
          case rel => exact ⟨k + 1, _, ys2, _, by omega, by go_num, HA3, Lib.hid ((freeB_ok hO.out _ _).mono (by omega)), Lib.hid (freeB_self hS.out _), Lib.hid ((freeR_size _ _).trans hZ.out)⟩
          case measure => simp [intOf]; omega
        · have d2 : (xk == 2) = false := by simpa using e2
          clear CA CF
          go_wp2_with fail
          go_roundw
          case rel => exact ⟨k + 1, st, ys, s, by omega, by go_num, HA2, Lib.hid (hO.out.mono (by omega)), hS, hZ⟩
          case measure => simp [intOf]; omega
    · obtain rfl : k = l.length := by omega
      have hga := hO.out nP s hS.out
      have CH := Lib.hid (hA.out.holders (k := nP) hNw hO.out (by decide) (getZ_some hS.out))
      go_wp2_with fail
      refine CH.out.mono ?_
      rintro e w5 ⟨BH, dH, rfl, hoH, hb5⟩
      have ha := hA.out.over hNw hb5
      have CL := Lib.hid (ha.line (k := nP) hNw hO.out (by decide) (getZ_some hS.out))
      have HA2 := Lib.hid ha
      have SH := Lib.hid (Side.new hA.out.bk hoH)
      clear ha hoH hb5 CH hA
      go_wp2_with fail
      refine CL.out.mono ?_
      rintro e w6 ⟨BL, dL, rfl, hoL, hb6⟩
      have HA3 := Lib.hid (HA2.out.over hNw hb6)
      have SH2 := Lib.hid (SH.out.over hb6)
      have SL := Lib.hid (Side.new HA2.out.bk hoL)
      clear hoL hb6 CL HA2 SH
      go_wp2_with fail
      go_loopw [58, 12] (fun i q wr => ∃ (k : Nat), k ≤ s.h.length ∧ i = .int .i64 k ∧ q = .int .i64 (sumM (s.h.take k)) ∧ Hid (At N w wr g b st ys) ∧ Hid (Side wr g b ys BH dH s.h) ∧ Hid (Side wr g b ys BL dL s.l)) (fun i _ _ => s.h.length - (intOf i).toNat)
      case atStart => exact ⟨0, by omega, rfl, rfl, HA3, SH2, SL⟩
      case round =>
        obtain ⟨k, hk, rfl, rfl, hA, hSH, hSL⟩ := hrel
        have hq := sumM_le (n := 300) (l := s.h.take k) (fun x hx => hga.good.ok.hs x (List.mem_of_mem_take hx)) (by rw [List.length_take]; have := hga.few; omega)
        by_cases hlt : k < s.h.length
        · have hrs := RkO.rks enP_len hSH.out.row
          obtain ⟨ad, rfl, hb, hc⟩ := hrs k hlt
          obtain ⟨-, c1, c2⟩ := hrs.cells2 k hlt (u := .int .u64 (s.h[k]).1) (v := .int .i64 (s.h[k]).2) rfl
          have hx := hga.good.ok.hs s.h[k] (List.getElem_mem hlt)
          have HT := Lib.hid (sumM_take s.h k hlt)
          have hlk : s.h.length ≤ 300 := by have := hga.few; omega
          generalize s.h[k] = x at *
          generalize sumM (s.h.take k) = sm at *
          obtain ⟨x1, x2⟩ := x
          dsimp only at c1 c2 hx
          have hbx : Below wr.heap.size wr (wr.alloc (.cells #[.int .u64 x1, .int .i64 x2] 38)) := (Below.refl _ _).alloc (Nat.le_refl _) _
          have HA4 := Lib.hid (hA.out.over hNw hbx)
          have SH3 := Lib.hid (hSH.out.over hbx)
          have SL3 := Lib.hid (hSL.out.over hbx)
          clear hrs hb hc hbx hA hSH hSL
          go_wp2_with fail
          go_roundw
          case rel => exact ⟨k + 1, by omega, by go_num, by rw [HT.out], HA4, SH3, SL3⟩
          case measure => simp [intOf]; omega
        · obtain rfl : k = s.h.length := by omega
          rw [List.take_length] at hq ⊢
          obtain ⟨q, hqe⟩ : ∃ q, sumM s.h = q := ⟨_, rfl⟩
          rw [hqe] at hq ⊢
          have HQ := Lib.hid hqe
          obtain ⟨m0, hm0⟩ : ∃ m0, y1 % 20 = m0 := ⟨_, rfl⟩
          have hm1 : y1.tmod 20 = m0 := by rw [Int.tmod_eq_emod_of_nonneg hy1.1]; exact hm0
          have hm2 : 0 ≤ m0 ∧ m0 < 20 := by omega
          obtain ⟨m, hm⟩ : ∃ m, 1 + m0 = m := ⟨_, rfl⟩
          have hm3 : 1 ≤ m ∧ m ≤ 20 := by omega
          have hless := hga.good.less (n := m) (by rw [hZ.out]; omega)
          have hset : setB st nP m = (bkPut st nP ⟨m, s.h, s.l⟩, [], 0) := by
            rw [setB_some hS.out (by decide) hm3.1 (by omega)]
            unfold setR serveP
            rw [hless]
          have C1 := Lib.hid (hA.out.set (k := nP) hNw hO.out (by decide) hset)
          have hS2 := Lib.hid (show stGet (bkPut st nP ⟨m, s.h, s.l⟩) nP = some ⟨m, s.h, s.l⟩ by rw [stGet_put hS.out, if_pos rfl])
          have hO2 := Lib.hid (show BkOk l.length (bkPut st nP ⟨m, s.h, s.l⟩) by have := setB_ok hO.out nP m; rwa [hset] at this)
          have hmm : m ≤ 1048576 ∧ m ≤ 20 ∧ 1 ≤ m := by omega
          clear hqe hm0 hless hset hA hlt hm3
          go_wp2_with fail
          refine C1.out.mono ?_
          rintro e v1 ⟨B2, d2, ys2, rfl, -, ht, ha⟩
          have C2 := Lib.hid (ha.holders (k := nP) hNw hO2.out (by decide) (getZ_some hS2.out))
          have HA2 := Lib.hid ha
          have SH2 := Lib.hid (hSH.out.turn ht)
          have SL2 := Lib.hid (hSL.out.turn ht)
          clear ha ht C1 hSH hSL
          go_wp2_with fail
          refine C2.out.mono ?_
          rintro e v2 ⟨B3, d3, rfl, ho3, hb⟩
          have ha := HA2.out.over hNw hb
          have SH3 := Lib.hid (SH2.out.over hb)
          have SL3 := Lib.hid (SL2.out.over hb)
          have hll : s.h.length ≤ 1000000 ∧ s.l.length ≤ 1000000 := by have := hga.few; omega
          have C3 := Lib.hid ((equal_any B3 d3 s.h BH dH s.h v2 (RkO.rks enP_len ho3) (RkO.rks enP_len SH3.out.row) hll.1 hll.1).mono (R' := fun e w' => e = .returned (.bool true) ∧ Below v2.heap.size v2 w') fun e w' h => ⟨h.1.trans (by simp), h.2⟩)
          have HA3 := Lib.hid ha
          clear ha hb ho3 C2 HA2 SH2 SL2
          go_wp2_with fail
          refine C3.out.mono ?_
          rintro e v3 ⟨rfl, hb⟩
          have ha := HA3.out.over hNw hb
          have SL4 := Lib.hid (SL3.out.over hb)
          have C4 := Lib.hid (ha.line (k := nP) hNw hO2.out (by decide) (getZ_some hS2.out))
          have HA4 := Lib.hid ha
          clear ha hb C3 HA3 SH3 SL3
          go_wp2_with fail
          refine C4.out.mono ?_
          rintro e v4 ⟨B5, d5, rfl, ho5, hb⟩
          have ha := HA4.out.over hNw hb
          have SL5 := Lib.hid (SL4.out.over hb)
          have C5 := Lib.hid ((equal_any B5 d5 s.l BL dL s.l v4 (RkO.rks enP_len ho5) (RkO.rks enP_len SL5.out.row) hll.2 hll.2).mono (R' := fun e w' => e = .returned (.bool true) ∧ Below v4.heap.size v4 w') fun e w' h => ⟨h.1.trans (by simp), h.2⟩)
          have HA5 := Lib.hid ha
          clear ha hb ho5 C4 HA4 SL4
          go_wp2_with fail
          refine C5.out.mono ?_
          rintro e v5 ⟨rfl, hb⟩
          have ha := HA5.out.over hNw hb
          have SL6 := Lib.hid (SL5.out.over hb)
          have C6 := Lib.hid (ha.left (k := nP) (q := max (m - q) 0) hNw hO2.out (by decide) (by rw [getZ_some hS2.out]; unfold leftI; rw [HQ.out]))
          have HA6 := Lib.hid ha
          clear ha hb C5 HA5 SL5
          go_wp2_with fail
          refine C6.out.mono ?_
          rintro e v6 ⟨rfl, hb⟩
          have ha := HA6.out.over hNw hb
          have SL7 := Lib.hid (SL6.out.over hb)
          obtain ⟨wd, hwd⟩ : ∃ wd, 20 + y2 = wd := ⟨_, rfl⟩
          have hwd2 : 20 ≤ wd ∧ wd ≤ 275 := by omega
          have hset : setB (bkPut st nP ⟨m, s.h, s.l⟩) nP wd = (bkPut (bkPut st nP ⟨m, s.h, s.l⟩) nP (serveP wd s.h s.l), (servesF wd s.h s.l).2.2, 0) := by
            rw [setB_some hS2.out (by decide) (by omega) (by omega)]
            rfl
          have C7 := Lib.hid (ha.set (k := nP) hNw hO2.out (by decide) hset)
          clear ha hb C6 HA6 SL6 hset
          go_wp2_with fail
          all_goals
            refine C7.out.mono ?_
            rintro e v7 ⟨B8, d8, ys8, rfl, -, ht, ha⟩
            have HC := Lib.hid (servesF_cnt (size := wd) s.l s.h (fun x hx => (hga.good.ok.ls x hx).1))
            generalize (servesF wd s.h s.l).2.2.length = cn at *
            have HA7 := Lib.hid ha
            have SL8 := Lib.hid (SL7.out.turn ht)
            have hlk : s.l.length ≤ 300 := by have := hga.few; omega
            have hls := hga.good.ok.ls
            clear ha ht C7 SL7 hga
            go_wp2_with fail
            go_loopw [120, 12] (fun i q' wr => ∃ (k : Nat) (qq : Int), k ≤ s.l.length ∧ i = .int .i64 k ∧ q' = .int .i64 qq ∧ Hid (cn = k + cntF wd qq (s.l.drop k)) ∧ 0 ≤ qq ∧ qq ≤ 1048576 * 300 + 1048576 * k ∧ Hid (At N w wr g b (bkPut (bkPut st nP ⟨m, s.h, s.l⟩) nP (serveP wd s.h s.l)) ys8) ∧ Hid (Side wr g b ys8 BL dL s.l)) (fun i _ _ => s.l.length - (intOf i).toNat)
            case atStart => exact ⟨0, q, by omega, rfl, rfl, Lib.hid (by rw [HC.out, HQ.out]; simp), by omega, by omega, HA7, SL8⟩
            case round =>
              obtain ⟨k, qq, hk, rfl, rfl, hcn, hq0, hq1, hA, hSL⟩ := hrel
              by_cases hlt : k < s.l.length
              · have hrs := RkO.rks enP_len hSL.out.row
                obtain ⟨ad, rfl, hb, hc⟩ := hrs k hlt
                obtain ⟨-, c1, c2⟩ := hrs.cells2 k hlt (u := .int .u64 (s.l[k]).1) (v := .int .i64 (s.l[k]).2) rfl
                have hx := hls s.l[k] (List.getElem_mem hlt)
                have HT := Lib.hid (List.drop_eq_getElem_cons hlt)
                generalize s.l[k] = x at *
                obtain ⟨x1, x2⟩ := x
                dsimp only at c1 c2 hx
                have hbx : Below wr.heap.size wr (wr.alloc (.cells #[.int .u64 x1, .int .i64 x2] 38)) := (Below.refl _ _).alloc (Nat.le_refl _) _
                have HA4 := Lib.hid (hA.out.over hNw hbx)
                have SL3 := Lib.hid (hSL.out.over hbx)
                clear hrs hb hc hbx hA hSL HC
                by_cases hgt : wd < qq + x2
                · have hcn2 : cn = k := by
                    have h1 := hcn.out
                    rw [HT.out] at h1
                    unfold cntF at h1
                    rw [if_pos hgt] at h1
                    exact h1
                  clear hcn
                  subst hcn2
                  go_wp2_with fail
                  go_ret
                  exact ⟨by simp, by rw [HN.out]; exact HA4.out.low⟩
                · have HC2 := Lib.hid (show cn = (k + 1 : Nat) + cntF wd (qq + x2) (s.l.drop (k + 1)) by
                    have h1 := hcn.out
                    rw [HT.out] at h1
                    unfold cntF at h1
                    rw [if_neg hgt] at h1
                    dsimp only at h1
                    omega)
                  have hgd : decide (wd < qq + x2) = false := decide_eq_false hgt
                  clear hcn
                  go_wp2_with fail
                  go_roundw
                  case rel => exact ⟨k + 1, qq + x2, by omega, by go_num, rfl, HC2, by omega, by omega, HA4, SL3⟩
                  case measure => simp [intOf]; omega
              · obtain rfl : k = s.l.length := by omega
                have hcn2 : cn = s.l.length := by
                  have h1 := hcn.out
                  rw [List.drop_length] at h1
                  exact h1
                clear hcn HC
                subst hcn2
                go_wp2_with fail
                go_ret
                exact ⟨by simp, by rw [HN.out]; exact hA.out.low⟩
set_option maxRecDepth 100000 in
theorem opened (H : Type) (enc : TypeId × Value → H) (W : World) (base : Nat) (args : Array Value) (ds gs : List (DataW H)) (before : List MemPlace)
    (hval : ∀ (j : Nat) t v, Try.f5.params[j]? = some t → args[j]? = some v → Value.okWide Try.prog W .any base t v)
    (hW : DataW.Whole enc Try.prog Try.f5.params.toList Rows.slotsLessSpec.vars false W args.toList ds gs before) :
    Calls Try.prog 5 args W fun e w' => e = .returned (.bool true) ∧ Below W.heap.size W w' := by
  obtain ⟨p, q, hA, hV, rfl, hfz, hnd⟩ := hW
  rw [Try.params5] at hA hval
  obtain ⟨v0, vs0, d0, ds0, p0, q0, hargs, rfl, rfl, h0, r0⟩ := trodAll_cons hA
  obtain ⟨v1, vs1, d1, ds1, p1, q1, rfl, rfl, rfl, h1, r1⟩ := trodAll_cons r0
  obtain ⟨v2, vs2, d2, ds2, p2, q2, rfl, rfl, rfl, h2, r2⟩ := trodAll_cons r1
  obtain ⟨rfl, rfl, rfl⟩ := trodAll_nil r2
  obtain rfl : args = #[v0, v1, v2] := by cases args; simp_all
  obtain ⟨A, c, l, rfl, s0, c0, m0, w0⟩ := open_dos Try.underlying22 Try.underlying30 (by kernel_rfl) rfl rfl rfl rfl (by kernel_rfl) (by kernel_rfl) (by kernel_rfl) (by kernel_rfl) Try.underlying5 Try.underlying9 Try.underlying28 Try.underlying3 (hval 0 _ _ rfl rfl) h0
  obtain ⟨n1, rfl, -, -, b1⟩ := open_int Try.underlying5 (hval 1 _ _ rfl rfl) h1
  obtain ⟨n2, rfl, -, -, b2⟩ := open_int Try.underlying5 (hval 2 _ _ rfl rfl) h2
  exact walk A c l n1 n2 W s0 c0 m0 (fun x hx => (w0 x hx).2.1) (wf_u8 b1) (wf_u8 b2)

set_option maxRecDepth 100000 in
theorem lifted (os : Os) (started : os.Started) (H : Type) (enc : TypeId × Value → H) :
    ReturnsInHanded {} Try.checked os 5 .any (Rows.slotsLessSpec.pre6 enc Try.prog Try.f5 Rows.slotsLessRow.domain false) (Rows.slotsLessSpec.post enc Try.prog Try.f5 false true false false) := by
  refine returnsInHanded_of_change (C := Try.checked) own started (by kernel_rfl) Try.func5
    (ChangeSpec.witness6 (enc := enc) (C := Try.checked) false ⟨#[], #[.slice none 0 0, .int .u8 0, .int .u8 0], []⟩ 8 (by kernel_rfl) (by kernel_rfl) (by kernel_rfl) (by kernel_rfl)) ?_
  intro W base args ds gs before hval hW hcnd hh
  refine (opened H enc W base args ds gs before hval hW).mono fun e W' ⟨he, hg⟩ => ?_
  subst he
  exact ⟨_, rfl, law_post hW rfl laidOut (by kernel_rfl) rfl Try.underlying4 (fun l hl => by match l, hl with | [d0, d1, d2], _ => rfl) hg⟩

theorem over : Rows.slotsLessRow.holds Try.pinned (OpenSpec.ofChange Rows.slotsLessSpec) :=
  OpenClaim.holds_of_wide 5 Try.f5 rfl rfl rfl rfl rfl rfl rfl ⟨rfl, rfl, rfl, rfl, rfl⟩ rfl rfl rfl rfl rfl (by kernel_rfl) Try.func5 (by kernel_rfl)
    (of_decide_eq_true (by kernel_rfl)) (by unfold Func.isWrapper; first | (rw [if_pos (by decide +kernel)]; kernel_rfl) | (rw [if_neg (by decide +kernel)]; exact ⟨rfl, rfl⟩))
    (fun os started H enc _ => lifted os started H enc)

/-- THE STATEMENT. -/
theorem proved : Rows.SlotsLessSaid :=
  over
#print axioms proved
end Go.Proofs.Ytaikjobebbighaa.slotsLess

