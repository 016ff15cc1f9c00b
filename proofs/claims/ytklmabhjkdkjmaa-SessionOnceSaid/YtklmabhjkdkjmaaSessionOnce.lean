/- SessionOnce: what was told is answered again; what is below is refused; a clerk of its sessions is the same. No condition. -/
import Derived.Test.YtklmabhjkdkjmaaSeI
import Derived.Test.YtklmabhjkdkjmaaSeH
import Derived.Test.YtklmabhjkdkjmaaSeF
import Derived.Test.YtklmabhjkdkjmaaSeG
import Derived.Test.YtklmabhjkdkjmaaTkO
import Derived.Test.YtklmabhjkdkjmaaPost
import Derived.StillTail
import Derived.Deep.DeepCutAuto
namespace Go.Proofs.Ytklmabhjkdkjmaa.sessionOnce
open Go.ChangeShapes Go.WideShapes Go.ChangeAt Go.RowKit
set_option linter.unusedVariables false

theorem laidOut : laidOutB Try.prog = true := by kernel_rfl
theorem own : ownKnob Try.prog.godebug = none := by kernel_rfl
/-- A row lies beside a clerk. -/
theorem OwnT.bes {base : Nat} {w w' : World} {B : Option Addr} {d : Nat} {ts : List Tk} {g b m : Nat} {L : List Tk} (h : OwnT base w B d ts) (hc : ClAt w g b m L) (hb : Bes g b w w') : OwnT base w' B d ts := by
  obtain ⟨u, us, hr, hm, -⟩ := hc.w_.ex
  obtain ⟨n, D, ⟨es, clock, hmb, _⟩, _⟩ := hm
  refine h.keep fun q _ cs hq => hb.block q (Array.getElem?_eq_some_iff.1 hq).1 (fun e => ?_) (fun e => ?_)
  · subst e
    have := hr.symm.trans hq
    simp at this
  · subst e
    have := hmb.symm.trans hq
    simp at this
/-- A clerk lies below what is written. -/
theorem ClAt.low {w w' : World} {g b m base : Nat} {L : List Tk} (h : ClAt w g b m L) (hg : g < base) (hb : b < base) (hw : Below base w w') : ClAt w' g b m L := by
  obtain ⟨u, us, h1, ⟨n, D, ⟨es, clock, hmb, hm1⟩, hm2⟩, h3⟩ := h.w_.ex
  exact ⟨h.good, h.w_.once, h.w_.len17, h.w_.wf, u, us, (hw.block g hg).trans h1, ⟨n, D, ⟨es, clock, (hw.block b hb).trans hmb, hm1⟩, hm2⟩, h3⟩
theorem tellL_no {L : List Tk} {t : Tk} (h : tellE L t.cl t.sq ≠ 0) : tellL L t = L := by unfold tellL; rw [if_neg h]
set_option maxHeartbeats 4000000 in
set_option maxRecDepth 100000 in
theorem walk (A : Option Addr) (c : Nat) (l : List Tk) (w : World) (h : TkS w A l) (hlc : l.length ≤ c) (hcm : c ≤ maxLen) (hw : ∀ t ∈ l, (Lit.int .u64 t.cl).wf = true ∧ (Lit.int .u64 t.sq).wf = true ∧ (Lit.int .i64 t.e).wf = true ∧ (Lit.int .u64 t.n).wf = true) :
    Calls Try.prog 3 #[.slice A l.length c] w fun e w' => e = .returned (.bool true) ∧ Below w.heap.size w w' := by
  have H := Lib.hid h
  have HW := Lib.hid hw
  clear h hw hlc hcm
  go_enter Try.func3, Try.ntmps3
  go_wp2_with fail
  refine (known_any w).mono ?_
  rintro e w1 ⟨rfl, hb1⟩
  have K1 := Lib.hid hb1
  clear hb1
  by_cases hl : 100 < l.length
  · have t1 : (100 : Int) < (l.length : Int) := by omega
    go_wp2_with fail
    go_ret
    exact ⟨rfl, K1.out⟩
  have t1 : decide ((100 : Int) < (l.length : Int)) = false := decide_eq_false (by omega)
  go_wp2_with fail
  refine (new_any w1).mono ?_
  rintro e w2 ⟨rfl, hcl, hb2⟩
  obtain ⟨g, hg⟩ : ∃ g, w1.heap.size + 1 = g := ⟨_, rfl⟩
  obtain ⟨b, hb⟩ : ∃ b, w1.heap.size = b := ⟨_, rfl⟩
  rw [hg] at hcl ⊢
  rw [show ClAt w2 g w1.heap.size 0 [] = ClAt w2 g b 0 [] by rw [hb]] at hcl
  have HGB := Lib.hid (show w.heap.size ≤ g ∧ w.heap.size ≤ b from by have := K1.out.size; omega)
  have hgb2 : g < w2.heap.size ∧ b < w2.heap.size := by
    obtain ⟨_, _, hr0, hm0, -⟩ := hcl.w_.ex
    exact ⟨hr0.lt, hm0.lt⟩
  obtain ⟨bs, hbs⟩ : ∃ bs, w2.heap.size = bs := ⟨_, rfl⟩
  rw [hbs] at hgb2
  have HGL := Lib.hid hgb2
  have HBS := Lib.hid (show w.heap.size ≤ bs ∧ bs ≤ w2.heap.size from by have := K1.out.size; have := hb2.size; omega)
  have CL := Lib.hid hcl
  have K2 := Lib.hid (nextC K1.out hb2)
  clear hcl hb2 hg hb K1 t1 hgb2 hbs
  go_wp2_with fail
  go_loopw [4, 5] (fun v i wr => ∃ (k : Nat) (B : Option Addr) (d : Nat) (T : List Tk), k ≤ l.length ∧ i = .int .i64 k ∧ v = .slice B T.length d ∧ OwnT bs wr B d T ∧ ClAt wr g b k (last16 (latest T)) ∧ bs ≤ wr.heap.size ∧ Below w.heap.size w wr ∧
    (∀ t ∈ T, (t.cl ≠ 0 ∧ t.sq ≠ 0) ∧ (Lit.int .u64 t.cl).wf = true ∧ (Lit.int .u64 t.sq).wf = true) ∧ T.length ≤ k) (fun _ i _ => l.length - (intOf i).toNat)
  case atStart => exact ⟨0, none, 0, [], Nat.zero_le _, rfl, rfl, OwnT.nil _ _, CL.out, HBS.out.2, K2.out, by simp, Nat.le_refl _⟩
  case round =>
    obtain ⟨k, B, d, T, hk, rfl, rfl, hown, hca, hbz, hkp, hgt, hTl⟩ := hrel
    have OW := Lib.hid hown
    have KP := Lib.hid hkp
    have BZ := Lib.hid hbz
    have GT := Lib.hid hgt
    have TL := Lib.hid hTl
    clear CL K2 hown hbz hkp hgt hTl
    by_cases hlt : k < l.length
    · obtain ⟨ad, rfl, -⟩ := H.out k hlt
      have hkl : (k : Int) < (l.length : Int) := by omega
      obtain ⟨hab, h1, h2, h3, h4⟩ := H.out.cells4 k hlt
      obtain ⟨wc, ws, -⟩ := HW.out l[k] (List.getElem_mem _)
      obtain ⟨t, ht⟩ : ∃ t, l[k] = t := ⟨_, rfl⟩
      rw [ht] at h1 h2 h3 h4 wc ws
      obtain ⟨L, hL⟩ : ∃ L, last16 (latest T) = L := ⟨_, rfl⟩
      rw [hL] at hca
      have CK := Lib.hid hca
      have HL := Lib.hid hL
      have WC := Lib.hid wc
      have WS := Lib.hid ws
      have AB := Lib.hid (show (ad.add (k * 4)).block < w.heap.size by rw [add_block]; exact hab)
      have Q1 := Lib.hid h1
      have Q2 := Lib.hid h2
      have Q3 := Lib.hid h3
      have Q4 := Lib.hid h4
      clear hca hL wc ws hab h1 h2 h3 h4 ht
      have hk100 : k ≤ 100 := by omega
      go_upto_region 10 with fail
      go_cut [37] (fun s wx => s = .bool (decide (tellE L t.cl t.sq = 0)) ∧ ClAt wx g b (k + 1) (tellL L t) ∧ OwnT bs wx B d T ∧ bs ≤ wx.heap.size ∧ Below w.heap.size w wx)
      case first =>
        have c1 := (KP.out.cell (p := ad.add (k * 4)) AB.out).trans Q1.out
        have c2 := (KP.out.cell (p := ⟨(ad.add (k * 4)).block, (ad.add (k * 4)).off + 1, none⟩) AB.out).trans Q2.out
        have c3 := (KP.out.cell (p := ⟨(ad.add (k * 4)).block, (ad.add (k * 4)).off + 2, none⟩) AB.out).trans Q3.out
        have c4 := (KP.out.cell (p := ⟨(ad.add (k * 4)).block, (ad.add (k * 4)).off + 3, none⟩) AB.out).trans Q4.out
        have BD := Lib.hid (show Below wr.heap.size wr wr.drew from below_drewN (Below.refl wr.heap.size wr) 1)
        by_cases hz : tellE L t.cl t.sq = 0
        · have C1 := Lib.hid (tell_ok g b k L t wr.drew (CK.out.below BD.out) WC.out hz (by omega))
          have HZd := Lib.hid (decide_eq_true hz)
          clear hz
          refine wp_region_still_tail 16 (by kernel_rfl) (by kernel_rfl) ?_
          simp only [List.take_succ_cons, List.take_zero, List.drop_succ_cons, List.drop_zero]
          repeat still_step
          refine wpStill_nil ?_
          go_wp2_with fail
          refine C1.out.mono ?_
          rintro e w5 ⟨rfl, hc5, hb5⟩
          have C5 := Lib.hid hc5
          have O5 := Lib.hid (OwnT.bes (OW.out.over BD.out) (CK.out.below BD.out) hb5)
          have K5 := Lib.hid ((nextC KP.out BD.out).trans (hb5.below HGB.out.1 HGB.out.2 (nextC KP.out BD.out).size))
          have Z5 := Lib.hid (Nat.le_trans BD.out.size hb5.size)
          clear hc5 hb5
          go_wp2_with fail
          go_meet
          exact ⟨congrArg Value.bool HZd.out.symm, C5.out, O5.out, Nat.le_trans BZ.out Z5.out, K5.out⟩
        · have C1 := Lib.hid (tell_no g b k L t.cl t.sq t.e t.n wr.drew (CK.out.below BD.out) WC.out hz)
          have HZd := Lib.hid (decide_eq_false hz)
          have hzL := Lib.hid (tellL_no hz)
          obtain ⟨z, hzz⟩ : ∃ z, tellE L t.cl t.sq = z := ⟨_, rfl⟩
          rw [hzz] at C1 hz
          have t3 : (z == 0) = false := beq_eq_false_iff_ne.2 hz
          clear hz hzz
          refine wp_region_still_tail 16 (by kernel_rfl) (by kernel_rfl) ?_
          simp only [List.take_succ_cons, List.take_zero, List.drop_succ_cons, List.drop_zero]
          repeat still_step
          refine wpStill_nil ?_
          go_wp2_with fail
          refine C1.out.mono ?_
          rintro e w5 ⟨rfl, hb5⟩
          have B5 := Lib.hid (nextC BD.out hb5)
          clear hb5
          go_wp2_with fail
          go_meet
          refine ⟨congrArg Value.bool HZd.out.symm, ?_, OW.out.over B5.out, Nat.le_trans BZ.out B5.out.size, nextC KP.out B5.out⟩
          rw [hzL.out]
          exact (CK.out.below B5.out).mono (by omega)
      case rest =>
        obtain ⟨rfl, hc5, ho5, hz5, hb5⟩ := hcut
        have C5 := Lib.hid hc5
        have O5 := Lib.hid ho5
        have K5 := Lib.hid hb5
        have Z5 := Lib.hid hz5
        clear hc5 ho5 hb5 hz5 KP OW
        go_upto_if 37 with fail
        go_cut [4] (fun v wx => ∃ B' d' T', v = .slice B' T'.length d' ∧ OwnT bs wx B' d' T' ∧ ClAt wx g b (k + 1) (last16 (latest T')) ∧ bs ≤ wx.heap.size ∧ Below w.heap.size w wx ∧
          (∀ t ∈ T', (t.cl ≠ 0 ∧ t.sq ≠ 0) ∧ (Lit.int .u64 t.cl).wf = true ∧ (Lit.int .u64 t.sq).wf = true) ∧ T'.length ≤ k + 1)
        case first =>
          by_cases hz : tellE L t.cl t.sq = 0
          · have HS := Lib.hid (told_step HL.out.symm hz)
            have HZ := Lib.hid (tellE_zero hz)
            rw [decide_eq_true hz]
            clear hz
            have c1 := (K5.out.cell (p := ad.add (k * 4)) AB.out).trans Q1.out
            have c2 := (K5.out.cell (p := ⟨(ad.add (k * 4)).block, (ad.add (k * 4)).off + 1, none⟩) AB.out).trans Q2.out
            have c3 := (K5.out.cell (p := ⟨(ad.add (k * 4)).block, (ad.add (k * 4)).off + 2, none⟩) AB.out).trans Q3.out
            have c4 := (K5.out.cell (p := ⟨(ad.add (k * 4)).block, (ad.add (k * 4)).off + 3, none⟩) AB.out).trans Q4.out
            go_wp2_with (at_builtin; refine app1T rfl _ _ rfl bs B _ d T t rfl rfl O5.out rfl Z5.out (by have := TL.out; omega) ?_)
            intro B' d' w6 hown6 hb6
            have O6 := Lib.hid hown6
            have K6 := Lib.hid (K5.out.trans (hb6.mono HBS.out.1))
            have C6 := Lib.hid (ClAt.low C5.out HGL.out.1 HGL.out.2 hb6)
            have Z6 := Lib.hid (Nat.le_trans Z5.out hb6.size)
            clear hown6 hb6
            go_wp2_with fail
            go_meet
            refine ⟨B', d', T ++ [t], by rw [List.length_append]; rfl, O6.out, ?_, Z6.out, K6.out, ?_, by have := TL.out; rw [List.length_append, List.length_singleton]; omega⟩
            · rw [← HS.out]; exact C6.out
            · intro x hx
              rcases List.mem_append.1 hx with hx | hx
              · exact GT.out x hx
              · rw [List.mem_singleton] at hx
                subst hx
                exact ⟨⟨HZ.out.1, HZ.out.2.1⟩, WC.out, WS.out⟩
          · rw [decide_eq_false hz]
            have hzL := Lib.hid (tellL_no hz)
            clear hz
            go_wp2_with fail
            go_meet
            refine ⟨B, d, T, rfl, O5.out, ?_, Z5.out, K5.out, GT.out, by have := TL.out; omega⟩
            rw [HL.out, ← hzL.out]
            exact C5.out
        case rest =>
          obtain ⟨B6, d6, T6, rfl, ho6, hc6, hz6, hb6, hgt6, htl6⟩ := hcut
          obtain ⟨L6, hL6⟩ : ∃ L6, last16 (latest T6) = L6 := ⟨_, rfl⟩
          have hts := ho6.tks
          have C1 := Lib.hid (stands_any g b (k + 1) T6 B6 d6 wc hc6 hts hgt6 (by omega))
          rw [hL6] at hc6
          have O6 := Lib.hid ho6
          have CK6 := Lib.hid hc6
          have GT6 := Lib.hid hgt6
          have HL6 := Lib.hid hL6
          have Z6 := Lib.hid hz6
          have K6 := Lib.hid hb6
          have TS6 := Lib.hid hts
          have hl16 : decide ((16 : Int) < (L6.length : Int)) = false := decide_eq_false (by have := hc6.good.few; omega)
          have hL16 := Lib.hid hc6.good.few
          clear ho6 hc6 hgt6 hL6 hz6 hb6 hts C5 O5 Z5 K5
          go_wp2_with fail
          refine C1.out.mono ?_
          rintro e w7 ⟨rfl, hb7⟩
          have B7 := Lib.hid hb7
          have C2 := Lib.hid (list_any g b (k + 1) L6 w7 (CK6.out.below hb7) (by omega))
          clear hb7 C1
          go_wp2_with fail
          refine C2.out.mono ?_
          rintro e w8 ⟨B8, d8, rfl, ho8, hb8⟩
          have B8' := Lib.hid (nextC B7.out hb8)
          have C3 := Lib.hid (of_any B8 d8 L6 w8 ho8.tks CK6.out.w_.wf (by have := hL16.out; omega))
          clear ho8 hb8 C2 B7
          go_wp2_with fail
          refine C3.out.mono ?_
          rintro e w9 ⟨hb9, ⟨hng, -⟩ | ⟨-, g2, b2, hg2, hb2, rfl, hc9⟩⟩
          · exact absurd CK6.out.good hng
          have B9 := Lib.hid (nextC B8'.out hb9)
          have CK9 := Lib.hid hc9
          have C4 := Lib.hid (list_any g2 b2 L6.length L6 w9 hc9 (by have := hL16.out; omega))
          clear hb9 hg2 hb2 hc9 C3 B8'
          go_wp2_with fail
          refine C4.out.mono ?_
          rintro e w10 ⟨B10, d10, rfl, ho10, hb10⟩
          have B10' := Lib.hid (nextC B9.out hb10)
          have N10 := Lib.hid hb10
          have O10 := Lib.hid ho10.tks
          have C5 := Lib.hid (list_any g b (k + 1) L6 w10 (CK6.out.below B10'.out) (by omega))
          clear hb10 ho10 C4
          go_wp2_with fail
          refine C5.out.mono ?_
          rintro e w11 ⟨B11, d11, rfl, ho11, hb11⟩
          have B11' := Lib.hid (nextC B10'.out hb11)
          have N11 := Lib.hid (nextC N10.out hb11)
          have C6 := Lib.hid (same_self B10 B11 d10 d11 L6 w11 (O10.out.over hb11) ho11.tks (by have := hL16.out; omega))
          clear hb11 ho11 C5 O10 B10' N10
          go_wp2_with fail
          refine C6.out.mono ?_
          rintro e w12 ⟨rfl, q, hq⟩
          have hb12 : Below w11.heap.size w11 w12 := by rw [hq]; exact below_drewN (Below.refl _ _) q
          have B12 := Lib.hid (nextC B11'.out hb12)
          have N12 := Lib.hid (nextC N11.out hb12)
          have C7 := Lib.hid (list_any g b (k + 1) L6 w12 (CK6.out.below B12.out) (by omega))
          clear hb12 hq C6 B11' N11
          go_wp2_with fail
          refine C7.out.mono ?_
          rintro e w13 ⟨B13, d13, rfl, ho13, hb13⟩
          have B13' := Lib.hid (nextC B12.out hb13)
          have C8 := stands_any g2 b2 L6.length T6 B6 d6 w13 (by rw [HL6.out]; exact CK9.out.below (nextC N12.out hb13)) (TS6.out.over B13'.out) GT6.out (by omega)
          have C8 := Lib.hid C8
          clear ho13 hb13 C7 B12 N12 CK9
          go_wp2_with fail
          refine C8.out.mono ?_
          rintro e w14 ⟨rfl, hb14⟩
          have B14 := Lib.hid (nextC B13'.out hb14)
          clear hb14 C8 B13'
          go_wp2_with fail
          go_roundw
          case rel => exact ⟨k + 1, B6, d6, T6, by omega, by go_num, rfl, O6.out.over B14.out, by rw [HL6.out]; exact CK6.out.below B14.out, Nat.le_trans Z6.out B14.out.size, nextC K6.out B14.out, GT6.out, htl6⟩
          case measure => simp [intOf]; omega
    · obtain rfl : k = l.length := by omega
      go_wp2_with fail
      go_ret
      exact ⟨rfl, KP.out⟩
theorem opened (H : Type) (enc : TypeId × Value → H) (W : World) (base : Nat) (args : Array Value) (ds gs : List (DataW H)) (before : List MemPlace)
    (hval : ∀ (j : Nat) t v, Try.f3.params[j]? = some t → args[j]? = some v → Value.okWide Try.prog W .any base t v)
    (hW : DataW.Whole enc Try.prog Try.f3.params.toList Rows.sessionOnceSpec.vars false W args.toList ds gs before) :
    Calls Try.prog 3 args W fun e w' => e = .returned (.bool true) ∧ Below W.heap.size W w' := by
  obtain ⟨p, q, hA, hV, rfl, hfz, hnd⟩ := hW
  rw [Try.params3] at hA hval
  obtain ⟨v0, vs0, d0, ds0, p0, q0, hargs, rfl, rfl, h0, r0⟩ := trodAll_cons hA
  obtain ⟨rfl, rfl, rfl⟩ := trodAll_nil r0
  obtain rfl : args = #[v0] := by cases args; simp_all
  obtain ⟨A, c, l, rfl, s0, c0, m0, w0⟩ := open_talks Try.underlying22 Try.underlying32 (by kernel_rfl) rfl rfl rfl (by kernel_rfl) (by kernel_rfl) (by kernel_rfl) Try.underlying28 Try.underlying28 Try.underlying30 rfl rfl (by kernel_rfl) (by kernel_rfl) Try.underlying26 Try.underlying28 (hval 0 22 v0 rfl rfl) h0
  exact walk A c l W s0 c0 m0 w0

set_option maxRecDepth 100000 in
theorem lifted (os : Os) (started : os.Started) (H : Type) (enc : TypeId × Value → H) :
    ReturnsInHanded {} Try.checked os 3 .any (Rows.sessionOnceSpec.pre6 enc Try.prog Try.f3 Rows.sessionOnceRow.domain false) (Rows.sessionOnceSpec.post enc Try.prog Try.f3 false true false false) := by
  refine returnsInHanded_of_change (C := Try.checked) own started (by kernel_rfl) Try.func3
    (ChangeSpec.witness6 (enc := enc) (C := Try.checked) false ⟨#[], #[.slice none 0 0], []⟩ 8 (by kernel_rfl) (by kernel_rfl) (by kernel_rfl) (by kernel_rfl)) ?_
  intro W base args ds gs before hval hW hcnd hh
  refine (opened H enc W base args ds gs before hval hW).mono fun e W' ⟨he, hg⟩ => ?_
  subst he
  exact ⟨_, rfl, law_post hW rfl laidOut (by kernel_rfl) rfl Try.underlying4 (fun l hl => by match l, hl with | [d0], _ => rfl) hg⟩

theorem over : Rows.sessionOnceRow.holds Try.pinned (OpenSpec.ofChange Rows.sessionOnceSpec) :=
  OpenClaim.holds_of_wide 3 Try.f3 rfl rfl rfl rfl rfl rfl rfl ⟨rfl, rfl, rfl, rfl, rfl⟩ rfl rfl rfl rfl rfl (by kernel_rfl) Try.func3 (by kernel_rfl)
    (of_decide_eq_true (by kernel_rfl)) (by unfold Func.isWrapper; first | (rw [if_pos (by decide +kernel)]; kernel_rfl) | (rw [if_neg (by decide +kernel)]; exact ⟨rfl, rfl⟩))
    (fun os started H enc _ => lifted os started H enc)

/-- THE STATEMENT. -/
theorem proved : Rows.SessionOnceSaid :=
  over
end Go.Proofs.Ytklmabhjkdkjmaa.sessionOnce
