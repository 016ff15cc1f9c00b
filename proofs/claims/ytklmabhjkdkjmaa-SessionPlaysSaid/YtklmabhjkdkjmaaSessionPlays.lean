/- SessionPlays: whatever is told, a clerk answers, and has, what the document says; copies go their own ways. No condition. -/
import Derived.Test.YtklmabhjkdkjmaaSeI
import Derived.Test.YtklmabhjkdkjmaaSeN
import Derived.Test.YtklmabhjkdkjmaaSeF
import Derived.Test.YtklmabhjkdkjmaaSeG
import Derived.Test.YtklmabhjkdkjmaaQh
import Derived.Test.YtklmabhjkdkjmaaTkO
import Derived.Test.YtklmabhjkdkjmaaPost
import Derived.Deep.DeepCutAuto
namespace Go.Proofs.Ytklmabhjkdkjmaa.sessionPlays
open Go.ChangeShapes Go.WideShapes Go.ChangeAt Go.RowKit
set_option linter.unusedVariables false

theorem laidOut : laidOutB Try.prog = true := by kernel_rfl
theorem own : ownKnob Try.prog.godebug = none := by kernel_rfl
def big : Tk := ⟨1099511627776, 1, 0, 0⟩
theorem in7 : ∀ (args : Array Value) (w : World), (callFunc 7 args).run Try.prog w = .ok (.enter 7 args) w := enter_of Try.func7 (by kernel_rfl) (by kernel_rfl)
theorem in13 : ∀ (args : Array Value) (w : World), (callFunc 13 args).run Try.prog w = .ok (.enter 13 args) w := enter_of Try.func13 (by kernel_rfl) (by kernel_rfl)
theorem in10 : ∀ (args : Array Value) (w : World), (callFunc 10 args).run Try.prog w = .ok (.enter 10 args) w := enter_of Try.func10 (by kernel_rfl) (by kernel_rfl)
theorem in11 : ∀ (args : Array Value) (w : World), (callFunc 11 args).run Try.prog w = .ok (.enter 11 args) w := enter_of Try.func11 (by kernel_rfl) (by kernel_rfl)
set_option maxHeartbeats 4000000 in
set_option maxRecDepth 100000 in
theorem walk (A : Option Addr) (c : Nat) (l : List Tk) (cl sq cp : Int) (w : World) (h : TkS w A l) (hw : ∀ t ∈ l, (Lit.int .u64 t.cl).wf = true ∧ (Lit.int .u64 t.sq).wf = true ∧ (Lit.int .i64 t.e).wf = true ∧ (Lit.int .u64 t.n).wf = true) (hc : (Lit.int .u64 cl).wf = true) (hs : (Lit.int .u64 sq).wf = true) :
    Calls Try.prog 4 #[.slice A l.length c, .int .u64 cl, .int .u64 sq, .int .i64 cp] w fun e w' => e = .returned (.bool true) ∧ Below w.heap.size w w' := by
  have H := Lib.hid h
  have HW := Lib.hid hw
  have HC := Lib.hid hc
  clear h hw hc hs
  go_enter Try.func4, Try.ntmps4
  go_wp2_with fail
  refine (known_any w).mono ?_
  rintro e w1 ⟨rfl, hb1⟩
  have K1 := Lib.hid hb1
  clear hb1
  by_cases hl : 100 < l.length
  · have t1 : (100 : Int) < (l.length : Int) := by omega
    go_wp2_with fail
    go_ret
    exact ⟨rfl, K1.out⟩
  have t1 : decide ((100 : Int) < (l.length : Int)) = false := decide_eq_false (by omega)
  go_wp2_with fail
  refine (new_any w1).mono ?_
  rintro e w2 ⟨rfl, hcl, hb2⟩
  obtain ⟨g0, hg⟩ : ∃ g, w1.heap.size + 1 = g := ⟨_, rfl⟩
  obtain ⟨b0, hb⟩ : ∃ b, w1.heap.size = b := ⟨_, rfl⟩
  rw [hg] at hcl ⊢
  rw [show ClAt w2 g0 w1.heap.size 0 [] = ClAt w2 g0 b0 0 [] by rw [hb]] at hcl
  have HGB := Lib.hid (show w.heap.size ≤ g0 ∧ w.heap.size ≤ b0 from by have := K1.out.size; omega)
  have CL := Lib.hid hcl
  have K2 := Lib.hid (nextC K1.out hb2)
  clear hcl hb2 hg hb K1 t1
  go_upto_region 6 with fail
  obtain ⟨r, hr⟩ : ∃ r, w2.heap.size = r := ⟨_, rfl⟩
  obtain ⟨W3, hW3⟩ : ∃ W3, w2.alloc (.cells #[.slice none 0 0] 41) = W3 := ⟨_, rfl⟩
  have hrf : RfAt W3 r none 0 [] := by
    rw [← hW3, ← hr]
    exact ⟨Row.new w2 _ _, TkS.nil _ _, by simp, fun ad e => by cases e⟩
  have RF := Lib.hid hrf
  have C3 := Lib.hid (show ClAt W3 g0 b0 0 [] by rw [← hW3]; exact CL.out.below ((Below.refl _ w2).alloc (Nat.le_refl _) _))
  have K3 := Lib.hid (show Below w.heap.size w W3 by rw [← hW3]; exact nextB K2.out)
  have HR := Lib.hid (show w.heap.size ≤ r by rw [← hr]; exact K2.out.size)
  rw [hW3, hr]
  clear hrf CL K2 hW3 hr
  go_wp2_with fail
  go_loopw [9, 11] (fun v i wr => ∃ (k g b : Nat) (A' : Option Addr) (d : Nat) (L : List Tk), k ≤ l.length ∧ i = .int .i64 k ∧ v = .pointer (some ⟨g, 0, none⟩) ∧ ClAt wr g b k L ∧ RfAt wr r A' d L ∧ Below w.heap.size w wr ∧ w.heap.size ≤ g ∧ w.heap.size ≤ b) (fun _ i _ => l.length - (intOf i).toNat)
  case atStart => exact ⟨0, g0, b0, none, 0, [], Nat.zero_le _, rfl, rfl, C3.out, RF.out, K3.out, HGB.out.1, HGB.out.2⟩
  case round =>
    obtain ⟨k, g, b, A', d, L, hk, rfl, rfl, hca, hrf, hkp, hgw, hbw⟩ := hrel
    have CK := Lib.hid hca
    have RK := Lib.hid hrf
    have KP := Lib.hid hkp
    have GB := Lib.hid (And.intro hgw hbw)
    clear hca hrf hkp hgw hbw RF C3 K3 HGB
    by_cases hlt : k < l.length
    · obtain ⟨ad, rfl, -⟩ := H.out k hlt
      have hkl : (k : Int) < (l.length : Int) := by omega
      have hk100 : k ≤ 100 := by omega
      go_upto_if 44 with fail
      go_cut [9] (fun v wx => ∃ g' b', v = .pointer (some ⟨g', 0, none⟩) ∧ ClAt wx g' b' k L ∧ RfAt wx r A' d L ∧ Below w.heap.size w wx ∧ w.heap.size ≤ g' ∧ w.heap.size ≤ b')
      case first =>
        by_cases hcp : (k : Int) = cp
        · have t1 : ((k : Int) == cp) = true := by simpa using hcp
          clear hcp
          have C1 := Lib.hid (copy_any g b k L wr CK.out)
          go_wp2_with fail
          refine C1.out.mono ?_
          rintro e w4 ⟨g', b', hg', hb', rfl, hc', hb4⟩
          have CN := Lib.hid hc'
          have GN := Lib.hid (And.intro hg' hb')
          have K4 := Lib.hid (nextC KP.out hb4)
          have CO := Lib.hid (CK.out.below hb4)
          have RO := Lib.hid (RK.out.over hb4)
          have GZ := Lib.hid (show g < wr.heap.size ∧ b < wr.heap.size by
            obtain ⟨_, _, hr0, hm0, -⟩ := CK.out.w_.ex
            exact ⟨hr0.lt, hm0.lt⟩)
          have C2 := Lib.hid (show Calls Try.prog 7 #[.pointer (some ⟨g, 0, none⟩), .int .u64 cl, .int .u64 sq, .agg #[.int .i64 0, .int .u64 1]] w4 fun ex w' => ex = .returned (.int .i64 (tellE L cl sq)) ∧ ClAt w' g b (k + 1) (tellL L ⟨cl, sq, 0, 1⟩) ∧ Bes g b w4 w' from
            tell_all g b k L ⟨cl, sq, 0, 1⟩ w4 CO.out HC.out (by omega))
          clear hc' hg' hb' hb4 C1
          go_wp2_with fail
          refine C2.out.mono ?_
          rintro e w5 ⟨rfl, hc5, hb5⟩
          have C5 := Lib.hid hc5
          have RO5 := Lib.hid (RO.out.bes CO.out hb5)
          have K5 := Lib.hid (K4.out.trans (hb5.below GB.out.1 GB.out.2 K4.out.size))
          have CN5 := Lib.hid (show ClAt w5 g' b' k L from CN.out.at_ (by
            obtain ⟨_, _, hr0, hm0, -⟩ := CN.out.w_.ex
            have := GN.out; have := GZ.out
            exact hb5.block g' hr0.lt (by omega) (by omega)) (by
            obtain ⟨_, _, hr0, hm0, -⟩ := CN.out.w_.ex
            have := GN.out; have := GZ.out
            exact hb5.block b' hm0.lt (by omega) (by omega)))
          have C6 := Lib.hid (show Calls Try.prog 7 #[.pointer (some ⟨g, 0, none⟩), .int .u64 1099511627776, .int .u64 1, .agg #[.int .i64 0, .int .u64 0]] w5 fun ex w' => ex = .returned (.int .i64 (tellE (tellL L ⟨cl, sq, 0, 1⟩) big.cl big.sq)) ∧ ClAt w' g b (k + 1 + 1) (tellL (tellL L ⟨cl, sq, 0, 1⟩) big) ∧ Bes g b w5 w' from
            tell_all g b (k + 1) (tellL L ⟨cl, sq, 0, 1⟩) big w5 C5.out (by decide) (by omega))
          clear hc5 hb5 C2 CN RO K4
          go_wp2_with fail
          refine C6.out.mono ?_
          rintro e w6 ⟨rfl, hc6, hb6⟩
          have RO6 := Lib.hid (RO5.out.bes C5.out hb6)
          have K6 := Lib.hid (K5.out.trans (hb6.below GB.out.1 GB.out.2 K5.out.size))
          have CN6 := Lib.hid (show ClAt w6 g' b' k L from CN5.out.at_ (by
            obtain ⟨_, _, hr0, hm0, -⟩ := CN5.out.w_.ex
            have := GN.out; have := GZ.out
            exact hb6.block g' hr0.lt (by omega) (by omega)) (by
            obtain ⟨_, _, hr0, hm0, -⟩ := CN5.out.w_.ex
            have := GN.out; have := GZ.out
            exact hb6.block b' hm0.lt (by omega) (by omega)))
          clear hc6 hb6 C6
          go_wp2_with fail
          go_meet
          exact ⟨g', b', rfl, CN6.out, RO6.out, K6.out, by have := GN.out.1; have := KP.out.size; omega, by have := GN.out.2; have := KP.out.size; omega⟩
        · have t1 : ((k : Int) == cp) = false := beq_eq_false_iff_ne.2 hcp
          clear hcp
          go_wp2_with fail
          go_meet
          exact ⟨g, b, rfl, CK.out, RK.out, KP.out, GB.out.1, GB.out.2⟩
      case rest =>
        obtain ⟨g2, b2, rfl, hc2, hr2, hb2, hg2, hbb2⟩ := hcut
        have C2 := Lib.hid hc2
        have R2 := Lib.hid hr2
        have K2 := Lib.hid hb2
        have GB2 := Lib.hid (And.intro hg2 hbb2)
        clear hc2 hr2 hb2 hg2 hbb2 CK RK KP GB
        obtain ⟨hab, h1, h2, h3, h4⟩ := H.out.cells4 k hlt
        obtain ⟨wfc, wfs, -⟩ := HW.out l[k] (List.getElem_mem _)
        obtain ⟨t, ht⟩ : ∃ t, l[k] = t := ⟨_, rfl⟩
        rw [ht] at h1 h2 h3 h4 wfc wfs
        have WC := Lib.hid wfc
        have AB := Lib.hid (show (ad.add (k * 4)).block < w.heap.size by rw [add_block]; exact hab)
        have QQ := Lib.hid (And.intro h1 (And.intro h2 (And.intro h3 h4)))
        clear wfc wfs hab h1 h2 h3 h4 ht
        go_upto_region 14 with fail
        obtain ⟨TT, F, hTT, hF, hG⟩ := class_of (fun v => v.cell? (ad.add (k * 4)) = some (.int .u64 t.cl) ∧ v.cell? ⟨(ad.add (k * 4)).block, (ad.add (k * 4)).off + 1, none⟩ = some (.int .u64 t.sq) ∧
          v.cell? ⟨(ad.add (k * 4)).block, (ad.add (k * 4)).off + 2, none⟩ = some (.int .i64 t.e) ∧ v.cell? ⟨(ad.add (k * 4)).block, (ad.add (k * 4)).off + 3, none⟩ = some (.int .u64 t.n)) w QQ.out
        have hL : ∀ v, Below w.heap.size w v → ∃ n, v = F n := fun v hv => hG v ⟨(hv.cell (p := ad.add (k * 4)) AB.out).trans QQ.out.1, (hv.cell (p := ⟨(ad.add (k * 4)).block, (ad.add (k * 4)).off + 1, none⟩) AB.out).trans QQ.out.2.1,
          (hv.cell (p := ⟨(ad.add (k * 4)).block, (ad.add (k * 4)).off + 2, none⟩) AB.out).trans QQ.out.2.2.1, (hv.cell (p := ⟨(ad.add (k * 4)).block, (ad.add (k * 4)).off + 3, none⟩) AB.out).trans QQ.out.2.2.2⟩
        have q1 := fun n => (hF n).1
        have q2 := fun n => (hF n).2.1
        have q3 := fun n => (hF n).2.2.1
        have q4 := fun n => (hF n).2.2.2
        have HLC := Lib.hid hL
        clear hF hG hL
        refine wp_region_held (S := fun v => ∃ n, v = F n) (by kernel_rfl) ?_
        change wpAnyH _ _ _ _ _ _ _ _ (World.drew _)
        have KD := Lib.hid (below_drewN K2.out 1)
        refine held_stretch (C := fun v => ∃ n, v = F n) (by kernel_rfl) (fun _ _ _ _ _ h => h) (fun _ h => h) (HLC.out _ KD.out) 30 19 0 _ _ (by kernel_rfl) (by kernel_rfl) (by decide) ?_
        simp only [List.take_succ_cons, List.take_zero, List.drop_zero]
        repeat (go_big_quiet_step (fail))
        refine wpQuiet_nil ?_
        refine held_stretch (C := fun v => ∃ n, v = F n) (by kernel_rfl) (fun _ _ _ _ _ h => h) (fun _ h => h) (HLC.out _ KD.out) 14 16 20 _ _ (by kernel_rfl) (by kernel_rfl) (by decide) ?_
        simp only [List.take_succ_cons, List.take_zero, List.drop_succ_cons, List.drop_zero]
        repeat (go_big_quiet_step (fail))
        refine wpQuiet_nil ?_
        have C4 := Lib.hid (tell_all g2 b2 k L t (wc.drewN 1) (C2.out.below (below_drewN (Below.refl _ _) 1)) WC.out (by omega))
        refine held_call 19 _ 75 7 _ _ #[.pointer (some ⟨g2, 0, none⟩), .int .u64 t.cl, .int .u64 t.sq, .agg #[.int .i64 t.e, .int .u64 t.n]] (by kernel_rfl) rfl rfl rfl in7 (by kernel_rfl) (by kernel_rfl) ?_
        refine C4.out.mono ?_
        rintro e w5 ⟨rfl, hc5, hb5⟩
        refine ⟨_, rfl, ?_⟩
        have C5 := Lib.hid hc5
        have R5 := Lib.hid ((R2.out.over (below_drewN (Below.refl _ _) 1)).bes (C2.out.below (below_drewN (Below.refl _ _) 1)) hb5)
        have K5 := Lib.hid (KD.out.trans (hb5.below GB2.out.1 GB2.out.2 KD.out.size))
        clear hc5 hb5
        refine ⟨HLC.out _ K5.out, ?_⟩
        simp only [List.setIfInBounds_toArray, List.set_cons_succ, List.set_cons_zero]
        have CR := Lib.hid (rtell_any r A' d L t w5 R5.out)
        refine held_call 36 _ 92 13 _ _ #[.pointer (some ⟨r, 0, none⟩), .int .u64 t.cl, .int .u64 t.sq, .agg #[.int .i64 t.e, .int .u64 t.n]] (by kernel_rfl) rfl rfl rfl in13 (by kernel_rfl) (by kernel_rfl) ?_
        refine CR.out.mono ?_
        rintro e w6 ⟨rfl, ⟨A2, d2, hr6⟩, hb6⟩
        refine ⟨_, rfl, ?_⟩
        obtain ⟨L1, hL1⟩ : ∃ L1, tellL L t = L1 := ⟨_, rfl⟩
        rw [hL1] at C5 hr6
        have C6 := Lib.hid (C5.out.bes R5.out hb6)
        have R6 := Lib.hid hr6
        have K6 := Lib.hid (K5.out.trans (hb6.below HR.out HR.out K5.out.size))
        clear hr6 hb6 hL1 CR C4 C5 R5 K5 C2 R2 K2 KD
        refine ⟨HLC.out _ K6.out, ?_⟩
        simp only [List.setIfInBounds_toArray, List.set_cons_succ, List.set_cons_zero]
        have r0 := R6.out.row.cell 0
        simp at r0
        have RL := Lib.hid (show (⟨r, 0, none⟩ : Addr).block < w6.heap.size from R6.out.row.lt)
        obtain ⟨T2, F2, hT2, hF2, hG2⟩ := class_of (fun v => (∃ n, v = F n) ∧ v.cell? ⟨r, 0, none⟩ = some (.slice A2 L1.length d2)) w6 ⟨HLC.out _ K6.out, r0⟩
        have p0 := fun n => (hF2 n).2
        refine held_mono (S' := fun v => ∃ n, v = F2 n) (fun v hv => by obtain ⟨n, rfl⟩ := hv; exact (hF2 n).1) _ _ _ _ ?_
        have HG2 := Lib.hid (fun v (hv : Below w6.heap.size w6 v) => show ∃ n, v = F2 n from hG2 v ⟨HLC.out _ (nextC K6.out hv), (hv.cell (p := ⟨r, 0, none⟩) RL.out).trans r0⟩)
        clear hF2 hG2 q1 q2 q3 q4 r0
        obtain ⟨z, hz⟩ : ∃ z, tellE L t.cl t.sq = z := ⟨_, rfl⟩
        rw [hz]
        clear hz
        have zz : (z != z) = false := by simp
        refine held_stretch (C := fun v => ∃ n, v = F2 n) (by kernel_rfl) (fun _ _ _ _ _ h => h) (fun _ h => h) (HG2.out _ (Below.refl _ _)) 8 4 37 _ _ (by kernel_rfl) (by kernel_rfl) (by decide) ?_
        simp only [List.take_succ_cons, List.take_zero, List.drop_succ_cons, List.drop_zero]
        repeat (go_big_quiet_step (fail))
        refine wpQuiet_nil ?_
        refine held_stretch (C := fun v => ∃ n, v = F2 n) (by kernel_rfl) (fun _ _ _ _ _ h => h) (fun _ h => h) (HG2.out _ (Below.refl _ _)) 4 4 42 _ _ (by kernel_rfl) (by kernel_rfl) (by decide) ?_
        simp only [List.take_succ_cons, List.take_zero, List.drop_succ_cons, List.drop_zero]
        repeat (go_big_quiet_step (fail))
        refine wpQuiet_nil ?_
        have hl1 := C6.out.good.few
        have CL := Lib.hid (list_any g2 b2 (k + 1) L1 w6 C6.out (by omega))
        refine held_call 41 _ 97 10 _ _ #[.pointer (some ⟨g2, 0, none⟩)] (by kernel_rfl) rfl rfl rfl in10 (by kernel_rfl) (by kernel_rfl) ?_
        refine CL.out.mono ?_
        rintro e w7 ⟨B7, d7, rfl, ho7, hb7⟩
        refine ⟨_, rfl, HG2.out _ hb7, ?_⟩
        simp only [List.setIfInBounds_toArray, List.set_cons_succ, List.set_cons_zero]
        have B7' := Lib.hid hb7
        have CS := Lib.hid (same_self B7 A2 d7 d2 L1 w7 ho7.tks (R6.out.tks.over hb7) (by omega))
        clear ho7 hb7 CL
        refine held_call 46 _ 102 11 _ _ #[.slice B7 L1.length d7, .slice A2 L1.length d2] (by kernel_rfl) rfl rfl rfl in11 (by kernel_rfl) (by kernel_rfl) ?_
        refine CS.out.mono ?_
        rintro e w8 ⟨rfl, q, hq⟩
        have hb8 : Below w7.heap.size w7 w8 := by rw [hq]; exact below_drewN (Below.refl _ _) q
        have B8 := Lib.hid (nextC B7'.out hb8)
        refine ⟨_, rfl, HG2.out _ B8.out, ?_⟩
        simp only [List.setIfInBounds_toArray, List.set_cons_succ, List.set_cons_zero]
        clear hq hb8 CS
        refine held_stretch (C := fun v => ∃ n, v = F2 n) (by kernel_rfl) (fun _ _ _ _ _ h => h) (fun _ h => h) (HG2.out _ B8.out) 0 2 47 _ _ (by kernel_rfl) (by kernel_rfl) (by decide) ?_
        simp only [List.take_succ_cons, List.take_zero, List.drop_succ_cons, List.drop_zero]
        repeat (go_big_quiet_step (fail))
        refine wpQuiet_nil ?_
        refine wpAnyH_done (by kernel_rfl) ?_ _
        have C8 := Lib.hid (C6.out.below B8.out)
        have R8 := Lib.hid (R6.out.over B8.out)
        have K8 := Lib.hid (nextC K6.out B8.out)
        have CA := ask_any g2 b2 (k + 1) L1 cl sq w8 C8.out HC.out
        have CB := fun W (hW : Below w8.heap.size w8 W) => rask_any r A2 d2 L1 cl sq W (R8.out.over hW)
        generalize askR L1 cl sq = rr at CA CB
        generalize askK L1 cl sq = ak at CA CB
        generalize askE L1 cl sq = ae at CA CB
        have CA := Lib.hid CA
        have CB := Lib.hid CB
        have hne := fun W => neqR W rr.1 rr.2
        have hnk : (ak != ak) = false := by simp
        have hna : (ae != ae) = false := by simp
        clear p0 HG2 B7' B8 R6 C6 K6 HLC hl1 zz
        go_wp2_with fail
        refine CA.out.mono ?_
        rintro e w9 ⟨rfl, hb9⟩
        obtain ⟨W9, hW9⟩ : ∃ W9, w9.alloc (.cells #[.int .i64 rr.1, .int .u64 rr.2] 30) = W9 := ⟨_, rfl⟩
        have b9 : Below w8.heap.size w8 W9 := by rw [← hW9]; exact nextB hb9
        have r9 : Row W9 w9.heap.size 30 #[.int .i64 rr.1, .int .u64 rr.2] := by rw [← hW9]; exact Row.new w9 _ _
        obtain ⟨X, hX⟩ : ∃ X, w9.heap.size = X := ⟨_, rfl⟩
        rw [hX] at r9
        have HX := Lib.hid hX
        have HW9 := Lib.hid hW9
        have B9 := Lib.hid b9
        have R9 := Lib.hid r9
        have CC := Lib.hid (CB.out W9 b9)
        clear hb9 b9 r9 CA CB hX hW9
        go_wp2_with fail
        rw [HW9.out]
        simp only [HX.out]
        refine CC.out.mono ?_
        rintro e w10 ⟨rfl, hb10⟩
        obtain ⟨W11, hW11⟩ : ∃ W11, w10.alloc (.cells #[.int .i64 rr.1, .int .u64 rr.2] 30) = W11 := ⟨_, rfl⟩
        have b11 : Below W9.heap.size W9 W11 := by rw [← hW11]; exact nextB hb10
        have r11 : Row W11 w10.heap.size 30 #[.int .i64 rr.1, .int .u64 rr.2] := by rw [← hW11]; exact Row.new w10 _ _
        have y11 := R9.out.over b11
        have z0 := y11.cell 0
        have z1 := y11.cell 1
        have z2 := r11.cell 0
        have z3 := r11.cell 1
        simp at z0 z1 z2 z3
        rw [← hW11] at z0 z1 z2 z3
        have B11 := Lib.hid (nextC B9.out b11)
        have HW11 := Lib.hid hW11
        clear b11 r11 y11 hb10 CC R9 B9 HW9 hW11 HX
        go_wp2_with fail
        rw [HW11.out]
        go_roundw
        case rel => exact ⟨k + 1, g2, b2, A2, d2, L1, by omega, by go_num, rfl, C8.out.below B11.out, R8.out.over B11.out, nextC K8.out B11.out, GB2.out.1, GB2.out.2⟩
        case measure => simp [intOf]; omega
    · obtain rfl : k = l.length := by omega
      have tz : decide ((l.length : Int) < (l.length : Int)) = false := by simp
      clear CK RK GB
      go_wp2_with fail
      have hTS := H.out.over KP.out
      have CO := Lib.hid (of_any A c l wr hTS (fun t ht => (HW.out t ht).1) (by omega))
      clear hTS
      refine CO.out.mono ?_
      rintro e w4 ⟨hb4, hof⟩
      have K4 := Lib.hid (nextC KP.out hb4)
      have CP := Lib.hid (rof_any A c l w4 (H.out.over K4.out) (by omega))
      clear hb4 CO KP
      rcases hof with ⟨hng, rfl⟩ | ⟨hgd, g3, b3, hg3, hb3, rfl, hc3⟩
      · have NG := Lib.hid hng
        clear hng
        go_wp2_with fail
        refine CP.out.mono ?_
        rintro e w5 ⟨hb5, ⟨-, rfl⟩ | ⟨hgd, -⟩⟩
        · have KZ := Lib.hid (nextC K4.out hb5)
          clear hb5 CP K4
          go_upto_region 22 with fail
          go_big_quiet (fail)
          obtain ⟨wz, hwz⟩ : ∃ wz, w5.drewN nq = wz := ⟨_, rfl⟩
          have KW := Lib.hid (show Below w.heap.size w wz by rw [← hwz]; exact below_drewN KZ.out nq)
          rw [hwz]
          clear hwz KZ
          go_upto_region 26 with fail
          obtain ⟨Z, hZ⟩ : ∃ Z, wz.heap.size = Z := ⟨_, rfl⟩
          obtain ⟨W6, hW6⟩ : ∃ W6, wz.alloc (.cells #[.map none, .int .i64 0] 48) = W6 := ⟨_, rfl⟩
          have rz : Row W6 Z 48 #[.map none, .int .i64 0] := by rw [← hW6, ← hZ]; exact Row.new wz _ _
          have K6 := Lib.hid (show Below w.heap.size w W6 by rw [← hW6]; exact nextB KW.out)
          have RZ := Lib.hid rz
          rw [hW6, hZ]
          have D1 := Lib.hid (ask_gone (.pointer none) cl sq W6 (fun W _ => there_nil W))
          clear rz hW6 hZ KW
          go_wp2_with fail
          refine D1.out.mono ?_
          rintro e w7 ⟨rfl, hb7⟩
          obtain ⟨W8, hW8⟩ : ∃ W8, w7.alloc (.cells #[.int .i64 0, .int .u64 0] 30) = W8 := ⟨_, rfl⟩
          have b8 : Below W6.heap.size W6 W8 := by rw [← hW8]; exact nextB hb7
          have K8 := Lib.hid (nextC K6.out b8)
          have RZ8 := Lib.hid (RZ.out.over b8)
          have HW8 := Lib.hid hW8
          have D2 := Lib.hid (tell_gone (.pointer (some ⟨Z, 0, none⟩)) cl sq 0 0 W8 (fun W hW => there_zero Z W _ (RZ8.out.over hW)))
          clear hb7 b8 D1 hW8 RZ K6
          go_wp2_with fail
          rw [HW8.out]
          refine D2.out.mono ?_
          rintro e w9 ⟨rfl, hb9⟩
          have K9 := Lib.hid (nextC K8.out hb9)
          have RZ9 := Lib.hid (RZ8.out.over hb9)
          have E1 := Lib.hid (list_gone (.pointer none) w9 (there_nil w9))
          have E2 := Lib.hid (list_gone (.pointer (some ⟨Z, 0, none⟩)) w9 (there_zero Z w9 _ RZ9.out))
          have E3 := Lib.hid (copy_gone (.pointer none) w9 (there_nil w9))
          have E4 := Lib.hid (copy_gone (.pointer (some ⟨Z, 0, none⟩)) w9 (there_zero Z w9 _ RZ9.out))
          clear hb9 D2 K8 RZ8 HW8
          go_wp2_with fail
          refine E1.out.mono ?_
          rintro e w10 ⟨rfl, rfl⟩
          go_wp2_with fail
          refine E2.out.mono ?_
          rintro e w11 ⟨rfl, rfl⟩
          go_wp2_with fail
          refine E3.out.mono ?_
          rintro e w12 ⟨rfl, rfl⟩
          go_wp2_with fail
          refine E4.out.mono ?_
          rintro e w13 ⟨rfl, rfl⟩
          go_wp2_with fail
          go_ret
          exact ⟨rfl, K9.out⟩
        · exact absurd hgd NG.out
      · have C4 := Lib.hid hc3
        have GD := Lib.hid hgd
        clear hgd hg3 hb3 hc3
        go_wp2_with fail
        refine CP.out.mono ?_
        rintro e w5 ⟨hb5, ⟨hng, -⟩ | ⟨-, r3, A3, d3, hr3, rfl, hrf3⟩⟩
        · exact absurd GD.out hng
        have K5 := Lib.hid (nextC K4.out hb5)
        have C5 := Lib.hid (C4.out.below hb5)
        have R5 := Lib.hid hrf3
        clear hb5 hr3 hrf3 CP K4 C4
        have r0 := R5.out.row.cell 0
        simp at r0
        have RL := Lib.hid (show (⟨r3, 0, none⟩ : Addr).block < w5.heap.size from R5.out.row.lt)
        go_upto_region 22 with fail
        obtain ⟨T2, F2, hT2, hF2, hG2⟩ := class_of (fun v => v.cell? ⟨r3, 0, none⟩ = some (.slice A3 l.length d3)) w5 r0
        have HG2 := Lib.hid (fun v (hv : Below w5.heap.size w5 v) => show ∃ n, v = F2 n from hG2 v ((hv.cell (p := ⟨r3, 0, none⟩) RL.out).trans r0))
        have BD := Lib.hid (below_drewN (Below.refl w5.heap.size w5) 1)
        clear hG2 r0
        refine wp_region_held (S := fun v => ∃ n, v = F2 n) (by kernel_rfl) ?_
        change wpAnyH _ _ _ _ _ _ _ _ (World.drew _)
        refine held_stretch (C := fun v => ∃ n, v = F2 n) (by kernel_rfl) (fun _ _ _ _ _ h => h) (fun _ h => h) (HG2.out _ BD.out) 16 8 0 _ _ (by kernel_rfl) (by kernel_rfl) (by decide) ?_
        simp only [List.take_succ_cons, List.take_zero, List.drop_zero]
        repeat (go_big_quiet_step (fail))
        refine wpQuiet_nil ?_
        refine held_stretch (C := fun v => ∃ n, v = F2 n) (by kernel_rfl) (fun _ _ _ _ _ h => h) (fun _ h => h) (HG2.out _ BD.out) 12 4 9 _ _ (by kernel_rfl) (by kernel_rfl) (by decide) ?_
        simp only [List.take_succ_cons, List.take_zero, List.drop_succ_cons, List.drop_zero]
        repeat (go_big_quiet_step (fail))
        refine wpQuiet_nil ?_
        have CL := Lib.hid (list_any g3 b3 l.length l w5.drew (C5.out.below BD.out) (by omega))
        refine held_call 8 _ 152 10 _ _ #[.pointer (some ⟨g3, 0, none⟩)] (by kernel_rfl) rfl rfl rfl in10 (by kernel_rfl) (by kernel_rfl) ?_
        refine CL.out.mono ?_
        rintro e w7 ⟨B7, d7, rfl, ho7, hb7⟩
        have B7' := Lib.hid (nextC BD.out hb7)
        refine ⟨_, rfl, HG2.out _ B7'.out, ?_⟩
        simp only [List.setIfInBounds_toArray, List.set_cons_succ, List.set_cons_zero]
        have CS := Lib.hid (same_self B7 A3 d7 d3 l w7 ho7.tks (R5.out.tks.over B7'.out) (by omega))
        clear ho7 hb7 CL
        refine held_call 13 _ 157 11 _ _ #[.slice B7 l.length d7, .slice A3 l.length d3] (by kernel_rfl) rfl rfl rfl in11 (by kernel_rfl) (by kernel_rfl) ?_
        refine CS.out.mono ?_
        rintro e wz ⟨rfl, q, hq⟩
        have hb8 : Below w7.heap.size w7 wz := by rw [hq]; exact below_drewN (Below.refl _ _) q
        have B8 := Lib.hid (nextC B7'.out hb8)
        refine ⟨_, rfl, HG2.out _ B8.out, ?_⟩
        simp only [List.setIfInBounds_toArray, List.set_cons_succ, List.set_cons_zero]
        clear hq hb8 CS
        refine held_stretch (C := fun v => ∃ n, v = F2 n) (by kernel_rfl) (fun _ _ _ _ _ h => h) (fun _ h => h) (HG2.out _ B8.out) 0 10 14 _ _ (by kernel_rfl) (by kernel_rfl) (by decide) ?_
        simp only [List.take_succ_cons, List.take_zero, List.drop_succ_cons, List.drop_zero]
        repeat (go_big_quiet_step (fail))
        refine wpQuiet_nil ?_
        refine wpAnyH_done (by kernel_rfl) ?_ _
        have KW := Lib.hid (nextC K5.out B8.out)
        go_upto_region 26 with fail
        obtain ⟨Z, hZ⟩ : ∃ Z, wz.heap.size = Z := ⟨_, rfl⟩
        obtain ⟨W6, hW6⟩ : ∃ W6, wz.alloc (.cells #[.map none, .int .i64 0] 48) = W6 := ⟨_, rfl⟩
        have rz : Row W6 Z 48 #[.map none, .int .i64 0] := by rw [← hW6, ← hZ]; exact Row.new wz _ _
        have K6 := Lib.hid (show Below w.heap.size w W6 by rw [← hW6]; exact nextB KW.out)
        have RZ := Lib.hid rz
        rw [hW6, hZ]
        have D1 := Lib.hid (ask_gone (.pointer none) cl sq W6 (fun W _ => there_nil W))
        clear rz hW6 hZ KW
        go_wp2_with fail
        refine D1.out.mono ?_
        rintro e w7 ⟨rfl, hb7⟩
        obtain ⟨W8, hW8⟩ : ∃ W8, w7.alloc (.cells #[.int .i64 0, .int .u64 0] 30) = W8 := ⟨_, rfl⟩
        have b8 : Below W6.heap.size W6 W8 := by rw [← hW8]; exact nextB hb7
        have K8 := Lib.hid (nextC K6.out b8)
        have RZ8 := Lib.hid (RZ.out.over b8)
        have HW8 := Lib.hid hW8
        have D2 := Lib.hid (tell_gone (.pointer (some ⟨Z, 0, none⟩)) cl sq 0 0 W8 (fun W hW => there_zero Z W _ (RZ8.out.over hW)))
        clear hb7 b8 D1 hW8 RZ K6
        go_wp2_with fail
        rw [HW8.out]
        refine D2.out.mono ?_
        rintro e w9 ⟨rfl, hb9⟩
        have K9 := Lib.hid (nextC K8.out hb9)
        have RZ9 := Lib.hid (RZ8.out.over hb9)
        have E1 := Lib.hid (list_gone (.pointer none) w9 (there_nil w9))
        have E2 := Lib.hid (list_gone (.pointer (some ⟨Z, 0, none⟩)) w9 (there_zero Z w9 _ RZ9.out))
        have E3 := Lib.hid (copy_gone (.pointer none) w9 (there_nil w9))
        have E4 := Lib.hid (copy_gone (.pointer (some ⟨Z, 0, none⟩)) w9 (there_zero Z w9 _ RZ9.out))
        clear hb9 D2 K8 RZ8 HW8
        go_wp2_with fail
        refine E1.out.mono ?_
        rintro e w10 ⟨rfl, rfl⟩
        go_wp2_with fail
        refine E2.out.mono ?_
        rintro e w11 ⟨rfl, rfl⟩
        go_wp2_with fail
        refine E3.out.mono ?_
        rintro e w12 ⟨rfl, rfl⟩
        go_wp2_with fail
        refine E4.out.mono ?_
        rintro e w13 ⟨rfl, rfl⟩
        go_wp2_with fail
        go_ret
        exact ⟨rfl, K9.out⟩
theorem opened (H : Type) (enc : TypeId × Value → H) (W : World) (base : Nat) (args : Array Value) (ds gs : List (DataW H)) (before : List MemPlace)
    (hval : ∀ (j : Nat) t v, Try.f4.params[j]? = some t → args[j]? = some v → Value.okWide Try.prog W .any base t v)
    (hW : DataW.Whole enc Try.prog Try.f4.params.toList Rows.sessionPlaysSpec.vars false W args.toList ds gs before) :
    Calls Try.prog 4 args W fun e w' => e = .returned (.bool true) ∧ Below W.heap.size W w' := by
  obtain ⟨p, q, hA, hV, rfl, hfz, hnd⟩ := hW
  rw [Try.params4] at hA hval
  obtain ⟨v0, vs0, d0, ds0, p0, q0, hargs, rfl, rfl, h0, r0⟩ := trodAll_cons hA
  obtain ⟨v1, vs1, d1, ds1, p1, q1, rfl, rfl, rfl, h1, r1⟩ := trodAll_cons r0
  obtain ⟨v2, vs2, d2, ds2, p2, q2, rfl, rfl, rfl, h2, r2⟩ := trodAll_cons r1
  obtain ⟨v3, vs3, d3, ds3, p3, q3, rfl, rfl, rfl, h3, r3⟩ := trodAll_cons r2
  obtain ⟨rfl, rfl, rfl⟩ := trodAll_nil r3
  obtain rfl : args = #[v0, v1, v2, v3] := by cases args; simp_all
  obtain ⟨A, c, l, rfl, s0, c0, m0, w0⟩ := open_talks Try.underlying22 Try.underlying32 (by kernel_rfl) rfl rfl rfl (by kernel_rfl) (by kernel_rfl) (by kernel_rfl) Try.underlying28 Try.underlying28 Try.underlying30 rfl rfl (by kernel_rfl) (by kernel_rfl) Try.underlying26 Try.underlying28 (hval 0 22 v0 rfl rfl) h0
  obtain ⟨x1, rfl, _, _, w1⟩ := open_int Try.underlying28 (hval 1 28 v1 rfl rfl) h1
  obtain ⟨x2, rfl, _, _, w2⟩ := open_int Try.underlying28 (hval 2 28 v2 rfl rfl) h2
  obtain ⟨x3, rfl, _, _, w3⟩ := open_int Try.underlying3 (hval 3 3 v3 rfl rfl) h3
  exact walk A c l x1 x2 x3 W s0 w0 w1 w2

set_option maxRecDepth 100000 in
theorem lifted (os : Os) (started : os.Started) (H : Type) (enc : TypeId × Value → H) :
    ReturnsInHanded {} Try.checked os 4 .any (Rows.sessionPlaysSpec.pre6 enc Try.prog Try.f4 Rows.sessionPlaysRow.domain false) (Rows.sessionPlaysSpec.post enc Try.prog Try.f4 false true false false) := by
  refine returnsInHanded_of_change (C := Try.checked) own started (by kernel_rfl) Try.func4
    (ChangeSpec.witness6 (enc := enc) (C := Try.checked) false ⟨#[], #[.slice none 0 0, .int .u64 0, .int .u64 0, .int .i64 0], []⟩ 8 (by kernel_rfl) (by kernel_rfl) (by kernel_rfl) (by kernel_rfl)) ?_
  intro W base args ds gs before hval hW hcnd hh
  refine (opened H enc W base args ds gs before hval hW).mono fun e W' ⟨he, hg⟩ => ?_
  subst he
  exact ⟨_, rfl, law_post hW rfl laidOut (by kernel_rfl) rfl Try.underlying4 (fun l hl => by match l, hl with | [d0, d1, d2, d3], _ => rfl) hg⟩

theorem over : Rows.sessionPlaysRow.holds Try.pinned (OpenSpec.ofChange Rows.sessionPlaysSpec) :=
  OpenClaim.holds_of_wide 4 Try.f4 rfl rfl rfl rfl rfl rfl rfl ⟨rfl, rfl, rfl, rfl, rfl⟩ rfl rfl rfl rfl rfl (by kernel_rfl) Try.func4 (by kernel_rfl)
    (of_decide_eq_true (by kernel_rfl)) (by unfold Func.isWrapper; first | (rw [if_pos (by decide +kernel)]; kernel_rfl) | (rw [if_neg (by decide +kernel)]; exact ⟨rfl, rfl⟩))
    (fun os started H enc _ => lifted os started H enc)

/-- THE STATEMENT. -/
theorem proved : Rows.SessionPlaysSaid :=
  over
end Go.Proofs.Ytklmabhjkdkjmaa.sessionPlays
