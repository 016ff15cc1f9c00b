/- Slots: stands: a pool stands as the document's. -/
import Derived.Test.YtaikjobebbighaaSpY
namespace Go.Proofs.Ytaikjobebbighaa
set_option linter.unusedVariables false
set_option maxRecDepth 100000
open Go.RowKit
set_option maxHeartbeats 8000000 in
theorem stands_any (n g b : Nat) (st : Bk) (ys : List Wh) (p : Nat) (r : Rb) (z : Za) (k : Key) (w : World) (h : BkAt w g b st ys) (ok : BkOk n st) (hn : n ≤ 100000) (hr : RfZ w p r z) (rok : RbOk r) (rel : Rel st r) (hk : k.length ≤ 1000000) :
    Calls Try.prog 23 #[.pointer (some ⟨g, 0, none⟩), .pointer (some ⟨p, 0, none⟩), nm k] w fun e w' => e = .returned (.bool true) ∧ Below w.heap.size w w' := by
  obtain ⟨N, hN⟩ : ∃ N, w.heap.size = N := ⟨_, rfl⟩
  have hNw : N ≤ w.heap.size := by omega
  have HN := Lib.hid hN
  have CP := Lib.hid (refPool_any p r z.NA z.SA z.LA z.cN z.cS z.cL k w hr (by have := rok.nl; omega))
  obtain ⟨k1, k2, k3⟩ := rel.pool k
  have hga := ok.getZ k
  have y2 := hr.row.cell 2
  simp only [List.getElem?_toArray, List.getElem?_cons_succ, List.getElem?_cons_zero] at y2
  have HE := Lib.hid (RkO.rks enE_len hr.ens)
  have HH := Lib.hid h
  have HRF := Lib.hid hr
  have HK1 := Lib.hid k1
  have HK2 := Lib.hid k2
  have HK3 := Lib.hid k3
  have hll := rok.ll
  have HPI := Lib.hid (poolOf_is r k)
  obtain ⟨s, hs⟩ : ∃ s, getZ st k = s := ⟨_, rfl⟩
  rw [hs] at HK1 HK2 HK3 hga
  generalize poolOf r k = q at *
  clear hr h k1 k2 k3 hN
  go_enter Try.func23, Try.ntmps23
  go_wp2_with fail
  refine CP.out.mono ?_
  rintro e w1 ⟨rfl, rfl⟩
  go_wp2_with fail
  go_loopw [21, 8, 9] (fun i v1 v2 wr => ∃ (j : Nat) (B1 : Option Addr) (d1 : Nat) (B2 : Option Addr) (d2 : Nat) (l1 l2 : List Pl), j ≤ r.L.length ∧ i = .int .i64 j ∧ v1 = .slice B1 l1.length d1 ∧ v2 = .slice B2 l2.length d2 ∧ Hid (l1 = holdE (r.L.take j) q) ∧ Hid (l2 = lineE (r.L.take j) q) ∧ Hid (Rows2 N w1 wr B1 d1 l1 B2 d2 l2)) (fun i _ _ _ => r.L.length - (intOf i).toNat)
  case atStart => exact ⟨0, none, 0, none, 0, [], [], by omega, rfl, rfl, rfl, Lib.hid rfl, Lib.hid rfl, Lib.hid ⟨RkO.nil _ _, RkO.nil _ _, (fun q e => by cases e), Below.refl _ _⟩⟩
  case round =>
    obtain ⟨j, B1, d1, B2, d2, l1, l2, hj, rfl, rfl, rfl, hL1, hL2, hR⟩ := hrel
    have hl1 : l1.length ≤ 600 := by rw [hL1.out]; exact Nat.le_trans (holdE_len _ _) (by rw [List.length_take]; omega)
    have hl2 : l2.length ≤ 600 := by rw [hL2.out]; exact Nat.le_trans (lineE_len _ _) (by rw [List.length_take]; omega)
    by_cases hlt : j < r.L.length
    · have hen : RkS enE 4 wr z.LA r.L := HE.out.over (by rw [HN.out]; exact hR.out.low)
      obtain ⟨ad, hadE, hb, hc⟩ := hen j hlt
      rw [hadE] at hen y2
      obtain ⟨-, c1, c2, c3, c4⟩ := hen.cellsE j hlt
      have HT1 := Lib.hid (holdE_take1 (i := q) hlt)
      have HT2 := Lib.hid (lineE_take1 (i := q) hlt)
      rw [hadE]
      generalize r.L[j] = x at *
      obtain ⟨xp, xt, xm, xh⟩ := x
      dsimp only at c1 c2 c3 c4
      have hltz : (j : Int) < (r.L.length : Int) := by omega
      obtain ⟨W1, hW1⟩ : ∃ W1, wr.alloc (.cells #[.int .i64 xp, .int .u64 xt, .int .i64 xm, .bool xh] 87) = W1 := ⟨_, rfl⟩
      obtain ⟨W2, hW2⟩ : ∃ W2, W1.alloc (.cells #[.int .u64 xt, .int .i64 xm] 38) = W2 := ⟨_, rfl⟩
      have hbW1 : Below wr.heap.size wr W1 := by rw [← hW1]; exact (Below.refl _ _).alloc (Nat.le_refl _) _
      have hbW2 : Below W1.heap.size W1 W2 := by rw [← hW2]; exact (Below.refl _ _).alloc (Nat.le_refl _) _
      have HR2 := Lib.hid ((hR.out.over hNw hbW1).over hNw hbW2)
      have rx := (show Row W1 wr.heap.size 87 #[.int .i64 xp, .int .u64 xt, .int .i64 xm, .bool xh] by rw [← hW1]; exact Row.new wr _ _)
      have rx2 := rx.over hbW2
      have rp := (show Row W2 W1.heap.size 38 #[.int .u64 xt, .int .i64 xm] by rw [← hW2]; exact Row.new W1 _ _)
      have x1 := rx.cell 1
      have x2 := rx.cell 2
      have x0 := rx2.cell 0
      have x3 := rx2.cell 3
      have p0 := rp.cell 0
      have p1 := rp.cell 1
      simp only [List.getElem?_toArray, List.getElem?_cons_succ, List.getElem?_cons_zero] at x0 x1 x2 x3 p0 p1
      obtain ⟨B3, d3, w3, hr3, HA3⟩ := HR2.out.app hNw (by omega) (xt, xm)
      obtain ⟨B4, d4, w4, hr4, HA4⟩ := HR2.out.swap.app hNw (by omega) (xt, xm)
      have HA3' := Lib.hid HA3
      have HA4' := Lib.hid HA4
      clear hen hb hc hbW1 hbW2 rx rx2 rp HA3 HA4
      by_cases h1 : xp = q
      · have d7 : (xp == q) = true := by simpa using h1
        by_cases hxh : xh = false
        · rw [hxh] at x3
          have e1 := HT1.out
          have e2 := HT2.out
          rw [if_neg (by simp [hxh]), List.append_nil, ← hL1.out] at e1
          rw [if_pos ⟨h1, hxh⟩, ← hL2.out] at e2
          have HE1 := Lib.hid e1.symm
          have HE2 := Lib.hid e2.symm
          clear e1 e2 h1 hxh
          go_wp2_with (at_builtin; refine Lib.wpList_append_run _ rfl _ _ 31 31 rfl _ _ (by simp [Act.eval]; done) (by simp [Act.eval]; done) _ _ hr4 ?_)
          go_roundw
          case rel => exact ⟨j + 1, B1, d1, B4, d4, l1, _, by omega, by go_num, rfl, by simp, HE1, HE2, Lib.hid HA4'.out.swap⟩
          case measure => simp [intOf]; omega
        · replace hxh : xh = true := by simpa using hxh
          rw [hxh] at x3
          have e1 := HT1.out
          have e2 := HT2.out
          rw [if_pos ⟨h1, hxh⟩, ← hL1.out] at e1
          rw [if_neg (by simp [hxh]), List.append_nil, ← hL2.out] at e2
          have HE1 := Lib.hid e1.symm
          have HE2 := Lib.hid e2.symm
          clear e1 e2 h1 hxh
          go_wp2_with (at_builtin; refine Lib.wpList_append_run _ rfl _ _ 31 31 rfl _ _ (by simp [Act.eval]; done) (by simp [Act.eval]; done) _ _ hr3 ?_)
          go_roundw
          case rel => exact ⟨j + 1, B3, d3, B2, d2, _, l2, by omega, by go_num, by simp, rfl, HE1, HE2, HA3'⟩
          case measure => simp [intOf]; omega
      · have d7 : (xp == q) = false := by simpa using h1
        have e1 := HT1.out
        have e2 := HT2.out
        rw [if_neg (fun h => h1 h.1), List.append_nil, ← hL1.out] at e1
        rw [if_neg (fun h => h1 h.1), List.append_nil, ← hL2.out] at e2
        have HE1 := Lib.hid e1.symm
        have HE2 := Lib.hid e2.symm
        clear e1 e2
        go_wp2_with fail
        go_roundw
        case rel => exact ⟨j + 1, B1, d1, B2, d2, l1, l2, by omega, by go_num, rfl, rfl, HE1, HE2, HR2⟩
        case measure => simp [intOf]; omega
    · obtain rfl : j = r.L.length := by omega
      have e1 := hL1.out
      have e2 := hL2.out
      rw [List.take_length] at e1 e2
      rw [← e1] at HK2
      rw [← HK1.out] at e2
      subst e2
      have CS := Lib.hid (hR.out.sort hNw (by omega) hga.good.ok.rise HK2.out)
      have HQ : q = -1 ∨ ∃ i : Nat, i < r.sizes.length ∧ q = i := by
        rcases HPI.out with ⟨e, -⟩ | ⟨i, hi, e, -⟩
        · exact .inl e
        · exact .inr ⟨i, by rw [rok.len]; exact hi, e⟩
      have HLN := Lib.hid (show l1.length = s.h.length from HK2.out.length_eq.symm)
      clear hR hL1 hL2 e1
      go_wp2_with fail
      refine CS.out.mono ?_
      rintro e w2 ⟨rfl, hr2⟩
      have HR2 := Lib.hid hr2
      have hb2 : Below w1.heap.size w1 w2 := by rw [HN.out]; exact hr2.low
      have CH := Lib.hid (holders_any n g b st ys k w2 (HH.out.over hb2) ok hk)
      rw [hs] at CH
      clear hr2 hb2 CS
      go_wp2_with fail
      refine CH.out.mono ?_
      rintro e w3 ⟨⟨B, d, rfl, ho3⟩, hb3⟩
      have HR3 := Lib.hid (HR2.out.over hNw hb3)
      have CE := Lib.hid (equal_any B d s.h B1 d1 s.h w3 (RkO.rks enP_len ho3) (RkO.rks enP_len HR3.out.a) (by have := hga.few; omega) (by have := hga.few; omega))
      rw [decide_eq_true rfl] at CE
      clear ho3 hb3 CH
      go_wp2_with fail
      rw [HLN.out]
      refine CE.out.mono ?_
      rintro e w4 ⟨rfl, hb4⟩
      have HR4 := Lib.hid (HR3.out.over hNw hb4)
      have CL := Lib.hid (line_any n g b st ys k w4 (HH.out.over (by rw [HN.out]; exact HR4.out.low)) ok hk)
      rw [hs] at CL
      clear hb4 CE
      go_wp2_with fail
      refine CL.out.mono ?_
      rintro e w5 ⟨⟨B, d, rfl, ho5⟩, hb5⟩
      have HR5 := Lib.hid (HR4.out.over hNw hb5)
      have CE := Lib.hid (equal_any B d s.l B2 d2 s.l w5 (RkO.rks enP_len ho5) (RkO.rks enP_len HR5.out.b) (by have := hga.few; omega) (by have := hga.few; omega))
      rw [decide_eq_true rfl] at CE
      clear ho5 hb5 CL
      go_wp2_with fail
      refine CE.out.mono ?_
      rintro e w6 ⟨rfl, hb6⟩
      have HR6 := Lib.hid (HR5.out.over hNw hb6)
      have CB := Lib.hid (left_book n g b st ys k w6 (HH.out.over (by rw [HN.out]; exact HR6.out.low)) ok hk)
      rw [hs, HK3.out] at CB
      clear hb6 CE
      go_wp2_with fail
      refine CB.out.mono ?_
      rintro e w7 ⟨rfl, hb7⟩
      have HR7 := Lib.hid (HR6.out.over hNw hb7)
      have CR := Lib.hid (refLeft_q p r z q w7 (HRF.out.over (by rw [HN.out]; exact HR7.out.low)) rok HQ)
      clear hb7 CB
      go_wp2_with fail
      refine CR.out.mono ?_
      rintro e w8 ⟨rfl, rfl⟩
      go_wp2_with fail
      go_ret
      exact ⟨by simp, by rw [HN.out]; exact HR7.out.low⟩
end Go.Proofs.Ytaikjobebbighaa
