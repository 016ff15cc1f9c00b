/- SlotsHold: holders have no more places than there are; the first in line asks for more than is free; a token is there once. No condition. -/
import Derived.Test.YtaikjobebbighaaDoO
import Derived.Test.YtaikjobebbighaaSlHo
import Derived.Test.YtaikjobebbighaaQj
import Derived.Test.YtaikjobebbighaaPost
import Derived.Deep.DeepCutAuto
import Derived.Deep.CutBlock
namespace Go.Proofs.Ytaikjobebbighaa.slotsHold
open Go.ChangeShapes Go.WideShapes Go.ChangeAt Go.RowKit
set_option linter.unusedVariables false
theorem laidOut : laidOutB Try.prog = true := by kernel_rfl
theorem own : ownKnob Try.prog.godebug = none := by kernel_rfl
theorem eta3 {α β γ : Type} (p : α × β × γ) : p = (p.1, p.2.1, p.2.2) := rfl
set_option maxHeartbeats 16000000 in
set_option maxRecDepth 100000 in
theorem walk (A : Option Addr) (c : Nat) (l : List Dc) (w : World) (h : DoS w A l) (hlc : l.length ≤ c) (hcm : c ≤ maxLen) (hw : ∀ x ∈ l, x.name.length ≤ maxLen) (hw2 : ∀ x ∈ l, (Lit.int .u64 x.tok).wf = true) :
    Calls Try.prog 3 #[.slice A l.length c] w fun e w' => e = .returned (.bool true) ∧ Below w.heap.size w w' := by
  obtain ⟨N, hN⟩ : ∃ N, w.heap.size = N := ⟨_, rfl⟩
  have hNw : N ≤ w.heap.size := by omega
  have H := Lib.hid h
  have HN := Lib.hid hN
  have HW2 := Lib.hid hw2
  have hmm := @run_makeMap Try.prog
  have K0 := Lib.hid (known_true w)
  have HV := Lib.hid (fun (w1 : World) (hb : Below w.heap.size w w1) => heavy_any A c l w1 (h.over hb) hw hlc hcm)
  clear h hlc hcm hw hN hw2
  go_enter Try.func3, Try.ntmps3
  go_wp2_with fail
  refine K0.out.mono ?_
  rintro e w1 ⟨rfl, hb1⟩
  have C1 := Lib.hid (HV.out w1 hb1)
  have B1 := Lib.hid hb1
  clear hb1 HV K0
  go_wp2_with fail
  refine C1.out.mono ?_
  rintro e w2 ⟨rfl, hb2⟩
  have B2 := Lib.hid (nextC B1.out hb2)
  clear hb2 C1 B1
  by_cases hv : heavyN l 0 = true
  · rw [hv]
    go_wp2_with fail
    go_ret
    exact ⟨rfl, B2.out⟩
  have hv0 : heavyN l 0 = false := by simpa using hv
  have hlen := (heavyN_no l 0 hv0 (by omega) (by omega)).1
  have HNL := Lib.hid (heavyN_no l 0 hv0 (by omega) (by omega)).2
  rw [hv0]
  have C2 := Lib.hid (new_at N w w2 (by rw [← HN.out]; exact B2.out) hNw)
  clear hv hv0 B2
  go_wp2_with fail
  refine C2.out.mono ?_
  rintro e w3 ⟨g, b, rfl, -, -, ha, -⟩
  obtain ⟨m, hm⟩ : ∃ m, w3.heap.size = m := ⟨_, rfl⟩
  obtain ⟨w4, hw4⟩ : ∃ w4, w3.alloc (.map #[] 0) = w4 := ⟨_, rfl⟩
  have hb4 : Below w3.heap.size w3 w4 := by rw [← hw4]; exact (Below.refl _ _).alloc (Nat.le_refl _) _
  have HA := Lib.hid (ha.over hNw hb4)
  have HMN : N ≤ m := by have := ha.low.size; have := HN.out; omega
  have HM := Lib.hid (show MSide w4 g b [] m 0 (fun _ => 0) from ⟨by rw [← hw4, ← hm]; exact SzAt.new w3, fun h => by have := ha.bk.mine_lt h; omega⟩)
  clear ha C2 hb4
  go_wp2_with fail
  try rw [hw4]
  try rw [hm]
  clear hw4 hm
  go_loopw [26] (fun i wr => ∃ (k : Nat) (st : Bk) (ys : List Wh) (n : Nat) (f : Key → Int), k ≤ l.length ∧ i = .int .i64 k ∧ Hid (At N w wr g b st ys) ∧ Hid (BkOk k st) ∧ Hid (MSide wr g b ys m n f) ∧ n ≤ k ∧ Hid (∀ j, f j = (getZ st j).size) ∧ Hid (∀ j, Sm (getZ st j))) (fun i _ => l.length - (intOf i).toNat)
  case atStart => exact ⟨0, [], [], 0, fun _ => 0, by omega, rfl, HA, Lib.hid (BkOk.nil 0), HM, Nat.le_refl _, Lib.hid (fun j => rfl), Lib.hid (fun j => ⟨by show sumM [] ≤ (0 : Int); rw [sumM_nil]; omega, fun x hx => by rcases hx with hx | hx <;> cases hx⟩)⟩
  case round =>
    obtain ⟨k, st, ys, n, f, hk, rfl, hA, hO, hM, hnk, hf, hSm⟩ := hrel
    by_cases hlt : k < l.length
    · have hbw := hA.out.low
      have hsd : DoS wr A l := H.out.over (by rw [HN.out]; exact hbw)
      obtain ⟨ad, rfl, hb, hc⟩ := hsd k hlt
      obtain ⟨-, c1, c2, c3, c4⟩ := hsd.cells4 k hlt
      have hnl := HNL.out l[k] (List.getElem_mem hlt)
      have htw := HW2.out l[k] (List.getElem_mem hlt)
      generalize l[k] = x at *
      obtain ⟨xk, xn, xt, xv⟩ := x
      dsimp only at c1 c2 c3 c4 hnl htw
      obtain ⟨X, hX⟩ : ∃ X, wr.heap.size = X := ⟨_, rfl⟩
      obtain ⟨W1, hW1⟩ : ∃ W1, wr.alloc (.cells #[.int .u8 xk, nm xn, .int .u64 xt, .int .i64 xv] 30) = W1 := ⟨_, rfl⟩
      have hbx : Below wr.heap.size wr W1 := by rw [← hW1]; exact (Below.refl _ _).alloc (Nat.le_refl _) _
      have hx1 : RSide W1 g b ys X 30 #[.int .u8 xk, nm xn, .int .u64 xt, .int .i64 xv] := ⟨by rw [← hW1, ← hX]; exact Row.new wr _ _, fun h => by have := hA.out.bk.mine_lt h; omega⟩
      have ha2 := hA.out.over hNw hbx
      have hm2 := hM.out.over hbx
      have hnx : xn.length ≤ 1000000 := by omega
      have hlk := hm2.map.look xn hnx
      have x0 := hx1.row.cell 0
      have x1 := hx1.row.cell 1
      have x2 := hx1.row.cell 2
      have x3 := hx1.row.cell 3
      simp only [List.getElem?_toArray, List.getElem?_cons_succ, List.getElem?_cons_zero] at x0 x1 x2 x3
      have HX1 := Lib.hid hx1
      have HA2 := Lib.hid ha2
      have HM2 := Lib.hid hm2
      have HTW := Lib.hid htw
      clear hbw hsd hb hc hbx ha2 hx1 hm2 hA hM htw HNL
      by_cases hcont : xk = 0 ∧ xv < f xn
      · obtain ⟨rfl, hcv⟩ := hcont
        go_upto_region 10 with fail
        try rw [hW1]
        try rw [hX]
        go_wp2_with fail
        go_roundw
        case rel => exact ⟨k + 1, st, ys, n, f, by omega, by go_num, HA2, Lib.hid (hO.out.mono (by omega)), HM2, by omega, hf, hSm⟩
        case measure => simp [intOf]; omega
      go_upto_region 10 with fail
      try rw [hW1]
      try rw [hX]
      go_upto_block 2 with fail
      go_cut [] (fun wx => ∃ (st' : Bk) (ys' : List Wh) (n' : Nat) (f' : Key → Int), Hid (At N w wx g b st' ys') ∧ Hid (BkOk (k + 1) st') ∧ Hid (MSide wx g b ys' m n' f') ∧ n' ≤ k + 1 ∧ Hid (∀ j, f' j = (getZ st' j).size) ∧ Hid (∀ j, Sm (getZ st' j)) ∧ Hid (RSide wx g b ys' X 30 #[.int .u8 xk, nm xn, .int .u64 xt, .int .i64 xv]))
      case first =>
        have hgz := hO.out.getZ xn
        by_cases e0 : xk = 0
        · subst e0
          have hge : ¬ xv < f xn := fun h => hcont ⟨rfl, h⟩
          have dlt : decide (xv < f xn) = false := decide_eq_false hge
          have C1 := Lib.hid (HA2.out.set (k := xn) (x := xv) hNw hO.out hnx (eta3 (setB st xn xv)))
          go_wp2_with fail
          refine C1.out.mono ?_
          rintro e w5 ⟨B5, d5, ys5, rfl, -, ht, ha⟩
          have hx5 := HX1.out.turn ht
          have hm5 := HM2.out.turn ht
          have hk5 := (setB_ok hO.out xn xv).mono (by omega : k ≤ k + 1)
          have z1 := hx5.row.cell 1
          have z3 := hx5.row.cell 3
          simp only [List.getElem?_toArray, List.getElem?_cons_succ, List.getElem?_cons_zero] at z1 z3
          rcases getZ_set st xn xv with ⟨hne, hst⟩ | ⟨h0, hz⟩
          · have d6 : ((setB st xn xv).2.2 == 0) = false := by simpa using hne
            rw [hst] at ha hk5
            have HA5 := Lib.hid ha
            have HX5 := Lib.hid hx5
            have HM5 := Lib.hid hm5
            have HK5 := Lib.hid hk5
            clear C1 ht ha hx5 hm5 hk5 hst
            go_wp2_with fail
            all_goals (go_meet; exact ⟨st, ys5, n, f, HA5, HK5, HM5, by omega, hf, hSm, HX5⟩)
          · rw [h0]
            obtain ⟨w6, hrun, hsz, hb6⟩ := hm5.map.put (by omega) xn hnx xv
            have hXm : ¬ X = m := hm5.map.not_row hx5.row
            have HA5 := Lib.hid (ha.but hNw hb6 (fun j hj e => hm5.off (by rw [← e]; exact hj)) (fun j e => by rw [e]; have := ha.low.size; have := HN.out; exact HMN))
            have HX5 := Lib.hid (hx5.but hb6 hXm)
            have HM5 := Lib.hid (show MSide w6 g b ys5 m (n + 1) (fun j => if j = xn then xv else f j) from ⟨hsz, hm5.off⟩)
            have HK5 := Lib.hid hk5
            have HF5 := Lib.hid (show ∀ j, (if j = xn then xv else f j) = (getZ (setB st xn xv).1 j).size from fun j => by
              rw [hz j]
              by_cases e : j = xn
              · rw [if_pos e, if_pos e]; rfl
              · rw [if_neg e, if_neg e]; exact hf.out j)
            have HS5 := Lib.hid (show ∀ j, Sm (getZ (setB st xn xv).1 j) from fun j => by
              rw [hz j]
              by_cases e : j = xn
              · rw [if_pos e]; exact setR_sm hgz.good (hSm.out xn) (by rw [← hf.out xn]; omega)
              · rw [if_neg e]; exact hSm.out j)
            clear C1 ht ha hx5 hm5 hk5 hsz hb6 hz
            go_wp2_with fail
            all_goals (go_meet; exact ⟨_, ys5, n + 1, _, HA5, HK5, HM5, by omega, HF5, HS5, HX5⟩)
        have d0 : (xk == 0) = false := by simpa using e0
        by_cases e1 : xk = 1
        · subst e1
          have C1 := Lib.hid (HA2.out.ask (k := xn) (x1 := xt) (x2 := xv) hNw hO.out (by omega) hnx (eta3 (askB st xn (xt, xv))))
          go_wp2_with fail
          refine C1.out.mono ?_
          rintro e w5 ⟨ys5, rfl, ht, ha⟩
          have HA5 := Lib.hid ha
          have HX5 := Lib.hid (HX1.out.turn ht)
          have HM5 := Lib.hid (HM2.out.turn ht)
          have HK5 := Lib.hid (askB_ok hO.out (by omega) xn (xt, xv))
          have HF5 := Lib.hid (show ∀ j, f j = (getZ (askB st xn (xt, xv)).1 j).size from fun j => by
            rw [getZ_ask]
            by_cases e : j = xn
            · rw [if_pos e, askR_size, hf.out j, e]
            · rw [if_neg e]; exact hf.out j)
          have HS5 := Lib.hid (show ∀ j, Sm (getZ (askB st xn (xt, xv)).1 j) from fun j => by
            rw [getZ_ask]
            by_cases e : j = xn
            · rw [if_pos e]; exact askR_sm hgz.good (hSm.out xn) HTW.out
            · rw [if_neg e]; exact hSm.out j)
          clear C1 ht ha
          go_wp2_with fail
          all_goals (go_meet; exact ⟨_, ys5, n, f, HA5, HK5, HM5, by omega, HF5, HS5, HX5⟩)
        have d1 : (xk == 1) = false := by simpa using e1
        by_cases e2 : xk = 2
        · subst e2
          have C1 := Lib.hid (HA2.out.free (k := xn) (x := xt) hNw hO.out hnx (eta3 (freeB st xn xt)))
          go_wp2_with fail
          refine C1.out.mono ?_
          rintro e w5 ⟨B5, d5, ys5, rfl, -, ht, ha⟩
          have HA5 := Lib.hid ha
          have HX5 := Lib.hid (HX1.out.turn ht)
          have HM5 := Lib.hid (HM2.out.turn ht)
          have HK5 := Lib.hid ((freeB_ok hO.out xn xt).mono (by omega : k ≤ k + 1))
          have HF5 := Lib.hid (show ∀ j, f j = (getZ (freeB st xn xt).1 j).size from fun j => by
            rw [getZ_free]
            by_cases e : j = xn
            · rw [if_pos e, freeR_size, hf.out j, e]
            · rw [if_neg e]; exact hf.out j)
          have HS5 := Lib.hid (show ∀ j, Sm (getZ (freeB st xn xt).1 j) from fun j => by
            rw [getZ_free]
            by_cases e : j = xn
            · rw [if_pos e]; exact freeR_sm hgz.good (hSm.out xn) xt
            · rw [if_neg e]; exact hSm.out j)
          clear C1 ht ha
          go_wp2_with fail
          all_goals (go_meet; exact ⟨_, ys5, n, f, HA5, HK5, HM5, by omega, HF5, HS5, HX5⟩)
        have d2 : (xk == 2) = false := by simpa using e2
        have HK5 := Lib.hid (hO.out.mono (by omega : k ≤ k + 1))
        go_wp2_with fail
        all_goals (go_meet; exact ⟨st, ys, n, f, HA2, HK5, HM2, by omega, hf, hSm, HX1⟩)
      case rest =>
        obtain ⟨st', ys', n', f', hA', hO', hM', hn', hf', hS', hX'⟩ := hcut
        obtain ⟨s, hs⟩ : ∃ s, getZ st' xn = s := ⟨_, rfl⟩
        have hga := hO'.out.getZ xn
        have hsm := hS'.out xn
        have hfx := hf'.out xn
        rw [hs] at hga hsm hfx
        have HND := Lib.hid (toks_nodup hga.good.ok)
        have hfw := hga.few
        have HHS := Lib.hid hga.good.ok.hs
        have HHD := Lib.hid hga.good.head
        have HWF := Lib.hid hsm.wf
        have hsz1 := hga.good.ok.s1
        have hsle := hsm.le
        obtain ⟨m2, hm2⟩ : ∃ m2, wc.heap.size = m2 := ⟨_, rfl⟩
        obtain ⟨W2, hW2⟩ : ∃ W2, wc.alloc (.map #[] 0) = W2 := ⟨_, rfl⟩
        have hb2 : Below wc.heap.size wc W2 := by rw [← hW2]; exact (Below.refl _ _).alloc (Nat.le_refl _) _
        have hset2 : SetT W2 m2 [] := by rw [← hW2, ← hm2]; exact SetT.new wc
        have hm2N : N ≤ m2 := by have := hA'.out.low.size; have := HN.out; omega
        have hm2m : ¬ m = m2 := fun e => by have := hM'.out.map.lt; omega
        have hm2X : ¬ X = m2 := fun e => by have := hX'.out.row.lt; omega
        have hm2i : ∀ j, Mine g b ys' j → ¬ j = m2 := fun j hj e => by have := hA'.out.bk.mine_lt hj; omega
        have HA2' := Lib.hid (hA'.out.over hNw hb2)
        have HM2' := Lib.hid (hM'.out.over hb2)
        have hx2 := hX'.out.over hb2
        have HX2' := Lib.hid hx2
        have y1 := hx2.row.cell 1
        simp only [List.getElem?_toArray, List.getElem?_cons_succ, List.getElem?_cons_zero] at y1
        have CH := Lib.hid (HA2'.out.holders (k := xn) hNw hO'.out hnx hs)
        have hW2z : W2.heap.size = m2 + 1 := by rw [← hW2, ← hm2]; simp
        have HSET := Lib.hid hset2
        have HMI := Lib.hid hm2i
        clear hga hsm hb2 hset2 hx2 hA' hM' hX' hm2i HA2 HM2 HX1 x0 x1 x2 x3 hlk hcont
        go_wp2_with fail
        refine CH.out.mono ?_
        rintro e w6 ⟨BH, dH, rfl, hoH, hb6⟩
        have HA6 := Lib.hid (HA2'.out.over hNw hb6)
        have HM6 := Lib.hid (HM2'.out.over hb6)
        have HX6 := Lib.hid (HX2'.out.over hb6)
        have HSET6 := Lib.hid (HSET.out.over hb6)
        have HBH := Lib.hid (show PlO 0 w6 BH dH s.h from hoH.low (Nat.zero_le _))
        have HBHm := Lib.hid (show ∀ q, BH = some ⟨q, 0, none⟩ → ¬ q = m2 from fun q e => by
          rcases hoH.fresh none q e with h1 | h1
          · cases h1
          · omega)
        have hb6z := hb6.size
        clear hoH hb6 CH HA2' HM2' HX2' HSET y1 hW2 hm2
        go_wp2_with fail
        go_loopw [82, 9] (fun i q wr => ∃ (k2 : Nat), k2 ≤ s.h.length ∧ i = .int .i64 k2 ∧ q = .int .i64 (sumM (s.h.take k2)) ∧ Hid (SetT wr m2 ((toks s).take k2).reverse) ∧ Hid (But (fun j => j = m2) w6 wr)) (fun i _ _ => s.h.length - (intOf i).toNat)
        case atStart => exact ⟨0, by omega, rfl, rfl, HSET6, Lib.hid (But.refl _ _)⟩
        case round =>
          obtain ⟨k2, hk2, rfl, rfl, hSet, hBut⟩ := hrel
          have hq := sumM_le (n := 300) (l := s.h.take k2) (fun x hx => HHS.out x (List.mem_of_mem_take hx)) (by rw [List.length_take]; omega)
          by_cases hlt2 : k2 < s.h.length
          · have hro : PlO 0 wr BH dH s.h := HBH.out.but hBut.out HBHm.out
            have hrs := RkO.rks enP_len hro
            obtain ⟨ad, rfl, hb, hc⟩ := hrs k2 hlt2
            obtain ⟨-, c1, c2⟩ := hrs.cells2 k2 hlt2 (u := .int .u64 (s.h[k2]).1) (v := .int .i64 (s.h[k2]).2) rfl
            have hx := HHS.out s.h[k2] (List.getElem_mem hlt2)
            have hwx := HWF.out s.h[k2] (.inl (List.getElem_mem hlt2))
            have htk := toks_h hlt2
            have HT := Lib.hid (sumM_take s.h k2 hlt2)
            generalize s.h[k2] = x at *
            generalize sumM (s.h.take k2) = sm at *
            obtain ⟨t1, t2⟩ := x
            dsimp only at c1 c2 hx hwx htk
            obtain ⟨Wp, hWp⟩ : ∃ Wp, wr.alloc (.cells #[.int .u64 t1, .int .i64 t2] 38) = Wp := ⟨_, rfl⟩
            have hbp : Below wr.heap.size wr Wp := by rw [← hWp]; exact (Below.refl _ _).alloc (Nat.le_refl _) _
            obtain ⟨Wq, hrun, hset3, hbq⟩ := (hSet.out.over hbp).put (by rw [List.length_reverse, List.length_take]; omega) hwx (nodup_take HND.out htk)
            rw [← rev_take htk] at hset3
            have HSET3 := Lib.hid hset3
            have HB3 := Lib.hid ((hBut.out.trans (But.of_below hbp (Nat.le_refl _))).trans hbq)
            have hrp : Row Wp wr.heap.size 38 #[.int .u64 t1, .int .i64 t2] := by rw [← hWp]; exact Row.new wr _ _
            have v0 := hrp.cell 0
            have v1 := hrp.cell 1
            simp only [List.getElem?_toArray, List.getElem?_cons_succ, List.getElem?_cons_zero] at v0 v1
            clear hro hrs hb hc htk hbp hset3 hbq hSet hBut hwx hrp
            go_wp2_with fail
            go_roundw
            case rel => exact ⟨k2 + 1, by omega, by go_num, by rw [HT.out], HSET3, HB3⟩
            case measure => simp [intOf]; omega
          · obtain rfl : k2 = s.h.length := by omega
            rw [List.take_length] at hq ⊢
            have HAr := Lib.hid (HA6.out.but hNw hBut.out HMI.out (fun j e => by rw [e]; exact hm2N))
            have HMr := Lib.hid (HM6.out.but hBut.out hm2m)
            have hxr := HX6.out.but hBut.out hm2X
            have HXr := Lib.hid hxr
            have z1 := hxr.row.cell 1
            simp only [List.getElem?_toArray, List.getElem?_cons_succ, List.getElem?_cons_zero] at z1
            have CL := Lib.hid (HAr.out.line (k := xn) hNw hO'.out hnx hs)
            have hwrz : m2 < wr.heap.size := hSet.out.lt
            obtain ⟨q, hqe⟩ : ∃ q, sumM s.h = q := ⟨_, rfl⟩
            rw [hqe] at hq hsle ⊢
            have HQ := Lib.hid hqe
            clear hxr hBut HA6 HM6 HX6 HSET6 hqe
            go_wp2_with fail
            refine CL.out.mono ?_
            rintro e w7 ⟨BL, dL, rfl, hoL, hb7⟩
            have HA7 := Lib.hid (HAr.out.over hNw hb7)
            have HM7 := Lib.hid (HMr.out.over hb7)
            have HX7 := Lib.hid (HXr.out.over hb7)
            have HSET7 := Lib.hid (hSet.out.over hb7)
            have HBL := Lib.hid (show PlO 0 w7 BL dL s.l from hoL.low (Nat.zero_le _))
            have HBLm := Lib.hid (show ∀ q, BL = some ⟨q, 0, none⟩ → ¬ q = m2 from fun q e => by
              rcases hoL.fresh none q e with h1 | h1
              · cases h1
              · omega)
            clear hoL hb7 CL HAr HMr HXr hSet z1
            go_wp2_with fail
            go_loopw [101] (fun i wr => ∃ (k3 : Nat), k3 ≤ s.l.length ∧ i = .int .i64 k3 ∧ Hid (SetT wr m2 ((toks s).take (s.h.length + k3)).reverse) ∧ Hid (But (fun j => j = m2) w7 wr)) (fun i _ => s.l.length - (intOf i).toNat)
            case atStart => exact ⟨0, by omega, rfl, HSET7, Lib.hid (But.refl _ _)⟩
            case round =>
              obtain ⟨k3, hk3, rfl, hSet, hBut⟩ := hrel
              by_cases hlt3 : k3 < s.l.length
              · have hro : PlO 0 wr BL dL s.l := HBL.out.but hBut.out HBLm.out
                have hrs := RkO.rks enP_len hro
                obtain ⟨ad, rfl, hb, hc⟩ := hrs k3 hlt3
                obtain ⟨-, c1, c2⟩ := hrs.cells2 k3 hlt3 (u := .int .u64 (s.l[k3]).1) (v := .int .i64 (s.l[k3]).2) rfl
                have hwx := HWF.out s.l[k3] (.inr (List.getElem_mem hlt3))
                have htk := toks_l hlt3
                generalize s.l[k3] = x at *
                obtain ⟨t1, t2⟩ := x
                dsimp only at c1 c2 hwx htk
                have hno := nodup_take HND.out htk
                obtain ⟨Wp, hWp⟩ : ∃ Wp, wr.alloc (.cells #[.int .u64 t1, .int .i64 t2] 38) = Wp := ⟨_, rfl⟩
                have hbp : Below wr.heap.size wr Wp := by rw [← hWp]; exact (Below.refl _ _).alloc (Nat.le_refl _) _
                obtain ⟨Wr, hWr⟩ : ∃ Wr, Wp.alloc (.cells #[] 42) = Wr := ⟨_, rfl⟩
                have hbr : Below Wp.heap.size Wp Wr := by rw [← hWr]; exact (Below.refl _ _).alloc (Nat.le_refl _) _
                have hlook := (hSet.out.over hbp).look hwx
                rw [decide_eq_false hno] at hlook
                obtain ⟨Wq, hrun, hset3, hbq⟩ := ((hSet.out.over hbp).over hbr).put (by rw [List.length_reverse, List.length_take]; omega) hwx hno
                rw [← rev_take htk] at hset3
                have HSET3 := Lib.hid hset3
                have HB3 := Lib.hid (((hBut.out.trans (But.of_below hbp (Nat.le_refl _))).trans (But.of_below hbr (Nat.le_refl _))).trans hbq)
                have hrp : Row Wp wr.heap.size 38 #[.int .u64 t1, .int .i64 t2] := by rw [← hWp]; exact Row.new wr _ _
                have v0 := hrp.cell 0
                have u0 := (hrp.over hbr).cell 0
                simp only [List.getElem?_toArray, List.getElem?_cons_zero] at v0 u0
                clear hro hrs hb hc htk hbp hbr hset3 hbq hSet hBut hwx hno hrp
                go_wp2_with fail
                go_roundw
                case rel => exact ⟨k3 + 1, by omega, by go_num, HSET3, HB3⟩
                case measure => simp [intOf]; omega
              · obtain rfl : k3 = s.l.length := by omega
                have HAz := Lib.hid (HA7.out.but hNw hBut.out HMI.out (fun j e => by rw [e]; exact hm2N))
                have HMz := Lib.hid (HM7.out.but hBut.out hm2m)
                have HXz := Lib.hid (HX7.out.but hBut.out hm2X)
                have HBz := Lib.hid (HBL.out.but hBut.out HBLm.out)
                have HSz := Lib.hid hSet.out
                clear HA7 HM7 HX7 HBL hBut HSET7
                have hx8 := HXz.out.row
                obtain ⟨T, F, hT2, hF, hG⟩ := class_of (fun v => Below wr.heap.size wr v) wr.drew (Below.refl _ _).drew
                have g0 : ∀ n, (F n).cell? ⟨X, 1, none⟩ = some (nm xn) := fun n => ((hx8.over (hF n)).cell 1).trans rfl
                have g1 : ∀ n, (Instr.lookup 27 (.map (some m)) (nm xn) false).run Try.prog (F n) = .ok (.int .i64 s.size) (F n) := fun n => by
                  have := (HMz.out.map.over (hF n)).look xn hnx
                  rw [hfx] at this
                  exact this
                have g2 : ∀ n ty, (Builtin.len_ #[40] ty #[.map (some m2)]).run Try.prog (F n) = .ok (.int .i64 ((s.h.length : Int) + (s.l.length : Int))) (F n) := fun n ty => by
                  rw [(HSz.out.over (hF n)).len ty, List.length_reverse, List.length_take, toks_len, Nat.min_self, Int.natCast_add]
                have CLf := Lib.hid (fun (W : World) (hW : ∃ n, W = F n) => ((HAz.out.over (w' := W) hNw (by obtain ⟨n, rfl⟩ := hW; exact hF n)).left (k := xn) (q := s.size - q) hNw hO'.out hnx (by rw [hs]; unfold leftI; rw [HQ.out]; omega)).mono (R' := fun e w' => e = .returned (.int .i64 (s.size - q)) ∧ ∃ n, w' = F n) fun e w' h => ⟨h.1, hG _ (by obtain ⟨n, rfl⟩ := hW; exact nextC (hF n) h.2)⟩)
                have CHf := Lib.hid (fun (W : World) (hW : ∃ n, W = F n) => ((HAz.out.over (w' := W) hNw (by obtain ⟨n, rfl⟩ := hW; exact hF n)).holders (k := xn) hNw hO'.out hnx hs).mono (R' := fun e w' => (∃ B d, e = .returned (.slice B s.h.length d)) ∧ ∃ n, w' = F n) fun e w' h => by
                  obtain ⟨B, d, h1, -, h3⟩ := h
                  exact ⟨⟨B, d, h1⟩, hG _ (by obtain ⟨n, rfl⟩ := hW; exact nextC (hF n) h3)⟩)
                have s0 := hG wr.drew (Below.refl _ _).drew
                have inL := enter_of Try.func16 (by kernel_rfl) (by kernel_rfl)
                have inH := enter_of Try.func14 (by kernel_rfl) (by kernel_rfl)
                have HF := Lib.hid hF
                have d10 : decide (s.size < q) = false := decide_eq_false (by omega)
                have hq0 := hq.1
                have hlft : leftI s.size s.h = s.size - q := by unfold leftI; rw [HQ.out]; omega
                have HD2 := Lib.hid (show ∀ x t, s.l = x :: t → s.size - q < x.2 from fun x t e => by rw [← hlft]; exact HHD.out x t e)
                have hll6 : s.h.length + s.l.length ≤ 100000 := by omega
                clear hx8 hG hF hlft HHD HHS HWF HND HSz HBLm HBHm HBH HMI HQ
                generalize s.l = ll at *
                rcases ll with _ | ⟨x, t⟩
                · skip
                  go_upto_region 37 with fail
                  refine wp_region_held (S := fun v => ∃ n, v = F n) (by kernel_rfl) ?_
                  change wpAnyH _ _ _ _ _ _ _ _ (World.drew _)
                  refine held_stretchL (C := fun v => ∃ n, v = F n) (by kernel_rfl) (fun _ _ _ _ _ h => h) (fun _ h => h) s0 38 10 0 _ _ (by kernel_rfl) (by kernel_rfl) (by decide) ?_
                  simp only [List.take_succ_cons, List.take_zero, List.drop_zero]
                  repeat (go_big_quiet_step (fail))
                  refine wpQuiet_nil ?_
                  refine held_stretchL (C := fun v => ∃ n, v = F n) (by kernel_rfl) (fun _ _ _ _ _ h => h) (fun _ h => h) s0 32 6 11 _ _ (by kernel_rfl) (by kernel_rfl) (by decide) ?_
                  simp only [List.take_succ_cons, List.take_zero, List.drop_succ_cons, List.drop_zero]
                  repeat (go_big_quiet_step (fail))
                  refine wpQuiet_nil ?_
                  refine held_call 10 _ 128 16 _ _ #[.pointer (some ⟨g, 0, none⟩), nm xn] (by kernel_rfl) rfl rfl rfl inL (by kernel_rfl) (by kernel_rfl) ?_
                  refine (CLf.out _ s0).mono ?_
                  rintro e v1 ⟨rfl, s1⟩
                  refine ⟨_, rfl, s1, ?_⟩
                  simp only [List.setIfInBounds_toArray, List.set_cons_succ, List.set_cons_zero]
                  refine held_stretchL (C := fun v => ∃ n, v = F n) (by kernel_rfl) (fun _ _ _ _ _ h => h) (fun _ h => h) s1 17 14 17 _ _ (by kernel_rfl) (by kernel_rfl) (by decide) ?_
                  simp only [List.take_succ_cons, List.take_zero, List.drop_succ_cons, List.drop_zero]
                  repeat (go_big_quiet_step (fail))
                  refine wpQuiet_nil ?_
                  have s2 := s1
                  refine held_one 31 (by kernel_rfl) ?_
                  refine op_off rfl (by kernel_rfl) ?_
                  refine ⟨s2, ?_⟩
                  simp only [List.setIfInBounds_toArray, List.set_cons_succ, List.set_cons_zero, Act.put, List.getElem_toArray, List.getElem_cons_succ, List.getElem_cons_zero]
                  refine held_stretchL (C := fun v => ∃ n, v = F n) (by kernel_rfl) (fun _ _ _ _ _ h => h) (fun _ h => h) s2 7 9 32 _ _ (by kernel_rfl) (by kernel_rfl) (by decide) ?_
                  simp only [List.take_succ_cons, List.take_zero, List.drop_succ_cons, List.drop_zero]
                  repeat (go_big_quiet_step (fail))
                  refine wpQuiet_nil ?_
                  refine held_stretchL (C := fun v => ∃ n, v = F n) (by kernel_rfl) (fun _ _ _ _ _ h => h) (fun _ h => h) s2 5 2 43 _ _ (by kernel_rfl) (by kernel_rfl) (by decide) ?_
                  simp only [List.take_succ_cons, List.take_zero, List.drop_succ_cons, List.drop_zero]
                  repeat (go_big_quiet_step (fail))
                  refine wpQuiet_nil ?_
                  refine held_call 41 _ 159 14 _ _ #[.pointer (some ⟨g, 0, none⟩), nm xn] (by kernel_rfl) rfl rfl rfl inH (by kernel_rfl) (by kernel_rfl) ?_
                  refine (CHf.out _ s2).mono ?_
                  rintro e v3 ⟨⟨B9, d9, rfl⟩, s3⟩
                  refine ⟨_, rfl, s3, ?_⟩
                  simp only [List.setIfInBounds_toArray, List.set_cons_succ, List.set_cons_zero]
                  refine held_stretchL (C := fun v => ∃ n, v = F n) (by kernel_rfl) (fun _ _ _ _ _ h => h) (fun _ h => h) s3 3 1 42 _ _ (by kernel_rfl) (by kernel_rfl) (by decide) ?_
                  simp only [List.take_succ_cons, List.take_zero, List.drop_succ_cons, List.drop_zero]
                  repeat (go_big_quiet_step (fail))
                  refine wpQuiet_nil ?_
                  refine held_stretchL (C := fun v => ∃ n, v = F n) (by kernel_rfl) (fun _ _ _ _ _ h => h) (fun _ h => h) s3 0 3 45 _ _ (by kernel_rfl) (by kernel_rfl) (by decide) ?_
                  simp only [List.take_succ_cons, List.take_zero, List.drop_succ_cons, List.drop_zero]
                  repeat (go_big_quiet_step (fail))
                  refine wpQuiet_nil ?_
                  refine wpAnyH_done (by kernel_rfl) ?_ _
                  obtain ⟨n3, hn3⟩ := s3
                  have hb3 : Below wr.heap.size wr v3 := by rw [hn3]; exact HF.out n3
                  have HA9 := Lib.hid (HAz.out.over hNw hb3)
                  have HM9 := Lib.hid (HMz.out.over hb3)
                  clear hb3 hn3 g0 g1 g2 CLf CHf
                  go_wp2_with fail
                  go_roundw
                  case rel => exact ⟨k + 1, st', ys', n', f', by omega, by go_num, HA9, hO', HM9, hn', hf', hS'⟩
                  case measure => simp [intOf]; omega
                · obtain ⟨gL, rfl, -, hgw, hgc⟩ : ∃ gL, BL = some ⟨gL, 0, none⟩ ∧ 0 ≤ gL ∧ gL < wr.heap.size ∧ (x :: t).length ≤ dL := by
                    rcases HBz.out.form with ⟨-, -, e⟩ | h1
                    · cases e
                    · exact h1
                  obtain ⟨-, b0, b1⟩ := (RkO.rks enP_len HBz.out).cells2 0 (by simp) (u := .int .u64 x.1) (v := .int .i64 x.2) rfl
                  have g3 : ∀ n, (F n).cell? ⟨gL, 1, none⟩ = some (.int .i64 x.2) := fun n => ((HF.out n).cell (p := ⟨gL, 1, none⟩) hgw).trans b1
                  have hxl := HD2.out x t rfl
                  have d11 : decide (x.2 ≤ s.size - q) = false := decide_eq_false (by omega)
                  have hpos : (0 : Int) < ((t.length : Nat) : Int) + 1 := by omega
                  have g2c : ∀ n ty, (Builtin.len_ #[40] ty #[.map (some m2)]).run Try.prog (F n) = .ok (.int .i64 ((s.h.length : Int) + ((t.length : Int) + 1))) (F n) := fun n ty => (g2 n ty).trans (by simp)
                  have hll7 : s.h.length + (t.length + 1) ≤ 100000 := by simpa using hll6
                  have hwr : wrap64 ((s.h.length : Int) + ((t.length : Int) + 1)) = (s.h.length : Int) + ((t.length : Int) + 1) := by rw [wrap64]; omega
                  clear b0 b1 HBz HD2 g2
                  go_upto_region 37 with fail
                  refine wp_region_held (S := fun v => ∃ n, v = F n) (by kernel_rfl) ?_
                  change wpAnyH _ _ _ _ _ _ _ _ (World.drew _)
                  refine held_stretchL (C := fun v => ∃ n, v = F n) (by kernel_rfl) (fun _ _ _ _ _ h => h) (fun _ h => h) s0 38 10 0 _ _ (by kernel_rfl) (by kernel_rfl) (by decide) ?_
                  simp only [List.take_succ_cons, List.take_zero, List.drop_zero]
                  repeat (go_big_quiet_step (fail))
                  refine wpQuiet_nil ?_
                  refine held_stretchL (C := fun v => ∃ n, v = F n) (by kernel_rfl) (fun _ _ _ _ _ h => h) (fun _ h => h) s0 32 6 11 _ _ (by kernel_rfl) (by kernel_rfl) (by decide) ?_
                  simp only [List.take_succ_cons, List.take_zero, List.drop_succ_cons, List.drop_zero]
                  repeat (go_big_quiet_step (fail))
                  refine wpQuiet_nil ?_
                  refine held_call 10 _ 128 16 _ _ #[.pointer (some ⟨g, 0, none⟩), nm xn] (by kernel_rfl) rfl rfl rfl inL (by kernel_rfl) (by kernel_rfl) ?_
                  refine (CLf.out _ s0).mono ?_
                  rintro e v1 ⟨rfl, s1⟩
                  refine ⟨_, rfl, s1, ?_⟩
                  simp only [List.setIfInBounds_toArray, List.set_cons_succ, List.set_cons_zero]
                  refine held_stretchL (C := fun v => ∃ n, v = F n) (by kernel_rfl) (fun _ _ _ _ _ h => h) (fun _ h => h) s1 17 14 17 _ _ (by kernel_rfl) (by kernel_rfl) (by decide) ?_
                  simp only [List.take_succ_cons, List.take_zero, List.drop_succ_cons, List.drop_zero]
                  repeat (go_big_quiet_step (fail))
                  refine wpQuiet_nil ?_
                  refine held_call 31 _ 149 16 _ _ #[.pointer (some ⟨g, 0, none⟩), nm xn] (by kernel_rfl) rfl rfl rfl inL (by kernel_rfl) (by kernel_rfl) ?_
                  refine (CLf.out _ s1).mono ?_
                  rintro e v2 ⟨rfl, s2⟩
                  refine ⟨_, rfl, s2, ?_⟩
                  simp only [List.setIfInBounds_toArray, List.set_cons_succ, List.set_cons_zero]
                  refine held_stretchL (C := fun v => ∃ n, v = F n) (by kernel_rfl) (fun _ _ _ _ _ h => h) (fun _ h => h) s2 7 9 32 _ _ (by kernel_rfl) (by kernel_rfl) (by decide) ?_
                  simp only [List.take_succ_cons, List.take_zero, List.drop_succ_cons, List.drop_zero]
                  repeat (go_big_quiet_step (fail))
                  refine wpQuiet_nil ?_
                  refine held_stretchL (C := fun v => ∃ n, v = F n) (by kernel_rfl) (fun _ _ _ _ _ h => h) (fun _ h => h) s2 5 2 43 _ _ (by kernel_rfl) (by kernel_rfl) (by decide) ?_
                  simp only [List.take_succ_cons, List.take_zero, List.drop_succ_cons, List.drop_zero]
                  repeat (go_big_quiet_step (fail))
                  refine wpQuiet_nil ?_
                  refine held_call 41 _ 159 14 _ _ #[.pointer (some ⟨g, 0, none⟩), nm xn] (by kernel_rfl) rfl rfl rfl inH (by kernel_rfl) (by kernel_rfl) ?_
                  refine (CHf.out _ s2).mono ?_
                  rintro e v3 ⟨⟨B9, d9, rfl⟩, s3⟩
                  refine ⟨_, rfl, s3, ?_⟩
                  simp only [List.setIfInBounds_toArray, List.set_cons_succ, List.set_cons_zero]
                  refine held_stretchL (C := fun v => ∃ n, v = F n) (by kernel_rfl) (fun _ _ _ _ _ h => h) (fun _ h => h) s3 3 1 42 _ _ (by kernel_rfl) (by kernel_rfl) (by decide) ?_
                  simp only [List.take_succ_cons, List.take_zero, List.drop_succ_cons, List.drop_zero]
                  repeat (go_big_quiet_step (fail))
                  refine wpQuiet_nil ?_
                  refine held_stretchL (C := fun v => ∃ n, v = F n) (by kernel_rfl) (fun _ _ _ _ _ h => h) (fun _ h => h) s3 0 3 45 _ _ (by kernel_rfl) (by kernel_rfl) (by decide) ?_
                  simp only [List.take_succ_cons, List.take_zero, List.drop_succ_cons, List.drop_zero]
                  repeat (go_big_quiet_step (fail))
                  refine wpQuiet_nil ?_
                  refine wpAnyH_done (by kernel_rfl) ?_ _
                  obtain ⟨n3, hn3⟩ := s3
                  have hb3 : Below wr.heap.size wr v3 := by rw [hn3]; exact HF.out n3
                  have HA9 := Lib.hid (HAz.out.over hNw hb3)
                  have HM9 := Lib.hid (HMz.out.over hb3)
                  clear hb3 hn3 g0 g1 g2c CLf CHf
                  go_wp2_with fail
                  go_roundw
                  case rel => exact ⟨k + 1, st', ys', n', f', by omega, by go_num, HA9, hO', HM9, hn', hf', hS'⟩
                  case measure => simp [intOf]; omega
    · obtain rfl : k = l.length := by omega
      go_wp2_with fail
      go_ret
      exact ⟨rfl, by rw [HN.out]; exact hA.out.low⟩
set_option maxRecDepth 100000 in
theorem opened (H : Type) (enc : TypeId × Value → H) (W : World) (base : Nat) (args : Array Value) (ds gs : List (DataW H)) (before : List MemPlace)
    (hval : ∀ (j : Nat) t v, Try.f3.params[j]? = some t → args[j]? = some v → Value.okWide Try.prog W .any base t v)
    (hW : DataW.Whole enc Try.prog Try.f3.params.toList Rows.slotsHoldSpec.vars false W args.toList ds gs before) :
    Calls Try.prog 3 args W fun e w' => e = .returned (.bool true) ∧ Below W.heap.size W w' := by
  obtain ⟨p, q, hA, hV, rfl, hfz, hnd⟩ := hW
  rw [Try.params3] at hA hval
  obtain ⟨v0, vs0, d0, ds0, p0, q0, hargs, rfl, rfl, h0, r0⟩ := trodAll_cons hA
  obtain ⟨rfl, rfl, rfl⟩ := trodAll_nil r0
  obtain rfl : args = #[v0] := by cases args; simp_all
  obtain ⟨A, c, l, rfl, s0, c0, m0, w0⟩ := open_dos Try.underlying22 Try.underlying30 (by kernel_rfl) rfl rfl rfl rfl (by kernel_rfl) (by kernel_rfl) (by kernel_rfl) (by kernel_rfl) Try.underlying5 Try.underlying9 Try.underlying28 Try.underlying3 (hval 0 _ _ rfl rfl) h0
  exact walk A c l W s0 c0 m0 (fun x hx => (w0 x hx).2.1) (fun x hx => (w0 x hx).2.2.1)

set_option maxRecDepth 100000 in
theorem lifted (os : Os) (started : os.Started) (H : Type) (enc : TypeId × Value → H) :
    ReturnsInHanded {} Try.checked os 3 .any (Rows.slotsHoldSpec.pre6 enc Try.prog Try.f3 Rows.slotsHoldRow.domain false) (Rows.slotsHoldSpec.post enc Try.prog Try.f3 false true false false) := by
  refine returnsInHanded_of_change (C := Try.checked) own started (by kernel_rfl) Try.func3
    (ChangeSpec.witness6 (enc := enc) (C := Try.checked) false ⟨#[], #[.slice none 0 0], []⟩ 8 (by kernel_rfl) (by kernel_rfl) (by kernel_rfl) (by kernel_rfl)) ?_
  intro W base args ds gs before hval hW hcnd hh
  refine (opened H enc W base args ds gs before hval hW).mono fun e W' ⟨he, hg⟩ => ?_
  subst he
  exact ⟨_, rfl, law_post hW rfl laidOut (by kernel_rfl) rfl Try.underlying4 (fun l hl => by match l, hl with | [d0], _ => rfl) hg⟩

theorem over : Rows.slotsHoldRow.holds Try.pinned (OpenSpec.ofChange Rows.slotsHoldSpec) :=
  OpenClaim.holds_of_wide 3 Try.f3 rfl rfl rfl rfl rfl rfl rfl ⟨rfl, rfl, rfl, rfl, rfl⟩ rfl rfl rfl rfl rfl (by kernel_rfl) Try.func3 (by kernel_rfl)
    (of_decide_eq_true (by kernel_rfl)) (by unfold Func.isWrapper; first | (rw [if_pos (by decide +kernel)]; kernel_rfl) | (rw [if_neg (by decide +kernel)]; exact ⟨rfl, rfl⟩))
    (fun os started H enc _ => lifted os started H enc)

/-- THE STATEMENT. -/
theorem proved : Rows.SlotsHoldSaid :=
  over
#print axioms proved
end Go.Proofs.Ytaikjobebbighaa.slotsHold

