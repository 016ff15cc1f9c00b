/- SlotsApart: what is asked, and given back, of one pool changes nothing of another. No condition. -/
import Derived.Test.YtaikjobebbighaaDoO
import Derived.Test.YtaikjobebbighaaSlHo
import Derived.Test.YtaikjobebbighaaSlAp
import Derived.Test.YtaikjobebbighaaQj
import Derived.Test.YtaikjobebbighaaPost
import Derived.Deep.DeepCutAuto
namespace Go.Proofs.Ytaikjobebbighaa.slotsApart
open Go.ChangeShapes Go.WideShapes Go.ChangeAt Go.RowKit
set_option linter.unusedVariables false
theorem laidOut : laidOutB Try.prog = true := by kernel_rfl
theorem own : ownKnob Try.prog.godebug = none := by kernel_rfl
def p1 : Bk := [(nA, ⟨4, [], []⟩)]
def p2 : Bk := [(nA, ⟨4, [], []⟩), (nB, ⟨4, [], []⟩)]
theorem pn1 : setB [] nA 4 = (p1, [], 0) := by rfl
theorem pn2 : setB p1 nB 4 = (p2, [], 0) := by rfl
theorem po1 : BkOk 0 p1 := by have := setB_ok (BkOk.nil 0) nA 4; rwa [pn1] at this
theorem po2 : BkOk 0 p2 := by have := setB_ok po1 nB 4; rwa [pn2] at this
theorem eta3 {α β γ : Type} (p : α × β × γ) : p = (p.1, p.2.1, p.2.2) := rfl
theorem freeR_out (s : Pst) (t : Int) : (freeR s t).2.1.length ≤ s.l.length := by
  have key : ∀ (size : Int) (h l : List Pl), (servesF size h l).2.2.length ≤ l.length := fun size h l => by
    have := congrArg List.length (servesF_line (size := size) l h)
    rw [List.length_append] at this
    omega
  unfold freeR
  split
  · exact key _ _ _
  split
  · exact Nat.le_trans (key _ _ _) (wo1_sub _ _).length_le
  · simp
theorem freeB_eq {st : Bk} {k : Key} {s : Pst} (hs : stGet st k = some s) (t : Int) : freeB st k t = ((freeB st k t).1, (freeR s t).2.1, (freeR s t).2.2) := by unfold freeB; rw [hs]
theorem askB_eq {st : Bk} {k : Key} {s : Pst} (hs : stGet st k = some s) (x : Pl) : askB st k x = ((askB st k x).1, (askR s x).2.1, (askR s x).2.2) := by unfold askB; rw [hs]
theorem freeB_other {st : Bk} {k j : Key} (hj : j ≠ k) (t : Int) : stGet (freeB st k t).1 j = stGet st j := by
  rcases hs : stGet st k with _ | s
  · unfold freeB; rw [hs]
  · rw [freeB_get hs, if_neg hj]
theorem askB_other {st : Bk} {k j : Key} (hj : j ≠ k) (x : Pl) : stGet (askB st k x).1 j = stGet st j := by
  rcases hs : stGet st k with _ | s
  · unfold askB; rw [hs]
  · rw [askB_get hs, if_neg hj]
def c1 (k : Nat) : Bk := if 1 ≤ k then p1 else []
def c2 (k : Nat) : Bk := if 2 ≤ k then p1 else []
set_option maxHeartbeats 16000000 in
set_option maxRecDepth 100000 in
theorem walk (A : Option Addr) (c : Nat) (l : List Dc) (A2 : Option Addr) (c0 : Nat) (m : List Dc) (w : World) (h : DoS w A l) (hlc : l.length ≤ c) (hcm : c ≤ maxLen) (hw : ∀ x ∈ l, x.name.length ≤ maxLen)
    (h2 : DoS w A2 m) (hlc2 : m.length ≤ c0) (hcm2 : c0 ≤ maxLen) (hw2 : ∀ x ∈ m, x.name.length ≤ maxLen) :
    Calls Try.prog 6 #[.slice A l.length c, .slice A2 m.length c0] w fun e w' => e = .returned (.bool true) ∧ Below w.heap.size w w' := by
  obtain ⟨N, hN⟩ : ∃ N, w.heap.size = N := ⟨_, rfl⟩
  have hNw : N ≤ w.heap.size := by omega
  have H := Lib.hid h
  have H2 := Lib.hid h2
  have HN := Lib.hid hN
  have K0 := Lib.hid (known_true w)
  have HV := Lib.hid (fun (w1 : World) (hb : Below w.heap.size w w1) => heavy_any A c l w1 (h.over hb) hw hlc hcm)
  have HV2 := Lib.hid (fun (w1 : World) (hb : Below w.heap.size w w1) => heavy_any A2 c0 m w1 (h2.over hb) hw2 hlc2 hcm2)
  clear h hlc hcm hw hN h2 hlc2 hcm2 hw2
  go_enter Try.func6, Try.ntmps6
  go_wp2_with fail
  refine K0.out.mono ?_
  rintro e w1 ⟨rfl, hb1⟩
  have C1 := Lib.hid (HV.out w1 hb1)
  have B1 := Lib.hid hb1
  clear hb1 HV K0
  go_wp2_with fail
  refine C1.out.mono ?_
  rintro e w2 ⟨rfl, hb2⟩
  have hb2' := nextC B1.out hb2
  have B2 := Lib.hid hb2'
  have C2 := Lib.hid (HV2.out w2 hb2')
  clear hb2 hb2' C1 B1 HV2
  by_cases hv : heavyN l 0 = true
  · rw [hv]
    go_wp2_with fail
    go_ret
    exact ⟨rfl, B2.out⟩
  have hv0 : heavyN l 0 = false := by simpa using hv
  have hlen := (heavyN_no l 0 hv0 (by omega) (by omega)).1
  rw [hv0]
  go_wp2_with fail
  refine C2.out.mono ?_
  rintro e w3 ⟨rfl, hb3⟩
  have B3 := Lib.hid (nextC B2.out hb3)
  clear hb3 C2 B2 hv hv0
  by_cases hv : heavyN m 0 = true
  · rw [hv]
    go_wp2_with fail
    go_ret
    exact ⟨rfl, B3.out⟩
  have hv0 : heavyN m 0 = false := by simpa using hv
  have hlen2 := (heavyN_no m 0 hv0 (by omega) (by omega)).1
  rw [hv0]
  have C3 := Lib.hid (new_at N w w3 (by rw [← HN.out]; exact B3.out) hNw)
  clear hv hv0 B3
  go_wp2_with fail
  refine C3.out.mono ?_
  rintro e w4 ⟨g, b, rfl, -, -, ha, -⟩
  have C4 := Lib.hid (new_at N w w4 ha.low hNw)
  have HA := Lib.hid ha
  clear ha C3
  go_wp2_with fail
  refine C4.out.mono ?_
  rintro e w5 ⟨g2, b2, rfl, hg2, hb2, ha2, hb5⟩
  obtain ⟨pb, hpb⟩ : ∃ pb, w5.heap.size = pb := ⟨_, rfl⟩
  obtain ⟨w6, hw6⟩ : ∃ w6, w5.alloc (.cells #[.pointer (some ⟨g, 0, none⟩), .pointer (some ⟨g2, 0, none⟩)] 25) = w6 := ⟨_, rfl⟩
  have hb6 : Below w5.heap.size w5 w6 := by rw [← hw6]; exact (Below.refl _ _).alloc (Nat.le_refl _) _
  have tw5 : Two N w w5 g b [] [] g2 b2 [] [] := ⟨HA.out.over hNw hb5, ha2, fun j h1 h3 => by
    have h4 := HA.out.bk.mine_lt h1
    rcases h3 with e | e | ⟨y, hy, _⟩
    · omega
    · omega
    · cases hy⟩
  have TW := Lib.hid (tw5.over hNw hb6)
  have R1 := Lib.hid (show RSide w6 g b [] pb 25 #[.pointer (some ⟨g, 0, none⟩), .pointer (some ⟨g2, 0, none⟩)] from ⟨by rw [← hw6, ← hpb]; exact Row.new w5 _ _, fun h => by have := tw5.a.bk.mine_lt h; omega⟩)
  have R2 := Lib.hid (show ¬ Mine g2 b2 [] pb from fun h => by have := tw5.a2.bk.mine_lt h; omega)
  clear tw5 hb6 ha2 hb5 C4 HA hg2 hb2
  go_wp2_with fail
  try rw [hpb]
  try rw [hw6]
  clear hw6 hpb
  go_loopw [35] (fun i wr => ∃ (k : Nat) (ys ys2 : List Wh), k ≤ 2 ∧ i = .int .i64 k ∧ Hid (Two N w wr g b (c1 k) ys g2 b2 (c2 k) ys2) ∧ Hid (RSide wr g b ys pb 25 #[.pointer (some ⟨g, 0, none⟩), .pointer (some ⟨g2, 0, none⟩)]) ∧ Hid (¬ Mine g2 b2 ys2 pb)) (fun i _ => 2 - (intOf i).toNat)
  case atStart => exact ⟨0, [], [], by omega, rfl, TW, R1, R2⟩
  case round =>
    obtain ⟨k, ys, ys2, hk, rfl, hT, hR1, hR2⟩ := hrel
    have x0 := hR1.out.row.cell 0
    have x1 := hR1.out.row.cell 1
    simp only [List.getElem?_toArray, List.getElem?_cons_succ, List.getElem?_cons_zero] at x0 x1
    by_cases hk0 : k = 0
    · subst hk0
      have C5 := Lib.hid (hT.out.a.set (k := nA) hNw (BkOk.nil 0) (by decide) pn1)
      go_wp2_with fail
      refine C5.out.mono ?_
      rintro e v1 ⟨B5, d5, ys5, rfl, -, ht, -⟩
      have HT5 := Lib.hid (hT.out.one hNw ht)
      have HR5 := Lib.hid (hR1.out.turn ht)
      clear ht C5
      go_wp2_with fail
      go_roundw
      case rel => exact ⟨1, ys5, ys2, by omega, by go_num, HT5, HR5, hR2⟩
      case measure => simp [intOf]
    by_cases hk1 : k = 1
    · subst hk1
      have C5 := Lib.hid (hT.out.a2.set (k := nA) hNw (BkOk.nil 0) (by decide) pn1)
      go_wp2_with fail
      refine C5.out.mono ?_
      rintro e v1 ⟨B5, d5, ys5, rfl, -, ht, -⟩
      have HT5 := Lib.hid (hT.out.two hNw ht)
      have hr2 : RSide v1 g2 b2 ys5 pb 25 #[.pointer (some ⟨g, 0, none⟩), .pointer (some ⟨g2, 0, none⟩)] := RSide.turn ⟨hR1.out.row, hR2.out⟩ ht
      have HR5 := Lib.hid (show RSide v1 g b ys pb 25 #[.pointer (some ⟨g, 0, none⟩), .pointer (some ⟨g2, 0, none⟩)] from ⟨hr2.row, hR1.out.off⟩)
      have HR6 := Lib.hid hr2.off
      clear ht C5 hr2
      go_wp2_with fail
      go_roundw
      case rel => exact ⟨2, ys, ys5, by omega, by go_num, HT5, HR5, HR6⟩
      case measure => simp [intOf]
    obtain rfl : k = 2 := by omega
    have C6 := Lib.hid (hT.out.a2.set (k := nB) hNw po1 (by decide) pn2)
    clear hR1 hR2 x0 x1
    go_wp2_with fail
    refine C6.out.mono ?_
    rintro e v1 ⟨B5, d5, ys5, rfl, -, ht, -⟩
    have HT5 := Lib.hid (show Two N w v1 g b p1 ys g2 b2 p2 ys5 from hT.out.two hNw ht)
    clear ht C6 hT
    go_upto_region 14 with fail
    go_cut [53, 54] (fun v v2 wx => ∃ mx : Nat, v = .int .i64 mx ∧ mx ≤ 300 ∧ v2 = .int .i64 (0 : Int) ∧ wx = v1)
    case first =>
      go_wp2_with fail
      all_goals (go_meet; first | exact ⟨l.length, rfl, by omega, rfl, rfl⟩ | exact ⟨m.length, rfl, by omega, rfl, rfl⟩)
    case rest =>
      obtain ⟨mx, rfl, hmx, rfl, rfl⟩ := hcut
      go_wp2_with fail
      go_loopw [54] (fun i wr => ∃ (k : Nat) (st : Bk) (ys : List Wh) (st2 : Bk) (ys2 : List Wh) (s : Pst), k ≤ mx ∧ i = .int .i64 k ∧ Hid (Two N w wr g b st ys g2 b2 st2 ys2) ∧ Hid (BkOk (2 * k) st) ∧ Hid (BkOk (2 * k) st2) ∧ Hid (stGet st nA = some s) ∧ Hid (stGet st2 nA = some s)) (fun i _ => mx - (intOf i).toNat)
      case atStart => exact ⟨0, p1, ys, p2, ys5, ⟨4, [], []⟩, by omega, rfl, HT5, Lib.hid po1, Lib.hid po2, Lib.hid rfl, Lib.hid rfl⟩
      case round =>
        obtain ⟨k, st, ys, st2, ys2, s, hk, rfl, hT, hO, hO2, hS, hS2⟩ := hrel
        have hll : (s.h.length + s.l.length ≤ 600) := by have := (hO.out nA s hS.out).few; omega
        by_cases hkx : k < mx
        · go_upto_if 60 with fail
          go_cut [] (fun wx => ∃ (st2' : Bk) (ys2' : List Wh), Hid (Two N w wx g b st ys g2 b2 st2' ys2') ∧ Hid (BkOk (2 * k + 1) st2') ∧ Hid (stGet st2' nA = some s))
          case first =>
            by_cases hkm : k < m.length
            · have d5 : (k : Int) < (m.length : Int) := by omega
              have hsd : DoS wr A2 m := H2.out.over (by rw [HN.out]; exact hT.out.a.low)
              obtain ⟨ad2, rfl, hb, hc⟩ := hsd k hkm
              have hsd0 : DoS w (some ad2) m := H2.out
              obtain ⟨hbl, e1, e2, e3, e4⟩ := hsd0.cells4 k hkm
              generalize m[k] = x at *
              obtain ⟨xk, xn, xt, xv⟩ := x
              dsimp only at e1 e2 e3 e4
              have HC := Lib.hid (show ∀ v, Below N w v → v.cell? (ad2.add (k * 4)) = some (.int .u8 xk) ∧ v.cell? ⟨(ad2.add (k * 4)).block, (ad2.add (k * 4)).off + 2, none⟩ = some (.int .u64 xt) ∧ v.cell? ⟨(ad2.add (k * 4)).block, (ad2.add (k * 4)).off + 3, none⟩ = some (.int .i64 xv) from fun v hv => by
                have hbN : ad2.block < N := by rw [← HN.out]; exact hbl
                exact ⟨(hv.cell (by rw [add_block]; exact hbN)).trans e1, (hv.cell (p := ⟨(ad2.add (k * 4)).block, (ad2.add (k * 4)).off + 2, none⟩) (by show (ad2.add (k * 4)).block < N; rw [add_block]; exact hbN)).trans e3, (hv.cell (p := ⟨(ad2.add (k * 4)).block, (ad2.add (k * 4)).off + 3, none⟩) (by show (ad2.add (k * 4)).block < N; rw [add_block]; exact hbN)).trans e4⟩)
              have HTd := Lib.hid (Two.over (w' := wr.drew) hT.out hNw (Below.refl _ _).drew)
              have CA := Lib.hid (HTd.out.a2.ask (k := nB) (x1 := xt) (x2 := xv) hNw hO2.out (by omega) (by decide) (eta3 (askB st2 nB (xt, xv))))
              clear hsd hb hc hsd0 e1 e2 e3 e4 hbl
              go_upto_region 18 with fail
              obtain ⟨T, F, hT2, hF, hG⟩ := class_of (fun v => Below N w v) wr.drew hT.out.a.low.drew
              have f1 := fun n => (HC.out _ (hF n)).1
              have f2 := fun n => (HC.out _ (hF n)).2.1
              have f3 := fun n => (HC.out _ (hF n)).2.2
              have s0 := hG wr.drew hT.out.a.low.drew
              have HG := Lib.hid hG
              have inA := enter_of Try.func12 (by kernel_rfl) (by kernel_rfl)
              clear hF hG
              refine wp_region_held (S := fun v => ∃ n, v = F n) (by kernel_rfl) ?_
              change wpAnyH _ _ _ _ _ _ _ _ (World.drew _)
              refine held_stretchL (C := fun v => ∃ n, v = F n) (by kernel_rfl) (fun _ _ _ _ _ h => h) (fun _ h => h) s0 1 12 0 _ _ (by kernel_rfl) (by kernel_rfl) (by decide) ?_
              simp only [List.take_succ_cons, List.take_zero, List.drop_zero]
              repeat (go_big_quiet_step (fail))
              refine wpQuiet_nil ?_
              refine held_call 12 _ 73 12 _ _ #[.pointer (some ⟨g2, 0, none⟩), nm nB, .agg #[.int .u64 xt, .int .i64 xv]] (by kernel_rfl) rfl rfl rfl inA (by kernel_rfl) (by kernel_rfl) ?_
              refine CA.out.mono ?_
              rintro e v1 ⟨ys6, rfl, ht, ha⟩
              refine ⟨_, rfl, HG.out v1 ha.low, ?_⟩
              simp only [List.setIfInBounds_toArray, List.set_cons_succ, List.set_cons_zero]
              refine wpAnyH_done (by kernel_rfl) ?_ _
              have HT6 := Lib.hid (HTd.out.two hNw ht)
              have HO6 := Lib.hid (askB_ok hO2.out (by omega) nB (xt, xv))
              have HS6 := Lib.hid (show stGet (askB st2 nB (xt, xv)).1 nA = some s from (askB_other (by decide) _).trans hS2.out)
              have h1 := (HC.out v1 ha.low).1
              have h2 := (HC.out v1 ha.low).2.1
              have CF := Lib.hid (HT6.out.a2.free (k := nB) (x := xt) hNw HO6.out (by decide) (eta3 (freeB (askB st2 nB (xt, xv)).1 nB xt)))
              clear ht ha f1 f2 f3 s0 HG inA CA
              by_cases hx2 : xk = 2
              · subst hx2
                go_wp2_with fail
                refine CF.out.mono ?_
                rintro e v2 ⟨B7, d7, ys7, rfl, -, ht, -⟩
                have HT7 := Lib.hid (HT6.out.two hNw ht)
                have HO7 := Lib.hid (freeB_ok HO6.out nB xt)
                have HS7 := Lib.hid (show stGet (freeB (askB st2 nB (xt, xv)).1 nB xt).1 nA = some s from (freeB_other (by decide) _).trans HS6.out)
                clear ht CF
                go_wp2_with fail
                all_goals (go_meet; exact ⟨_, ys7, HT7, HO7, HS7⟩)
              · have d7 : (xk == 2) = false := by simpa using hx2
                clear CF
                go_wp2_with fail
                all_goals (go_meet; exact ⟨_, ys6, HT6, HO6, HS6⟩)
            · have d5 : decide ((k : Int) < (m.length : Int)) = false := decide_eq_false (by omega)
              have HO6 := Lib.hid (hO2.out.mono (by omega : 2 * k ≤ 2 * k + 1))
              go_wp2_with fail
              all_goals (go_meet; exact ⟨st2, ys2, hT, HO6, hS2⟩)
          case rest =>
            obtain ⟨st3, ys3, hT3, hO3, hS3⟩ := hcut
            clear hT hO2 hS2
            by_cases hkl : k < l.length
            · have d8 : decide ((l.length : Int) ≤ (k : Int)) = false := decide_eq_false (by omega)
              have hsd : DoS wc A l := H.out.over (by rw [HN.out]; exact hT3.out.a.low)
              obtain ⟨ad, rfl, hb, hc⟩ := hsd k hkl
              obtain ⟨-, e1, e2, e3, e4⟩ := hsd.cells4 k hkl
              generalize l[k] = x at *
              obtain ⟨xk, xn, xt, xv⟩ := x
              dsimp only at e1 e2 e3 e4
              have hbx : Below wc.heap.size wc (wc.alloc (.cells #[.int .u8 xk, nm xn, .int .u64 xt, .int .i64 xv] 30)) := (Below.refl _ _).alloc (Nat.le_refl _) _
              obtain ⟨X, hX⟩ : ∃ X, wc.heap.size = X := ⟨_, rfl⟩
              obtain ⟨W1, hW1⟩ : ∃ W1, wc.alloc (.cells #[.int .u8 xk, nm xn, .int .u64 xt, .int .i64 xv] 30) = W1 := ⟨_, rfl⟩
              rw [hW1] at hbx
              have hx1 : RSide W1 g b ys X 30 #[.int .u8 xk, nm xn, .int .u64 xt, .int .i64 xv] := ⟨by rw [← hW1, ← hX]; exact Row.new wc _ _, fun h => by have := hT3.out.a.bk.mine_lt h; omega⟩
              have HX2 := Lib.hid (show ¬ Mine g2 b2 ys3 X from fun h => by have := hT3.out.a2.bk.mine_lt h; omega)
              have HT4 := Lib.hid (hT3.out.over hNw hbx)
              have x0 := hx1.row.cell 0
              have x2 := hx1.row.cell 2
              have x3 := hx1.row.cell 3
              simp only [List.getElem?_toArray, List.getElem?_cons_succ, List.getElem?_cons_zero] at x0 x2 x3
              have HX1 := Lib.hid hx1
              clear hsd hb hc hbx hx1 hT3
              go_upto_region 23 with fail
              try rw [hW1]
              try rw [hX]
              clear hW1 hX e1 e2 e3 e4
              by_cases hx2 : xk = 2
              · subst hx2
                have CF := Lib.hid (HT4.out.a.freeG (k := nA) (x := xt) hNw hO.out (by decide) (freeB_eq hS.out xt))
                go_wp2_with fail
                refine CF.out.mono ?_
                rintro e v1 ⟨B1, d1, ys5, rfl, hg1, ht1⟩
                have HT5 := Lib.hid (HT4.out.one hNw ht1)
                have HS5 := Lib.hid (hg1.side2 HT4.out.a2.bk)
                have hx5 := HX1.out.turn ht1
                have z2 := hx5.row.cell 2
                simp only [List.getElem?_toArray, List.getElem?_cons_succ, List.getElem?_cons_zero] at z2
                have CF2 := Lib.hid (HT5.out.a2.freeG (k := nA) (x := xt) hNw hO3.out (by decide) (freeB_eq hS3.out xt))
                clear hg1 ht1 CF hx5
                go_wp2_with fail
                refine CF2.out.mono ?_
                rintro e v2 ⟨B2, d2, ys6, rfl, hg2, ht2⟩
                have HT6 := Lib.hid (HT5.out.two hNw ht2)
                have hs1 := HS5.out.turn ht2
                have hol := freeR_out s xt
                have CE := Lib.hid ((equal_any B1 d1 (freeR s xt).2.1 B2 d2 (freeR s xt).2.1 v2 (RkO.rks enP_len hs1.row) (RkO.rks enP_len hg2.row) (by omega) (by omega)).mono (R' := fun e w' => e = .returned (.bool true) ∧ Below v2.heap.size v2 w') fun e w' h => ⟨h.1.trans (by simp), h.2⟩)
                have HO6 := Lib.hid ((freeB_ok hO.out nA xt).mono (by omega : 2 * k ≤ 2 * (k + 1)))
                have HO7 := Lib.hid ((freeB_ok hO3.out nA xt).mono (by omega : 2 * k + 1 ≤ 2 * (k + 1)))
                have HS6 := Lib.hid (freeB_self hS.out xt)
                have HS7 := Lib.hid (freeB_self hS3.out xt)
                clear hg2 ht2 CF2 hs1 hol HS5
                generalize (freeR s xt).2.1.length = ol at *
                generalize (freeR s xt).2.2 = er at *
                go_wp2_with fail
                refine CE.out.mono ?_
                rintro e v3 ⟨rfl, hb3⟩
                have HT7 := Lib.hid (HT6.out.over hNw hb3)
                clear hb3 CE
                go_wp2_with fail
                go_roundw
                case rel => exact ⟨k + 1, _, ys5, _, ys6, _, by omega, by go_num, HT7, HO6, HO7, HS6, HS7⟩
                case measure => simp [intOf]; omega
              · have d9 : (xk == 2) = false := by simpa using hx2
                have CF := Lib.hid (HT4.out.a.ask (k := nA) (x1 := xt) (x2 := xv) hNw hO.out (by omega) (by decide) (askB_eq hS.out (xt, xv)))
                go_wp2_with fail
                refine CF.out.mono ?_
                rintro e v1 ⟨ys5, rfl, ht1, -⟩
                have HT5 := Lib.hid (HT4.out.one hNw ht1)
                have hx5 := HX1.out.turn ht1
                have z2 := hx5.row.cell 2
                have z3 := hx5.row.cell 3
                simp only [List.getElem?_toArray, List.getElem?_cons_succ, List.getElem?_cons_zero] at z2 z3
                have CF2 := Lib.hid (HT5.out.a2.ask (k := nA) (x1 := xt) (x2 := xv) hNw hO3.out (by omega) (by decide) (askB_eq hS3.out (xt, xv)))
                clear ht1 CF hx5
                go_wp2_with fail
                refine CF2.out.mono ?_
                rintro e v2 ⟨ys6, rfl, ht2, -⟩
                have HT6 := Lib.hid (HT5.out.two hNw ht2)
                have HO6 := Lib.hid ((askB_ok hO.out (by omega) nA (xt, xv)).mono (by omega : 2 * k + 1 ≤ 2 * (k + 1)))
                have HO7 := Lib.hid ((askB_ok hO3.out (by omega) nA (xt, xv)).mono (by omega : 2 * k + 1 + 1 ≤ 2 * (k + 1)))
                have HS6 := Lib.hid (askB_self hS.out (xt, xv))
                have HS7 := Lib.hid (askB_self hS3.out (xt, xv))
                clear ht2 CF2
                generalize (askR s (xt, xv)).2.1 = hd at *
                generalize (askR s (xt, xv)).2.2 = er at *
                go_wp2_with fail
                go_roundw
                case rel => exact ⟨k + 1, _, ys5, _, ys6, _, by omega, by go_num, HT6, HO6, HO7, HS6, HS7⟩
                case measure => simp [intOf]; omega
            · have d8 : (l.length : Int) ≤ (k : Int) := by omega
              have HO4 := Lib.hid (hO.out.mono (by omega : 2 * k ≤ 2 * (k + 1)))
              have HO5 := Lib.hid (hO3.out.mono (by omega : 2 * k + 1 ≤ 2 * (k + 1)))
              go_wp2_with fail
              go_roundw
              case rel => exact ⟨k + 1, st, ys, st3, ys3, s, by omega, by go_num, hT3, HO4, HO5, hS, hS3⟩
              case measure => simp [intOf]; omega
        · obtain rfl : k = mx := by omega
          have C1 := Lib.hid (hT.out.a.holders (k := nA) hNw hO.out (by decide) (getZ_some hS.out))
          go_wp2_with fail
          refine C1.out.mono ?_
          rintro e v1 ⟨B1, d1, rfl, ho1, hb1⟩
          have HT1 := Lib.hid (hT.out.over hNw hb1)
          have HR1 := Lib.hid (show PlO 0 v1 B1 d1 s.h from ho1.low (Nat.zero_le _))
          have C2 := Lib.hid (HT1.out.a2.holders (k := nA) hNw hO2.out (by decide) (getZ_some hS2.out))
          clear C1 ho1 hb1 hT
          go_wp2_with fail
          refine C2.out.mono ?_
          rintro e v2 ⟨B2, d2, rfl, ho2, hb2⟩
          have HT2 := Lib.hid (HT1.out.over hNw hb2)
          have C3 := Lib.hid ((equal_any B1 d1 s.h B2 d2 s.h v2 (RkO.rks enP_len (HR1.out.over hb2)) (RkO.rks enP_len ho2) (by omega) (by omega)).mono (R' := fun e w' => e = .returned (.bool true) ∧ Below v2.heap.size v2 w') fun e w' h => ⟨h.1.trans (by simp), h.2⟩)
          clear C2 ho2 hb2 HT1 HR1
          go_wp2_with fail
          refine C3.out.mono ?_
          rintro e v3 ⟨rfl, hb3⟩
          have HT3 := Lib.hid (HT2.out.over hNw hb3)
          have C4 := Lib.hid (HT3.out.a.line (k := nA) hNw hO.out (by decide) (getZ_some hS.out))
          clear C3 hb3 HT2
          go_wp2_with fail
          refine C4.out.mono ?_
          rintro e v4 ⟨B4, d4, rfl, ho4, hb4⟩
          have HT4 := Lib.hid (HT3.out.over hNw hb4)
          have HR4 := Lib.hid (show PlO 0 v4 B4 d4 s.l from ho4.low (Nat.zero_le _))
          have C5 := Lib.hid (HT4.out.a2.line (k := nA) hNw hO2.out (by decide) (getZ_some hS2.out))
          clear C4 ho4 hb4 HT3
          go_wp2_with fail
          refine C5.out.mono ?_
          rintro e v5 ⟨B5, d5, rfl, ho5, hb5⟩
          have HT5 := Lib.hid (HT4.out.over hNw hb5)
          have C6 := Lib.hid ((equal_any B4 d4 s.l B5 d5 s.l v5 (RkO.rks enP_len (HR4.out.over hb5)) (RkO.rks enP_len ho5) (by omega) (by omega)).mono (R' := fun e w' => e = .returned (.bool true) ∧ Below v5.heap.size v5 w') fun e w' h => ⟨h.1.trans (by simp), h.2⟩)
          clear C5 ho5 hb5 HT4 HR4
          go_wp2_with fail
          refine C6.out.mono ?_
          rintro e v6 ⟨rfl, hb6⟩
          have HT6 := Lib.hid (HT5.out.over hNw hb6)
          clear C6 hb6 HT5
          go_wp2_with fail
          go_ret
          exact ⟨rfl, by rw [HN.out]; exact HT6.out.a.low⟩
set_option maxRecDepth 100000 in
theorem opened (H : Type) (enc : TypeId × Value → H) (W : World) (base : Nat) (args : Array Value) (ds gs : List (DataW H)) (before : List MemPlace)
    (hval : ∀ (j : Nat) t v, Try.f6.params[j]? = some t → args[j]? = some v → Value.okWide Try.prog W .any base t v)
    (hW : DataW.Whole enc Try.prog Try.f6.params.toList Rows.slotsApartSpec.vars false W args.toList ds gs before) :
    Calls Try.prog 6 args W fun e w' => e = .returned (.bool true) ∧ Below W.heap.size W w' := by
  obtain ⟨p, q, hA, hV, rfl, hfz, hnd⟩ := hW
  rw [Try.params6] at hA hval
  obtain ⟨v0, vs0, d0, ds0, p0, q0, hargs, rfl, rfl, h0, r0⟩ := trodAll_cons hA
  obtain ⟨v1, vs1, d1, ds1, p1, q1, rfl, rfl, rfl, h1, r1⟩ := trodAll_cons r0
  obtain ⟨rfl, rfl, rfl⟩ := trodAll_nil r1
  obtain rfl : args = #[v0, v1] := by cases args; simp_all
  obtain ⟨A, c, l, rfl, s0, c0, m0, w0⟩ := open_dos Try.underlying22 Try.underlying30 (by kernel_rfl) rfl rfl rfl rfl (by kernel_rfl) (by kernel_rfl) (by kernel_rfl) (by kernel_rfl) Try.underlying5 Try.underlying9 Try.underlying28 Try.underlying3 (hval 0 _ _ rfl rfl) h0
  obtain ⟨A2, c2, l2, rfl, s1, c3, m1, w1⟩ := open_dos Try.underlying22 Try.underlying30 (by kernel_rfl) rfl rfl rfl rfl (by kernel_rfl) (by kernel_rfl) (by kernel_rfl) (by kernel_rfl) Try.underlying5 Try.underlying9 Try.underlying28 Try.underlying3 (hval 1 _ _ rfl rfl) h1
  exact walk A c l A2 c2 l2 W s0 c0 m0 (fun x hx => (w0 x hx).2.1) s1 c3 m1 (fun x hx => (w1 x hx).2.1)

set_option maxRecDepth 100000 in
theorem lifted (os : Os) (started : os.Started) (H : Type) (enc : TypeId × Value → H) :
    ReturnsInHanded {} Try.checked os 6 .any (Rows.slotsApartSpec.pre6 enc Try.prog Try.f6 Rows.slotsApartRow.domain false) (Rows.slotsApartSpec.post enc Try.prog Try.f6 false true false false) := by
  refine returnsInHanded_of_change (C := Try.checked) own started (by kernel_rfl) Try.func6
    (ChangeSpec.witness6 (enc := enc) (C := Try.checked) false ⟨#[], #[.slice none 0 0, .slice none 0 0], []⟩ 8 (by kernel_rfl) (by kernel_rfl) (by kernel_rfl) (by kernel_rfl)) ?_
  intro W base args ds gs before hval hW hcnd hh
  refine (opened H enc W base args ds gs before hval hW).mono fun e W' ⟨he, hg⟩ => ?_
  subst he
  exact ⟨_, rfl, law_post hW rfl laidOut (by kernel_rfl) rfl Try.underlying4 (fun l hl => by match l, hl with | [d0, d1], _ => rfl) hg⟩

theorem over : Rows.slotsApartRow.holds Try.pinned (OpenSpec.ofChange Rows.slotsApartSpec) :=
  OpenClaim.holds_of_wide 6 Try.f6 rfl rfl rfl rfl rfl rfl rfl ⟨rfl, rfl, rfl, rfl, rfl⟩ rfl rfl rfl rfl rfl (by kernel_rfl) Try.func6 (by kernel_rfl)
    (of_decide_eq_true (by kernel_rfl)) (by unfold Func.isWrapper; first | (rw [if_pos (by decide +kernel)]; kernel_rfl) | (rw [if_neg (by decide +kernel)]; exact ⟨rfl, rfl⟩))
    (fun os started H enc _ => lifted os started H enc)

/-- THE STATEMENT. -/
theorem proved : Rows.SlotsApartSaid :=
  over
#print axioms proved
end Go.Proofs.Ytaikjobebbighaa.slotsApart

