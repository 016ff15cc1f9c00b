/- Contract of disk.Crash. -/
import Derived.Test.YtbdhdnkpdpcgnaaDkQ
namespace Go.Proofs.Ytbdhdnkpdpcgnaa
set_option linter.unusedVariables false
open Go.RowKit
variable {FR : Nat → Prop}
/-- A slice does not lie in block X. -/
def Off (X : Nat) (B : Option Addr) (l : List Int) : Prop := l = [] ∨ ∀ a, B = some a → a.block ≠ X
theorem BSl.off {w : World} {B : Option Addr} {d : Nat} {l : List Int} (h : BSl FR w B d l) {X : Nat} (hX : w.heap.size ≤ X) : Off X B l := by
  rcases l with _ | ⟨x, t⟩
  · exact .inl rfl
  · refine .inr fun a ha e => ?_
    obtain ⟨ad, e1, hb, _⟩ := h.sl 0 (by simp)
    rw [ha] at e1
    injection e1 with e1
    subst e1
    omega
theorem OwnB.off {base : Nat} {w : World} {B : Option Addr} {d : Nat} {l : List Int} (h : OwnB base w B d l) {X : Nat} (hX : X < base) : Off X B l := by
  refine .inr fun a ha e => ?_
  subst ha
  have := h.base_ (n := l.length) (g := a.block) rfl
  omega
theorem BSl.store {w : World} {B : Option Addr} {d : Nat} {l : List Int} (h : BSl FR w B d l) {p : Addr} (ho : Off p.block B l) (u : Value) : BSl FR (w.setCell p u) B d l := by
  refine ⟨fun j hj => ?_, h.2, h.3, h.4, h.5⟩
  obtain ⟨ad, e1, hb, hc⟩ := h.sl j hj
  refine ⟨ad, e1, by rw [World.size_setCell]; exact hb, ?_⟩
  rcases ho with e | ho
  · subst e; simp at hj
  · exact (World.cell?_setCell_other (w := w) (a := p) _ u (fun e => ho ad e1 (by rw [e, add_block]))).trans hc
theorem bytesC_step2 (cs : List Chg) {j : Nat} (h : j < cs.length) : bytesC (cs.take j) + cs[j].b.length ≤ bytesC cs := by
  have h1 := bytesC_take cs (j + 1)
  rw [List.take_succ_eq_append_getElem h] at h1
  have e : bytesC (cs.take j ++ [cs[j]]) = bytesC (cs.take j) + cs[j].b.length := by
    unfold bytesC
    rw [List.map_append, List.sum_append, List.map_singleton, List.sum_singleton]
  omega
theorem DiskAt.stays {w w' : World} {g b : Nat} {st : Files} (h : DiskAt FR w g b st) (hg : w.grownBy w' (some b)) : Stays FR w w' := by
  obtain ⟨es, hm, hd⟩ := h.map
  obtain ⟨es0, clock, hb0, -⟩ := hm
  exact Stays.grown hb0 hg
theorem DiskAt.staysN {w w' : World} {g b : Nat} {st : Files} (h : DiskAt FR w g b st) (hg : w.grownBy w' (some b)) : Stays Nobody w w' := by
  obtain ⟨es, hm, hd⟩ := h.map
  obtain ⟨es0, clock, hb0, -⟩ := hm
  exact Stays.grown hb0 hg
theorem fold_snoc (cs : List Chg) (c : Chg) (s : Nat × List Int × Bool) : (cs ++ [c]).foldl crashC s = crashC (cs.foldl crashC s) c := by simp

set_option maxHeartbeats 8000000 in
set_option maxRecDepth 100000 in
theorem crash_any (g b : Nat) (st : Files) (S : Option Addr) (sc : Nat) (stay : List Int) (w : World) (h : DiskAt FR w g b st) (hst : st.length ≤ 100000) (hsm : Small st) (hS : Sl w .i64 S stay) (hsl : stay.length ≤ 1000000) (hsb : ∀ x ∈ stay, x ≤ 9223372036854775807) :
    Calls Try.prog 12 #[.pointer (some ⟨g, 0, none⟩), .slice S stay.length sc] w fun e w' =>
      e = .returned (.tuple #[]) ∧ DiskAt FR w' g b (crashS stay st) ∧ w.grownBy w' (some b) := by
  have CL := Lib.hid (Loose_any g b st w h hst (fun q hq => (hsm q hq).1))
  have H := Lib.hid h
  have hgs := h.ltg
  have hbs := h.ltb
  have hfin : crashS stay st = ((stNames looseF st).foldl (crashSt stay) (st, 0)).1 := rfl
  have hnk : ∀ x ∈ stNames looseF st, x.length ≤ 1000000 := fun x hx => by
    have := (List.mergeSort_perm (st.map (·.1)) _).mem_iff.1 (List.mem_filter.1 hx).1
    obtain ⟨q, hq, rfl⟩ := List.mem_map.1 this
    exact (hsm q hq).1
  have hnl : (stNames looseF st).length ≤ 100000 := by
    have := List.length_filter_le (fun k => looseF (stGet st k)) ((st.map (·.1)).mergeSort fun x y => decide (x ≤ y))
    rw [List.length_mergeSort, List.length_map] at this
    exact Nat.le_trans this hst
  rw [hfin]
  generalize stNames looseF st = ns at *
  have HNK := Lib.hid hnk
  have HSM := Lib.hid hsm
  have HSL := Lib.hid hS
  have HSB := Lib.hid hsb
  clear h hfin hnk hsm hS hsb
  go_enter Try.func12, Try.ntmps12
  go_wp2_with fail
  refine CL.out.mono ?_
  rintro x w1 ⟨A, c, rfl, hown, hb1⟩
  have SN := Lib.hid (sln_of_own hown)
  have B1 := Lib.hid hb1
  clear hown hb1 CL
  go_wp2_with fail
  go_loopw [15] (fun i wr => ∃ (k : Nat) (sti : Files), k ≤ ns.length ∧ i = .int .i64 k ∧ (ns.take k).foldl (crashSt stay) (st, 0) = (sti, k) ∧ DiskAt FR wr g b sti ∧ w1.grownBy wr (some b) ∧ Stays Nobody w1 wr ∧ Small sti ∧ sti.length ≤ st.length + k)
    (fun i _ => ns.length - (intOf i).toNat)
  case atStart => exact ⟨0, st, by omega, rfl, rfl, H.out.below B1.out, World.grownBy.refl _ _, Stays.refl _, HSM.out, by omega⟩
  case round =>
    obtain ⟨k, sti, hk, rfl, hfold, hd, hgr, hsy, hsm, hlen⟩ := hrel
    have HFO := Lib.hid hfold
    have HD := Lib.hid hd
    have HG := Lib.hid hgr
    have HY := Lib.hid hsy
    have HM := Lib.hid hsm
    have cg := hd.row.cell 0
    simp at cg
    clear hfold hd hgr hsy hsm
    by_cases hlt : k < ns.length
    · obtain ⟨ad, rfl, -, hc0⟩ := SN.out k hlt
      have hc := HY.out.cell _ _ (fun h => h) hc0
      have hyl := HNK.out ns[k] (List.getElem_mem _)
      have hts : ns.take (k + 1) = ns.take k ++ [ns[k]] := List.take_succ_eq_append_getElem hlt
      obtain ⟨y, hy⟩ : ∃ y, ns[k] = y := ⟨_, rfl⟩
      rw [hy] at hc hts hyl
      have hfs : (ns.take (k + 1)).foldl (crashSt stay) (st, 0) = crashSt stay (sti, k) y := by rw [hts, List.foldl_append, HFO.out]; rfl
      have HFS := Lib.hid hfs
      have hnb : (bud stay k : Int) ≤ 9223372036854775807 := by
        unfold bud
        split
        · rename_i hh
          have := HSB.out (stay.getD k 0) (by rw [List.getD_eq_getElem?_getD, List.getElem?_eq_getElem hh]; exact List.getElem_mem hh)
          omega
        · omega
      clear hfs hts hy hc0
      go_upto_if 23 with fail
      go_cut [6] (fun s wx => s = .int .i64 (bud stay k) ∧ wx = wr)
      case first =>
        by_cases hks : k < stay.length
        · obtain ⟨sd, rfl, hsb0, hsc⟩ := HSL.out k hks
          have hsc1 := HY.out.cell _ _ (fun h => h) ((Stays.below (FR := Nobody) B1.out).cell _ _ (fun h => h) hsc)
          have hbv : bud stay k = (max 0 stay[k]).toNat := by unfold bud; rw [if_pos hks, List.getD_eq_getElem?_getD, List.getElem?_eq_getElem hks]; rfl
          have hks' : (k : Int) < (stay.length : Int) := by omega
          go_wp2_with fail
          go_meet
          refine ⟨?_, rfl⟩
          rw [hbv]
          congr 1
          omega
        · have hks' : decide ((k : Int) < (stay.length : Int)) = false := decide_eq_false (by omega)
          have hbv : bud stay k = 0 := by unfold bud; rw [if_neg hks]
          go_wp2_with fail
          go_meet
          exact ⟨by rw [hbv]; rfl, rfl⟩
      case rest =>
      obtain ⟨rfl, rfl⟩ := hcut
      obtain ⟨n0, hn0⟩ : ∃ n0, bud stay k = n0 := ⟨_, rfl⟩
      rw [hn0] at hnb ⊢
      have HN0 := Lib.hid hn0
      clear hn0
      obtain ⟨Af, cf, Bf, df, Lf, ef, hrun, hf⟩ := HD.out.look y hyl
      obtain ⟨hw1, hw2⟩ := HM.out.get y
      obtain ⟨f, hfe⟩ : ∃ f, stGet sti y = f := ⟨_, rfl⟩
      have HFE := Lib.hid hfe
      rw [hfe] at hf hrun hw1 hw2
      clear hfe
      obtain ⟨s, n, isS, isN, lo⟩ := f
      unfold filVal at hrun
      simp only at hrun hw2
      have hwt : s.length + bytesC lo ≤ 1000000 := hw1
      have HF := Lib.hid hf
      clear hf hw1
      go_upto_region 8 with fail
      obtain ⟨W2, hW2⟩ : ∃ W2, (wc.alloc (.cells #[.slice Af s.length cf, .slice Bf n.length df, .bool isS, .bool isN, .slice Lf lo.length ef] 44)).alloc (.cells #[.slice none 0 0, .slice Af s.length cf, .bool false, .bool isS, .slice none 0 0] 44) = W2 := ⟨_, rfl⟩
      have rX : Row W2 (wc.heap.size + 1) 44 #[.slice none 0 0, .slice Af s.length cf, .bool false, .bool isS, .slice none 0 0] := by
        have := Row.new (wc.alloc (.cells #[.slice Af s.length cf, .slice Bf n.length df, .bool isS, .bool isN, .slice Lf lo.length ef] 44)) 44 #[.slice none 0 0, .slice Af s.length cf, .bool false, .bool isS, .slice none 0 0]
        rw [← hW2]; simpa using this
      have rF : Row W2 wc.heap.size 44 #[.slice Af s.length cf, .slice Bf n.length df, .bool isS, .bool isN, .slice Lf lo.length ef] := by rw [← hW2]; exact (Row.new wc _ _).alloc _
      have b2 : Below wc.heap.size wc W2 := by rw [← hW2]; exact nextB ((Below.refl _ wc).alloc (Nat.le_refl _) _)
      rw [hW2]
      have kF4 := rF.cell 4
      simp at kF4
      have RX := Lib.hid rX
      have B2 := Lib.hid b2
      clear rX rF b2 hW2 hrun
      go_wp2_with fail
      go_loopw [6, 43] (fun m j wr => ∃ (jn mm : Nat) (now : List Int) (is : Bool) (Bk : Option Addr) (dk : Nat), jn ≤ lo.length ∧ j = .int .i64 jn ∧ m = .int .i64 mm ∧ (lo.take jn).foldl crashC (n0, s, isS) = (mm, now, is) ∧
          Row wr (wc.heap.size + 1) 44 #[.slice none 0 0, .slice Bk now.length dk, .bool false, .bool is, .slice none 0 0] ∧ BSl FR wr Bk dk now ∧ Off (wc.heap.size + 1) Bk now ∧ Below (wc.heap.size + 1) W2 wr)
        (fun _ j _ => lo.length - (intOf j).toNat)
      case atStart => exact ⟨0, n0, s, isS, Af, cf, by omega, rfl, rfl, rfl, RX.out, HF.out.sure.stays (Stays.below B2.out), HF.out.sure.off (Nat.le_succ _), Below.refl _ _⟩
      case round =>
        obtain ⟨jn, mm, now, is, Bk, dk, hjn, rfl, rfl, hfo, hrx, hbn, hoff, hbw⟩ := hrel
        have FO := Lib.hid hfo
        have RX2 := Lib.hid hrx
        have BN := Lib.hid hbn
        have OF := Lib.hid hoff
        have BW := Lib.hid hbw
        have hlX := hrx.lt
        have hmm := (crashC_fold (lo.take jn) (n0, s, isS)).2
        have hnw := (crashC_fold (lo.take jn) (n0, s, isS)).1
        rw [hfo] at hmm hnw
        simp only at hmm hnw
        have hbt := bytesC_take lo jn
        clear hfo hrx hbn hoff hbw
        by_cases hjl : jn < lo.length
        · have BY := Lib.hid (B2.out.trans (BW.out.mono (Nat.le_succ _)))
          obtain ⟨ld, Bc, dc, rfl, e0, e1, e2, hbc⟩ := (HF.out.loose.stays (Stays.below BY.out)).at_ jn hjl
          have hsn := fold_snoc (lo.take jn) lo[jn] (n0, s, isS)
          rw [← List.take_succ_eq_append_getElem hjl, FO.out] at hsn
          have hbl := bytesC_step2 lo hjl
          have hoc := (show Off (wc.heap.size + 1) Bc lo[jn].b from by
            obtain ⟨ld2, Bc2, dc2, q1, q2, q3, q4, q5⟩ := HF.out.loose.at_ jn hjl
            have := (Stays.below (FR := Nobody) BY.out).cell _ _ (fun h => h) q4
            injection q1 with q1
            subst q1
            rw [e2] at this
            injection this with this
            injection this with z1 z2 z3
            subst z1
            exact q5.off (Nat.le_succ _))
          obtain ⟨cj, hcj⟩ : ∃ cj, lo[jn] = cj := ⟨_, rfl⟩
          rw [hcj] at e0 e1 e2 hbc hsn hbl hoc
          obtain ⟨wh, gn, bs⟩ := cj
          simp only at e0 e1 e2 hbc hbl hoc
          have SN2 := Lib.hid hsn
          have HBC := Lib.hid hbc
          have HOC := Lib.hid hoc
          clear hsn hbc hoc hcj
          rw [show ld.add (jn * 3 + 1) = ⟨(ld.add (jn * 3)).block, (ld.add (jn * 3)).off + 1, none⟩ by rw [← add_add]; rfl] at e1
          rw [show ld.add (jn * 3 + 2) = ⟨(ld.add (jn * 3)).block, (ld.add (jn * 3)).off + 2, none⟩ by rw [← add_add]; rfl] at e2
          go_upto_region 13 with fail
          obtain ⟨W3, hW3⟩ : ∃ W3, wr.alloc (.cells #[.bool wh, .bool gn, .slice Bc bs.length dc] 49) = W3 := ⟨_, rfl⟩
          have rC : Row W3 wr.heap.size 49 #[.bool wh, .bool gn, .slice Bc bs.length dc] := by rw [← hW3]; exact Row.new wr _ _
          have b3 : Below wr.heap.size wr W3 := by rw [← hW3]; exact (Below.refl _ wr).alloc (Nat.le_refl _) _
          rw [hW3]
          have rX3 := RX2.out.over b3
          have x1 := rX3.cell 1
          have x3 := rX3.cell 3
          have f1 := rX3.free 1
          have f3 := rX3.free 3
          have z0 := rC.cell 0
          have z1 := rC.cell 1
          have z2 := rC.cell 2
          simp at x1 x3 z0 z1 z2
          have RX3 := Lib.hid rX3
          have B3 := Lib.hid b3
          have BW3 := Lib.hid (BW.out.trans (b3.mono (by omega)))
          have BN3 := Lib.hid (BN.out.stays (Stays.below b3))
          have BC3 := Lib.hid (HBC.out.stays (Stays.below b3))
          have SN3 := SN2.out
          unfold crashC at SN3
          simp only at SN3
          clear rX3 rC b3 hW3 e0 e1 e2
          by_cases hm0 : mm = 0
          · subst hm0
            rw [if_pos rfl] at SN3
            have SN4 := Lib.hid SN3
            clear SN3
            go_wp2_with fail
            go_round
            case rel => exact ⟨jn + 1, 0, now, is, Bk, dk, by omega, by go_num, rfl, SN4.out, RX3.out, BN3.out, OF.out, BW3.out⟩
            case measure => simp [intOf]; omega
          · rw [if_neg hm0] at SN3
            have hm0' : ((mm : Int) == 0) = false := beq_eq_false_iff_ne.2 (by omega)
            rcases wh with _ | _
            · rw [if_neg (by simp)] at SN3
              obtain ⟨kq, hkq⟩ : ∃ kq, min mm bs.length = kq := ⟨_, rfl⟩
              rw [hkq] at SN3
              have SN4 := Lib.hid SN3
              have hmin : min (mm : Int) (bs.length : Int) = (kq : Int) := by omega
              have hkl : kq ≤ bs.length := by omega
              have hkm : kq ≤ mm := by omega
              have hsub : IntKind.i64.wrap ((mm : Int) - (kq : Int)) = ((mm - kq : Nat) : Int) := by rw [IntKind.wrap_i64]; omega
              have hkd : (kq : Int) ≤ (dc : Int) := by have := HBC.out.le; omega
              have hk0 : (0 : Int) ≤ (kq : Int) := by omega
              have ps : SlS (W3.alloc (.cells #[.slice Bk now.length dk, .slice Bc kq dc] 23)).drew (some ⟨W3.heap.size, 0, none⟩) [⟨Bk, dk, now⟩, ⟨Bc, dc, bs.take kq⟩] := by
                have hs : Stays FR W3 (W3.alloc (.cells #[.slice Bk now.length dk, .slice Bc kq dc] 23)).drew := (Stays.alloc _ _).trans (Stays.drew _)
                have hlt2 : (bs.take kq).length = kq := by rw [List.length_take]; omega
                intro j hj
                match j, hj with
                | 0, _ => exact ⟨⟨W3.heap.size, 0, none⟩, rfl, by simp, by simp [Addr.add], (BN3.out.stays hs).sl, BN3.out.none_⟩
                | 1, _ => exact ⟨⟨W3.heap.size, 0, none⟩, rfl, by simp, by simp only [List.getElem_cons_succ, List.getElem_cons_zero, hlt2]; simp [Addr.add], (BC3.out.stays hs).sl.take kq, BC3.out.none_⟩
              have CC := concat_any (some ⟨W3.heap.size, 0, none⟩) 2 [⟨Bk, dk, now⟩, ⟨Bc, dc, bs.take kq⟩] _ ps (by simp) (by simp [catP, List.length_take]; omega)
              rw [show catP [⟨Bk, dk, now⟩, ⟨Bc, dc, bs.take kq⟩] = now ++ bs.take kq by simp [catP], List.length_append, show (bs.take kq).length = kq by rw [List.length_take]; omega] at CC
              simp only [List.length_cons, List.length_nil, Nat.zero_add, Nat.reduceAdd] at CC
              have CC := Lib.hid CC
              clear ps SN3 hkq
              go_upto_region 12 with fail
              go_region_law
                (first | (go_simp; (with_reducible refine CC.out.mono ?_); rintro x w5 ⟨B5, d5, rfl, hown5, hb5⟩; dsimp only; have RX5 := Lib.hid ((RX3.out.alloc (.cells #[.slice Bk now.length dk, .slice Bc kq dc] 23)).drew.over hb5); have y1 := RX5.out.cell 1; have g1 := RX5.out.free 1; simp only [List.getElem?_toArray, List.getElem?_cons_succ, List.getElem?_cons_zero] at y1; have HO5 := Lib.hid hown5; have HB5 := Lib.hid hb5; clear hown5 hb5))
              all_goals
                go_wp2_with fail
                go_roundw
                case rel =>
                  have hX3 := RX3.out.lt
                  refine ⟨jn + 1, mm - kq, now ++ bs.take kq, is, B5, d5, by omega, by go_num, ?_, SN4.out, (RX5.out.put 1 _).eq ?_, (BSl.own (fun x hx => by have h8 := HD.out.far x hx; have h9 := BY.out.size; simp; omega) HO5.out).store (p := ⟨wc.heap.size + 1, 1, none⟩) (HO5.out.off (by simp; omega)) _, HO5.out.off (by simp; omega), ?_⟩
                  · first | rfl | (congr 1; omega)
                  · rw [List.length_append, List.length_take, Nat.min_eq_left hkl]; rfl
                  · exact (BW3.out.trans (((Below.refl _ W3).alloc (by omega) _).drew.trans (HB5.out.mono (by simp; omega)))).setCell (p := ⟨wc.heap.size + 1, 1, none⟩) (Nat.le_refl _) _
                case measure => simp [intOf]; omega
            · rw [if_pos rfl] at SN3
              have SN4 := Lib.hid SN3
              have hsub : IntKind.i64.wrap ((mm : Int) - 1) = ((mm - 1 : Nat) : Int) := by rw [IntKind.wrap_i64]; omega
              clear SN3
              go_wp2_with fail
              go_region_law fail
              all_goals
                go_wp2_with fail
                go_roundw
                case rel =>
                  refine ⟨jn + 1, mm - 1, bs, !gn, Bc, dc, by omega, by go_num, ?_, SN4.out, ((RX3.out.put 1 _).put 3 _).eq rfl, ?_, HOC.out, ?_⟩
                  · first | rfl | (congr 1; omega)
                  · exact ((BC3.out.store (p := ⟨wc.heap.size + 1, 1, none⟩) HOC.out _).store (p := ⟨wc.heap.size + 1, 3, none⟩) HOC.out _).stays (Stays.drew _)
                  · exact (BW3.out.setCell (p := ⟨wc.heap.size + 1, 1, none⟩) (Nat.le_refl _) _).setCell (p := ⟨wc.heap.size + 1, 3, none⟩) (Nat.le_refl _) _ |>.drew
                case measure => simp [intOf]; omega
        · have e : jn = lo.length := by omega
          subst e
          rw [List.take_length] at FO
          have BY := Lib.hid (B2.out.trans (BW.out.mono (Nat.le_succ _)))
          have SE : Calls Try.prog 21 #[.pointer (some ⟨g, 0, none⟩), nm y, .agg #[.slice none 0 0, .slice Bk now.length dk, .bool false, .bool is, .slice none 0 0]] wr fun x w' =>
              x = .returned (.tuple #[]) ∧ DiskAt FR w' g b (settleS sti y now is) ∧ wr.grownBy w' (some b) :=
            settle_any g b sti y none 0 Bk dk none 0 [] now false is 0 wr (HD.out.below BY.out) BN.out hyl (by omega)
          have SE := Lib.hid SE
          have q0 := RX2.out.cell 0
          have q1 := RX2.out.cell 1
          have q2 := RX2.out.cell 2
          have q3 := RX2.out.cell 3
          have q4 := RX2.out.cell 4
          simp at q0 q1 q2 q3 q4
          go_wp2_with fail
          refine SE.out.mono ?_
          rintro x w9 ⟨rfl, hd9, hg9⟩
          have HD9 := Lib.hid hd9
          have HG9 := Lib.hid hg9
          clear hd9 hg9 SE
          go_wp2_with fail
          go_round
          case rel =>
            obtain ⟨hs1, hs2⟩ := HM.out.settle y now is hyl (by omega)
            have hcf : crashF (stGet sti y) (bud stay k) = (now, is) := by
              rw [HFE.out, HN0.out]
              unfold crashF
              rw [FO.out]
            refine ⟨k + 1, settleS sti y now is, by omega, by go_num, ?_, HD9.out, HG.out.trans ((kp_below b BY.out).trans HG9.out), (HY.out.trans (Stays.below BY.out)).trans ((HD.out.below BY.out).staysN HG9.out), hs1, by omega⟩
            rw [HFS.out]
            unfold crashSt
            rw [hcf]
          case measure => simp [intOf]; omega
    · have e : k = ns.length := by omega
      subst e
      rw [List.take_length] at HFO
      go_wp2_with fail
      refine bodyPost_end (results_none rfl _ _ _) rfl ?_
      exact ⟨rfl, by rw [HFO.out]; exact HD.out, (kp_below b B1.out).trans HG.out⟩
end Go.Proofs.Ytbdhdnkpdpcgnaa
