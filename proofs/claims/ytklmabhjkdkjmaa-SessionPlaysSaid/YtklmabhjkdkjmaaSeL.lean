/- The reference's clerk: Tell. -/
import Derived.Test.YtklmabhjkdkjmaaSeK
import Derived.Deep.DeepCutAuto
namespace Go.Proofs.Ytklmabhjkdkjmaa
set_option linter.unusedVariables false
open Go.RowKit
theorem TkS.tail {w : World} {ad : Addr} {t0 : Tk} {ts : List Tk} (h : TkS w (some ad) (t0 :: ts)) : TkS w (some (ad.add (1 * 4))) ts := fun j hj => by
  obtain ⟨ad', e, hb, h1, h2, h3, h4⟩ := h (j + 1) (by simpa using hj)
  injection e with e
  subst e
  refine ⟨_, rfl, by rw [add_block]; exact hb, ?_⟩
  rw [add_add, add_add, add_add, add_add]
  rw [show 1 * 4 + j * 4 = (j + 1) * 4 by omega, show 1 * 4 + (j * 4 + 1) = (j + 1) * 4 + 1 by omega, show 1 * 4 + (j * 4 + 2) = (j + 1) * 4 + 2 by omega, show 1 * 4 + (j * 4 + 3) = (j + 1) * 4 + 3 by omega]
  exact ⟨h1, h2, h3, h4⟩
theorem wo_take {L : List Tk} {c : Int} {k : Nat} (hk : k < L.length) : wo (L.take (k + 1)) c = if L[k].cl = c then wo (L.take k) c else wo (L.take k) c ++ [L[k]] := by
  rw [List.take_succ_eq_append_getElem hk]
  unfold wo
  rw [List.filter_append]
  by_cases h : L[k].cl = c
  · rw [if_pos h, List.filter_cons_of_neg (by simp [h])]; simp
  · rw [if_neg h, List.filter_cons_of_pos (by simp [h])]; simp
theorem OwnT.set {base : Nat} {w : World} {B : Option Addr} {d : Nat} {ts : List Tk} {r i : Nat} (h : OwnT base w B d ts) (hr : r < base) (v : Value) : OwnT base (w.setCell ⟨r, i, none⟩ v) B d ts :=
  h.keep fun q hq cs hg => heap_setCell_other w ⟨r, i, none⟩ q v (fun e => by
    have := OwnT.base_ h (n := 0) (g := q) (by rw [hq]; simp [Value.ownBlock])
    simp at e
    omega)
theorem rtell_no (r : Nat) (A : Option Addr) (d : Nat) (L : List Tk) (c s e n : Int) (w : World) (h : RfAt w r A d L) (hz : tellE L c s ≠ 0) :
    Calls Try.prog 13 #[.pointer (some ⟨r, 0, none⟩), .int .u64 c, .int .u64 s, .agg #[.int .i64 e, .int .u64 n]] w fun ex w' => ex = .returned (.int .i64 (tellE L c s)) ∧ Below w.heap.size w w' := by
  obtain ⟨W1, hW1⟩ : ∃ W1, w.alloc (.cells #[.int .i64 e, .int .u64 n] 30) = W1 := ⟨_, rfl⟩
  have hb1 : Below w.heap.size w W1 := by rw [← hW1]; exact (Below.refl _ w).alloc (Nat.le_refl _) _
  have C1 := Lib.hid (rask_any r A d L c s W1 (h.over hb1))
  have HB := Lib.hid hb1
  have hcase : (askE L c s ≠ 0 ∧ tellE L c s = askE L c s) ∨ (askE L c s = 0 ∧ askK L c s = true ∧ tellE L c s = 180) := by
    unfold tellE at hz ⊢
    by_cases h1 : askE L c s = 0
    · rw [if_neg (fun h => h h1)] at hz ⊢
      by_cases h2 : askK L c s = true
      · exact .inr ⟨h1, h2, by rw [if_pos h2]⟩
      · rw [if_neg h2] at hz; exact absurd rfl hz
    · exact .inl ⟨h1, by rw [if_pos h1]⟩
  generalize askR L c s = rr at C1
  generalize askE L c s = ae at C1 hcase
  generalize askK L c s = ak at C1 hcase
  clear h hb1 hz
  rcases hcase with ⟨h1, h2⟩ | ⟨rfl, rfl, h2⟩
  · rw [h2]
    have t1 : (ae != 0) = true := by simpa using h1
    clear h1 h2
    go_enter Try.func13, Try.ntmps13
    go_wp2_with fail
    refine C1.out.mono ?_
    rintro ex w2 ⟨rfl, hb2⟩
    have K2 := Lib.hid (nextC HB.out hb2)
    clear hb2 C1 hW1
    go_wp2_with fail
    go_ret
    exact ⟨rfl, nextB K2.out⟩
  · rw [h2]
    clear h2
    go_enter Try.func13, Try.ntmps13
    go_wp2_with fail
    refine C1.out.mono ?_
    rintro ex w2 ⟨rfl, hb2⟩
    have K2 := Lib.hid (nextC HB.out hb2)
    clear hb2 C1 hW1
    go_wp2_with fail
    go_ret
    exact ⟨rfl, nextB K2.out⟩
set_option maxHeartbeats 2000000 in
set_option maxRecDepth 100000 in
theorem rtell_ok (r : Nat) (A : Option Addr) (d : Nat) (L : List Tk) (t : Tk) (w : World) (h : RfAt w r A d L) (hz : tellE L t.cl t.sq = 0) :
    Calls Try.prog 13 #[.pointer (some ⟨r, 0, none⟩), .int .u64 t.cl, .int .u64 t.sq, .agg #[.int .i64 t.e, .int .u64 t.n]] w fun ex w' => ex = .returned (.int .i64 0) ∧ (∃ A' d', RfAt w' r A' d' (tellL L t)) ∧ Bes r r w w' := by
  obtain ⟨W1, hW1⟩ : ∃ W1, w.alloc (.cells #[.int .i64 t.e, .int .u64 t.n] 30) = W1 := ⟨_, rfl⟩
  have hb1 : Below w.heap.size w W1 := by rw [← hW1]; exact (Below.refl _ w).alloc (Nat.le_refl _) _
  have r1 : Row W1 w.heap.size 30 #[.int .i64 t.e, .int .u64 t.n] := by rw [← hW1]; exact Row.new w _ _
  have C1 := rask_any r A d L t.cl t.sq W1 (h.over hb1)
  obtain ⟨z1, z2⟩ := tell_zero hz
  rw [z1, z2] at C1
  generalize askR L t.cl t.sq = rr at C1
  have C1 := Lib.hid C1
  have HB := Lib.hid hb1
  have R1 := Lib.hid r1
  have HH := Lib.hid h
  have hl16 := h.few
  have hT : tellL L t = cut16 (wo L t.cl ++ [t]) := by unfold tellL; rw [if_pos hz]
  have HT := Lib.hid hT
  clear h hb1 r1 hz z1 z2 hT
  go_enter Try.func13, Try.ntmps13
  go_wp2_with fail
  refine C1.out.mono ?_
  rintro ex w2 ⟨rfl, hb2⟩
  go_upto_region 4 with fail
  obtain ⟨W3, hW3⟩ : ∃ W3, w2.alloc (.cells #[.int .i64 rr.1, .int .u64 rr.2] 30) = W3 := ⟨_, rfl⟩
  have hb3 : Below w.heap.size w W3 := by rw [← hW3]; exact nextB (nextC HB.out hb2)
  have r3 : Row W3 w.heap.size 30 #[.int .i64 t.e, .int .u64 t.n] := by rw [← hW3]; exact (R1.out.over hb2).alloc _
  rw [hW3]
  have hr3 := (HH.out.over hb3)
  have hr0 := hr3.row.lt
  obtain ⟨bs, hbs⟩ : ∃ bs, W3.heap.size = bs := ⟨_, rfl⟩
  have HBS := Lib.hid hbs
  have HR := Lib.hid hr3
  have B3 := Lib.hid hb3
  have R3 := Lib.hid r3
  have HRL := Lib.hid (show r < bs by rw [← hbs]; exact hr0)
  have HWL := Lib.hid (show w.heap.size < bs ∧ r < w.heap.size by rw [← hbs]; exact ⟨r3.lt, HH.out.row.lt⟩)
  clear hr3 hb3 r3 hW3 hW1 hb2 C1 HB R1 hbs hr0
  go_wp2_with fail
  go_loopw [12, 13] (fun v i wr => ∃ (k : Nat) (B : Option Addr) (dd : Nat), k ≤ L.length ∧ i = .int .i64 k ∧ v = .slice B (wo (L.take k) t.cl).length dd ∧ OwnT bs wr B dd (wo (L.take k) t.cl) ∧ Below bs W3 wr) (fun _ i _ => L.length - (intOf i).toNat)
  case atStart => exact ⟨0, none, 0, Nat.zero_le _, rfl, rfl, OwnT.nil _ _, Below.refl _ _⟩
  case round =>
    obtain ⟨k, B, dd, hk, rfl, rfl, hown, hkp⟩ := hrel
    have OW := Lib.hid hown
    have KP := Lib.hid hkp
    have HRK := Lib.hid (show RfAt wr r A d L from HR.out.over (by rw [HBS.out]; exact hkp))
    have r0 := HRK.out.row.cell 0
    simp at r0
    have hwl := wo_len (L.take k) t.cl
    have hwl2 : (L.take k).length ≤ L.length := by rw [List.length_take]; omega
    clear hown hkp
    by_cases hlt : k < L.length
    · obtain ⟨ad, rfl, -⟩ := HRK.out.tks k hlt
      have hkl : (k : Int) < (L.length : Int) := by omega
      have hstep := wo_take (c := t.cl) hlt
      obtain ⟨hab, q1, q2, q3, q4⟩ := HRK.out.tks.cells4 k hlt
      obtain ⟨x, hx⟩ : ∃ x, L[k] = x := ⟨_, rfl⟩
      rw [hx] at hstep q1 q2 q3 q4
      clear hx hab
      by_cases hc : x.cl = t.cl
      · have t1 : (x.cl != t.cl) = false := by simp [hc]
        rw [if_pos hc] at hstep
        have HS := Lib.hid hstep
        clear hstep hc
        go_wp2_with fail
        go_roundw
        case rel => exact ⟨k + 1, B, dd, by omega, by go_num, by rw [HS.out], by rw [HS.out]; exact OW.out, KP.out⟩
        case measure => simp [intOf]; omega
      · have t1 : (x.cl != t.cl) = true := by simpa using hc
        rw [if_neg hc] at hstep
        have HS := Lib.hid hstep
        clear hstep hc
        have hz2 : bs ≤ wr.heap.size := by rw [← HBS.out]; exact KP.out.size
        go_wp2_with (at_builtin; refine app1T rfl _ _ rfl bs B _ dd (wo (L.take k) t.cl) x rfl rfl OW.out rfl hz2 (by omega) ?_)
        intro B' d' w6 hown6 hb6
        have O6 := Lib.hid hown6
        have K6 := Lib.hid (KP.out.trans hb6)
        clear hown6 hb6
        go_wp2_with fail
        go_roundw
        case rel => exact ⟨k + 1, B', d', by omega, by go_num, by rw [HS.out, List.length_append]; rfl, by rw [HS.out]; exact O6.out, K6.out⟩
        case measure => simp [intOf]; omega
    · obtain rfl : k = L.length := by omega
      rw [List.take_length] at OW hwl ⊢
      have hz2 : bs ≤ wr.heap.size := by rw [← HBS.out]; exact KP.out.size
      have hrr : Row wr w.heap.size 30 #[.int .i64 t.e, .int .u64 t.n] := R3.out.over (by rw [HBS.out]; exact KP.out)
      have y0 := hrr.cell 0
      have y1 := hrr.cell 1
      simp at y0 y1
      go_wp2_with (at_builtin; refine app1T rfl _ _ rfl bs B _ dd (wo L t.cl) t rfl rfl OW.out rfl hz2 (by omega) ?_)
      intro B' d' w6 hown6 hb6
      have K6 := Lib.hid (KP.out.trans hb6)
      have hr6 : RfAt w6 r A d L := HR.out.over (by rw [HBS.out]; exact K6.out)
      obtain ⟨Z, hZ⟩ : ∃ Z, wo L t.cl ++ [t] = Z := ⟨_, rfl⟩
      have hzl : (wo L t.cl).length + 1 = Z.length := by rw [← hZ, List.length_append]; rfl
      rw [hZ] at hown6
      have O6 := Lib.hid hown6
      have f0 := hr6.row.cell 0
      have f1 := hr6.row.free 0
      simp at f0
      have HR6 := Lib.hid hr6.row
      have HTZ := Lib.hid (show tellL L t = cut16 Z by rw [HT.out, hZ])
      have hz17 : Z.length ≤ 17 := by omega
      rw [hzl]
      clear hown6 hb6 hr6 y0 y1 hrr hzl hwl hwl2
      by_cases h17 : 16 < Z.length
      · obtain ⟨t0, Z2, rfl⟩ : ∃ t0 L2, Z = t0 :: L2 := by
          cases Z with
          | nil => simp at h17
          | cons a l => exact ⟨a, l, rfl⟩
        obtain ⟨ad, hB, -⟩ := O6.out.tks 0 (by simp)
        subst hB
        rw [List.length_cons] at h17 hz17
        have t1 : (16 : Int) < (Z2.length : Int) + 1 := by omega
        obtain ⟨q, rfl, hq, hdl⟩ : ∃ q, ad = ⟨q, 0, none⟩ ∧ bs ≤ q ∧ Z2.length + 1 ≤ d' ∧ d' ≤ maxLen := by
          rcases O6.out.2 with ⟨e, e2⟩ | ⟨g', cap, cur, e, h1, h2, h3, h4, _⟩
          · simp at e2
          · injection e with e1 e2 e3; injection e1 with e1; simp at h3; exact ⟨g', e1, h1, by omega, by omega⟩
        have hut : Try.prog.underlying 22 = some (.slice (Try.prog.elem 22)) := by kernel_rfl
        have hsz : ∀ W, (sizeOf (Try.prog.elem 22)).run Try.prog W = .ok 4 W := fun W => by kernel_rfl
        have hdm := hdl.2
        unfold maxLen at hdm
        obtain ⟨dz, hdz⟩ : ∃ dz, d' - 1 = dz := ⟨_, rfl⟩
        have hs2 : ∀ W, (Instr.slice 22 (.slice (some ⟨q, 0, none⟩) (Z2.length + 1) d') (some (.int .i64 1)) none none).run Try.prog W = .ok (.slice (some ⟨q, 4, none⟩) Z2.length dz) W := fun W => by
          rw [run_slice_l W _ _ _ _ hut .i64 1 (by omega) (by omega), hsz]
          simp only [Result.andThen, sliced]
          rw [show Int.toNat 1 = 1 from rfl, if_neg (by omega), hdz]
          rfl
        have HTK := Lib.hid (show TkS w6 (some ⟨q, 4, none⟩) Z2 from O6.out.tks.tail)
        have HZ := Lib.hid (show tellL L t = Z2 by rw [HTZ.out]; unfold cut16; rw [if_pos (by rw [List.length_cons]; omega)]; rfl)
        have BE := Lib.hid (Bes.of_below (g := r) (b := r) (B3.out.trans (K6.out.mono (by have := HWL.out.1; omega))))
        have hr6l : r < w6.heap.size := HR6.out.lt
        have HBK := Lib.hid (show q ≠ r by have := HRL.out; omega)
        clear hdl hdm hdz hut hsz
        go_wp2_with fail
        go_ret
        refine ⟨rfl, ⟨some ⟨q, 4, none⟩, dz, (HR6.out.put 0 _).eq (by rw [HZ.out]; simp), ?_, by rw [HZ.out]; omega, fun ad e => by injection e with e; subst e; obtain ⟨cs, fz, hg⟩ := O6.out.blk _ rfl; exact ⟨cs, fz, (heap_setCell_other w6 ⟨r, 0, none⟩ q _ (fun e => HBK.out (by simp at e; omega))).trans hg⟩⟩, BE.out.grown (setCell_grown w6 r 0 _) (fun k hk => by cases hk; exact .inl rfl)⟩
        rw [HZ.out]
        exact HTK.out.keep (by simp) (fun a ha _ p hp => World.cell?_setCell_other _ _ _ _ (fun e => by
          injection ha with ha
          subst ha
          rw [← e] at hp
          exact HBK.out hp.symm))
      · have t1 : decide ((16 : Int) < (Z.length : Int)) = false := decide_eq_false (by omega)
        have HZ := Lib.hid (show tellL L t = Z by rw [HTZ.out]; unfold cut16; rw [if_neg h17])
        have BE := Lib.hid (Bes.of_below (g := r) (b := r) (B3.out.trans (K6.out.mono (by have := HWL.out.1; omega))))
        go_wp2_with fail
        go_ret
        refine ⟨rfl, ⟨B', d', (HR6.out.put 0 _).eq (by rw [HZ.out]; simp), ?_, by rw [HZ.out]; omega, (O6.out.set HRL.out _).blk⟩, BE.out.grown (setCell_grown w6 r 0 _) (fun k hk => by cases hk; exact .inl rfl)⟩
        rw [HZ.out]
        exact (O6.out.set HRL.out _).tks
/-- Told, whatever comes. -/
theorem rtell_any (r : Nat) (A : Option Addr) (d : Nat) (L : List Tk) (t : Tk) (w : World) (h : RfAt w r A d L) :
    Calls Try.prog 13 #[.pointer (some ⟨r, 0, none⟩), .int .u64 t.cl, .int .u64 t.sq, .agg #[.int .i64 t.e, .int .u64 t.n]] w fun ex w' => ex = .returned (.int .i64 (tellE L t.cl t.sq)) ∧ (∃ A' d', RfAt w' r A' d' (tellL L t)) ∧ Bes r r w w' := by
  by_cases hz : tellE L t.cl t.sq = 0
  · rw [hz]
    exact rtell_ok r A d L t w h hz
  · refine (rtell_no r A d L t.cl t.sq t.e t.n w h hz).mono fun e w' ⟨he, hb⟩ => ⟨he, ⟨A, d, ?_⟩, Bes.of_below hb⟩
    rw [show tellL L t = L by unfold tellL; rw [if_neg hz]]
    exact h.over hb
theorem tell_all (g b m : Nat) (L : List Tk) (t : Tk) (w : World) (h : ClAt w g b m L) (hc : (Lit.int .u64 t.cl).wf = true) (hm9 : m ≤ 900000) :
    Calls Try.prog 7 #[.pointer (some ⟨g, 0, none⟩), .int .u64 t.cl, .int .u64 t.sq, .agg #[.int .i64 t.e, .int .u64 t.n]] w fun ex w' => ex = .returned (.int .i64 (tellE L t.cl t.sq)) ∧ ClAt w' g b (m + 1) (tellL L t) ∧ Bes g b w w' := by
  by_cases hz : tellE L t.cl t.sq = 0
  · rw [hz]
    exact tell_ok g b m L t w h hc hz hm9
  · refine (tell_no g b m L t.cl t.sq t.e t.n w h hc hz).mono fun e w' ⟨he, hb⟩ => ⟨he, ?_, Bes.of_below hb⟩
    rw [show tellL L t = L by unfold tellL; rw [if_neg hz]]
    exact (h.below hb).mono (by omega)
theorem cell_block {w w' : World} {p : Addr} (h : w'.heap[p.block]? = w.heap[p.block]?) : w'.cell? p = w.cell? p := by
  unfold World.cell?
  rw [h]
/-- The reference's clerk beside the other, and the other way round. -/
theorem RfAt.bes {w w' : World} {r : Nat} {A : Option Addr} {d : Nat} {L L' : List Tk} {g b m : Nat} (h : RfAt w r A d L) (hc : ClAt w g b m L') (hb : Bes g b w w') : RfAt w' r A d L := by
  obtain ⟨u, us, hr, hm, -⟩ := hc.w_.ex
  obtain ⟨n, D, ⟨es, clock, hmb, _⟩, _⟩ := hm
  have hq : ∀ (q : Nat) (cs : Array Value) (T : TypeId) (fz : Nat × Nat), w.heap[q]? = some (Obj.cells cs T fz) → T ≠ 48 → w'.heap[q]? = w.heap[q]? := fun q cs T fz hq hT =>
    hb.block q (Array.getElem?_eq_some_iff.1 hq).1 (fun e => by subst e; have := hr.symm.trans hq; injection this with this; injection this with _ e2 _; exact hT e2.symm) (fun e => by subst e; have := hmb.symm.trans hq; simp at this)
  refine ⟨(hq r _ _ _ h.row (by decide)).trans h.row, h.tks.keep hb.size fun ad e hl p hp => ?_, h.few, fun ad e => ?_⟩
  · obtain ⟨cs, fz, hg⟩ := h.blk ad e
    exact cell_block (by rw [hp]; exact hq _ _ _ _ hg (by decide))
  · obtain ⟨cs, fz, hg⟩ := h.blk ad e
    exact ⟨cs, fz, (hq _ _ _ _ hg (by decide)).trans hg⟩
theorem ClAt.at_ {w w' : World} {g b m : Nat} {L : List Tk} (h : ClAt w g b m L) (hg : w'.heap[g]? = w.heap[g]?) (hb : w'.heap[b]? = w.heap[b]?) : ClAt w' g b m L := by
  obtain ⟨u, us, h1, ⟨n, D, ⟨es, clock, hmb, hm1⟩, hm2⟩, h3⟩ := h.w_.ex
  exact ⟨h.good, h.w_.once, h.w_.len17, h.w_.wf, u, us, hg.trans h1, ⟨n, D, ⟨es, clock, hb.trans hmb, hm1⟩, hm2⟩, h3⟩
theorem ClAt.bes {w w' : World} {r : Nat} {A : Option Addr} {d : Nat} {L L' : List Tk} {g b m : Nat} (h : ClAt w g b m L) (hc : RfAt w r A d L') (hb : Bes r r w w') : ClAt w' g b m L := by
  have hg := h
  obtain ⟨u, us, hr, hm, -⟩ := h.w_.ex
  obtain ⟨n, D, ⟨es, clock, hmb, _⟩, _⟩ := hm
  have e1 : g ≠ r := fun e => by subst e; have := hr.symm.trans hc.row; simp at this
  have e2 : b ≠ r := fun e => by subst e; have := hmb.symm.trans hc.row; simp at this
  exact hg.at_ (hb.block g hr.lt e1 e1) (hb.block b (Array.getElem?_eq_some_iff.1 hmb).1 e2 e2)
end Go.Proofs.Ytklmabhjkdkjmaa
