/- Contracts of slices.Clip (at changes), and of disk.put. -/
import Derived.Test.YtbdhdnkpdpcgnaaDkA
import Derived.Deep.RegionLaw
import Derived.Deep.DeepCutAuto
namespace Go.Proofs.Ytbdhdnkpdpcgnaa
set_option linter.unusedVariables false
open Go.RowKit
variable {FR : Nat → Prop}
theorem clip_any (L : Option Addr) (n e : Nat) (w : World) (h : n ≤ e) (hm : e ≤ maxLen) : Calls Try.prog 28 #[.slice L n e] w fun x w' => x = .returned (.slice L n n) ∧ w = w' := by
  have h0 : (n : Int) ≤ (e : Int) := by omega
  go_enter Try.func28, Try.ntmps28
  go_wp2_with fail
  go_ret
  exact ⟨rfl, rfl⟩
/-- append at a clipped row of changes, as a step of a region that draws. -/
theorem stepC {ops : Array Oper} {o : Oper} {a : Act} {w : World} {K : Act → World → Prop} {Q : Exit → Act → World → Prop} {E : Prop} (hgd : o.guard = none) (D : Nat) (hD : o.dst = some D) (s x : Operand)
    (ho : o.op = .call { callee := .builtin .append, args := #[s, x], argTypes := #[42, 42] }) (L : Option Addr) (n : Nat) (cs : List Chg) (c : Chg) (news : List Value) (ad : Addr) (hn0 : n = cs.length) (hs : a.eval s = .slice L n n) (hx : a.eval x = .slice (some ad) 1 1)
    (W0 : World) (hs0 : Stays FR W0 w) (h : SlC FR W0 L cs) (hc : CellsC FR W0 [c] news) (hn : ∀ j u, news[j]? = some u → w.cell? (ad.add j) = some u) (hlen : cs.length ≤ 1000000)
    (hK : ∀ g e w' vs, CellsC FR W0 (cs ++ [c]) vs → (∀ j u, vs[j]? = some u → w'.cell? ⟨g, j, none⟩ = some u) → w.heap.size ≤ g → cs.length + 1 ≤ e → e ≤ maxLen → Below w.heap.size w w' → K (a.put (some D) (.slice (some ⟨g, 0, none⟩) (n + 1) e)) w') :
    if Region.wanted o (yielded ops a.tmps) = true then Oper.wp Try.prog o a w K Q else E := by
  subst hn0
  have hw : Region.wanted o (yielded ops a.tmps) = true := by simp [Region.wanted, hgd]
  rw [if_pos hw]
  obtain ⟨g, e, w', vs, hrun, h1, h2, h3, h4, h5, h6⟩ := appC_run W0 w hs0 L cs c news ad h hc hn hlen o.type
  have := hK g e w' vs h1 h2 h3 h4 h5 h6
  rw [← hD] at this
  unfold Oper.wp
  simp [execOp, ho, resolve, invoke, builtin, hs, hx, hrun, Result.andThen]
  exact this
theorem ownsMap_size {w : World} {P : Program} {k : TypeId} {R : Value → Option (DataW Value × List MemPlace)} {b n : Nat} {es : List (Lit × DataW Value)} (h : w.ownsMap P k R b n (.map es)) : w.ownsMap P k R b es.length (.map es) := by
  obtain ⟨es0, clock, hb, F, hs, hD⟩ := h
  refine ⟨es0, clock, hb, F, ?_, hD⟩
  injection hD with hD
  rw [hD, length_sorted]
  simp
theorem key_nm (k : Key) (hk : k.length ≤ 1000000) : keyOf Try.prog 9 (nm k) = some (.string k) := by
  have h : k.length ≤ maxLen := by unfold maxLen; omega
  simp [keyOf, Try.underlying9, mapKey]
  show k.toArray.size ≤ maxLen
  simpa using h
/-- The look-up of a name: its run, and the file. -/
theorem DiskAt.look {w : World} {g b : Nat} {st : Files} (h : DiskAt FR w g b st) (k : Key) (hk : k.length ≤ 1000000) :
    ∃ A c B d L e, (Instr.lookup 37 (.map (some b)) (nm k) false).run Try.prog w = .ok (filVal A c B d L e (stGet st k)) w ∧ FilV FR w A c B d L e (stGet st k) := by
  obtain ⟨es, hm, hd⟩ := h.map
  obtain ⟨v, h1, A, c, B, d, L, e, rfl, h2⟩ := hd.get k
  obtain ⟨v', ps, hrun, hv⟩ := hm.lookup (Maps.string_keyed Try.underlying9) Try.underlying37 (Try.zeroValue44 w) (zd := .held zeroFil) (zp := []) rfl (key := nm k) (kl := .string k) (key_nm k hk)
  rw [h1] at hv
  simp only [rawR, Option.some.injEq, Prod.mk.injEq, DataW.held.injEq] at hv
  obtain ⟨rfl, -⟩ := hv
  exact ⟨A, c, B, d, L, e, hrun, h2⟩
/-- A store under a name: its run. -/
theorem DiskAt.store {w : World} {g b : Nat} {st : Files} (h : DiskAt FR w g b st) (k : Key) (hk : k.length ≤ 1000000) (hst : st.length ≤ 1000000) (A : Option Addr) (c : Nat) (B : Option Addr) (d : Nat) (L : Option Addr) (e : Nat) (f : Fil) (hf : FilV FR w A c B d L e f) :
    ∃ w', (Instr.mapUpdate 37 (.map (some b)) (nm k) (filVal A c B d L e f)).run Try.prog w = .ok () w' ∧ DiskAt FR w' g b (stPut st k f) ∧ w.grownBy w' (some b) := by
  obtain ⟨es, hm, hd⟩ := h.map
  obtain ⟨w', hrun, hown, hg⟩ := hm.update (Maps.string_keyed Try.underlying9) Try.underlying37 (by rw [hd.size]; unfold maxLen; omega) (key := nm k) (kl := .string k) (key_nm k hk) (val := filVal A c B d L e f) (d := .held (filVal A c B d L e f)) (ps := []) rfl
  obtain ⟨es', he, hd'⟩ := hd.put k f _ ⟨A, c, B, d, L, e, rfl, hf⟩
  rw [he] at hown
  obtain ⟨es0, clock, hb0, -⟩ := hm
  refine ⟨w', hrun, ⟨?_, ⟨es', ownsMap_size hown, hd'.stays (Stays.grown hb0 hg)⟩, fun x hx => Nat.lt_of_lt_of_le (h.far x hx) hg.size⟩, hg⟩
  have hne : g ≠ b := by
    intro e
    subst e
    have := h.row.symm.trans hb0
    simp at this
  exact (hg.block g h.ltg (fun e => hne (by injection e))).trans h.row

set_option maxHeartbeats 4000000 in
set_option maxRecDepth 100000 in
theorem put_gone (g b : Nat) (st : Files) (k : Key) (wh : Bool) (bs : List Int) (B : Option Addr) (d : Nat) (w : World) (h : DiskAt FR w g b st) (hb : BSl FR w B d bs) (hk : k.length ≤ 1000000) (hst : st.length ≤ 1000000)
    (hsz : (stGet st k).now.length + bs.length ≤ 1000000) (hlo : (stGet st k).loose.length ≤ 1000000) :
    Calls Try.prog 19 #[.pointer (some ⟨g, 0, none⟩), nm k, .agg #[.bool wh, .bool true, .slice B bs.length d]] w fun e w' =>
      e = .returned (.tuple #[]) ∧ DiskAt FR w' g b (stPut st k (putF (stGet st k) ⟨wh, true, bs⟩)) ∧ w.grownBy w' (some b) := by
  obtain ⟨W1, hW1⟩ : ∃ W1, w.alloc (.cells #[.bool wh, .bool true, .slice B bs.length d] 49) = W1 := ⟨_, rfl⟩
  have rC : Row W1 w.heap.size 49 #[.bool wh, .bool true, .slice B bs.length d] := by rw [← hW1]; exact Row.new w _ _
  have hb1 : Below w.heap.size w W1 := by rw [← hW1]; exact (Below.refl _ w).alloc (Nat.le_refl _) _
  have hz1 : W1.heap.size = w.heap.size + 1 := by rw [← hW1]; simp
  have h1 := h.below hb1
  obtain ⟨A, cA, Bn, dn, L, e, hrun, hf⟩ := h1.look k hk
  have cg := h1.row.cell 0
  simp at cg
  obtain ⟨f, hfe⟩ : ∃ f, stGet st k = f := ⟨_, rfl⟩
  rw [hfe] at hf hrun hsz hlo ⊢
  obtain ⟨s, n, isS, isN, lo⟩ := f
  unfold filVal at hrun
  simp only at hrun hsz hlo
  have HF := Lib.hid hf
  have H1 := Lib.hid h1
  have RC := Lib.hid rC
  have B1 := Lib.hid hb1
  have HB := Lib.hid (hb.stays (Stays.below hb1))
  have HW := Lib.hid hW1
  have hgz := h.ltg
  clear hf h1 rC hb1 hb hW1 h hfe
  go_enter Try.func19, Try.ntmps19
  go_upto_region 1 with fail
  rw [HW.out]
  clear HW
  go_upto_region 3 with fail
  obtain ⟨W2, hW2⟩ : ∃ W2, W1.alloc (.cells #[.slice A s.length cA, .slice Bn n.length dn, .bool isS, .bool isN, .slice L lo.length e] 44) = W2 := ⟨_, rfl⟩
  have rF : Row W2 (w.heap.size + 1) 44 #[.slice A s.length cA, .slice Bn n.length dn, .bool isS, .bool isN, .slice L lo.length e] := by rw [← hW2, ← hz1]; exact Row.new W1 _ _
  have b2 : Below W1.heap.size W1 W2 := by rw [← hW2]; exact (Below.refl _ W1).alloc (Nat.le_refl _) _
  have hz2 : W2.heap.size = w.heap.size + 2 := by rw [← hW2]; simp; omega
  rw [hW2]
  have rC2 := RC.out.over b2
  have kC0 := rC2.cell 0
  have kC1 := rC2.cell 1
  have kC2 := rC2.cell 2
  have kF1 := rF.cell 1
  have kF3 := rF.cell 3
  have fF1 := rF.free 1
  have fF3 := rF.free 3
  simp at kC0 kC1 kC2 kF1 kF3
  have RF := Lib.hid rF
  have RC2 := Lib.hid rC2
  have B2 := Lib.hid b2
  clear rF b2 hW2 rC2
  go_upto_region 7 with fail
  obtain ⟨W3, hW3⟩ : ∃ W3, (W2.setCell ⟨w.heap.size + 1, 1, none⟩ (.slice none 0 0)).setCell ⟨w.heap.size + 1, 3, none⟩ (.bool false) = W3 := ⟨_, rfl⟩
  have rF3 : Row W3 (w.heap.size + 1) 44 #[.slice A s.length cA, .slice none 0 0, .bool isS, .bool false, .slice L lo.length e] := by rw [← hW3]; exact ((RF.out.put 1 _).put 3 _).eq rfl
  have b3 : Below W1.heap.size W1 W3 := by rw [← hW3]; exact (B2.out.setCell (p := ⟨w.heap.size + 1, 1, none⟩) (by show W1.heap.size ≤ w.heap.size + 1; omega) _).setCell (p := ⟨w.heap.size + 1, 3, none⟩) (by show W1.heap.size ≤ w.heap.size + 1; omega) _
  have b3z : w.heap.size + 2 ≤ W3.heap.size := by rw [← hW3]; simp; omega
  have RC3 := Lib.hid (RC.out.over b3)
  rw [hW3]
  have RF3 := Lib.hid rF3
  have B3 := Lib.hid b3
  have hz3 : w.heap.size + 2 ≤ W3.heap.size := b3z
  clear rF3 b3z b3 kF1 kF3 fF1 fF3 kC0 kC1 kC2
  have kF4 := RF3.out.cell 4
  have fF4 := RF3.out.free 4
  have kC0 := RC3.out.cell 0
  have kC1 := RC3.out.cell 1
  have kC2 := RC3.out.cell 2
  simp at kF4 kC0 kC1 kC2
  go_cut [] (fun wx => ∃ Lx ex, Row wx (w.heap.size + 1) 44 #[.slice A s.length cA, .slice none 0 0, .bool isS, .bool false, .slice Lx (lo.length + 1) ex] ∧ FilV FR wx A cA none 0 Lx ex ⟨s, [], isS, false, lo ++ [⟨wh, true, bs⟩]⟩ ∧ Below W1.heap.size W1 wx)
  case first =>
    have CC := Lib.hid (fun W => clip_any L lo.length e W HF.out.le HF.out.cap)
    have bn : Below W1.heap.size W1 (W3.drew.alloc (.cells #[.bool wh, .bool true, .slice B bs.length d] 49)) := B3.out.drew.alloc (by simp; omega) _
    have hnews : ∀ (j : Nat) (u : Value), [Value.bool wh, .bool true, .slice B bs.length d][j]? = some u → (W3.drew.alloc (.cells #[.bool wh, .bool true, .slice B bs.length d] 49)).cell? ((⟨W3.heap.size, 0, none⟩ : Addr).add j) = some u := fun j u hu => by
      have r := (Row.new W3.drew 49 #[.bool wh, .bool true, .slice B bs.length d]).cell j
      rw [show (⟨W3.heap.size, 0, none⟩ : Addr).add j = ⟨W3.heap.size, j, none⟩ by unfold Addr.add; split <;> simp_all]
      refine r.trans ?_
      simpa using hu
    have kFa := (RF3.out.alloc (.cells #[.bool wh, .bool true, .slice B bs.length d] 49)).cell 4
    simp only [List.getElem?_toArray, List.getElem?_cons_succ, List.getElem?_cons_zero] at kFa
    have BN := Lib.hid bn
    have HN := Lib.hid hnews
    clear bn hnews
    go_region_law
      (first | (go_simp; (with_reducible refine (CC.out _).mono ?_); rintro x w5 ⟨rfl, rfl⟩; dsimp only)
             | (refine stepC rfl 38 rfl (.tmp 35) (.tmp 37) rfl L lo.length lo ⟨wh, true, bs⟩ [.bool wh, .bool true, .slice B bs.length d] _ rfl (by rfl) (by rfl) W1 (Stays.below BN.out) HF.out.loose ⟨rfl, rfl, ⟨B, d, rfl, HB.out⟩, trivial⟩ HN.out hlo ?_; intro g' e' w6 vs hv1 hv2 hv3 hv4 hv5 hv6; have HV1 := Lib.hid hv1; have HV2 := Lib.hid hv2; have HV3 := Lib.hid hv3; have HV6 := Lib.hid hv6; clear hv1 hv2 hv3 hv6; have RF6 := Lib.hid ((RF3.out.drew.alloc (.cells #[.bool wh, .bool true, .slice B bs.length d] 49)).over HV6.out); have k6 := RF6.out.cell 4; have f6 := RF6.out.free 4; simp only [List.getElem?_toArray, List.getElem?_cons_succ, List.getElem?_cons_zero] at k6; simp only [Act.put, List.setIfInBounds_toArray, List.set_cons_zero, List.set_cons_succ]))
    all_goals
      go_wp2_with fail
      go_meet
      have hg3 := HV3.out
      simp at hg3
      have BX : Below W1.heap.size W1 (w6.setCell ⟨w.heap.size + 1, 4, none⟩ (.slice (some ⟨g', 0, none⟩) (lo.length + 1) e')) := (BN.out.trans (HV6.out.mono BN.out.size)).setCell (p := ⟨w.heap.size + 1, 4, none⟩) (by show W1.heap.size ≤ w.heap.size + 1; omega) _
      refine ⟨some ⟨g', 0, none⟩, e', (RF6.out.put 4 _).eq rfl, ⟨HF.out.sure.stays (Stays.below BX), BSl.nil _, .inr ⟨_, vs, rfl, HV1.out.stays (Stays.below BX), fun j u hu => ?_, fun hx => by have h8 := H1.out.far _ hx; have h9 := BN.out.size; dsimp only at h8; omega⟩, (fun e => by cases e), by simp; omega, hv5⟩, BX⟩
      rw [show (⟨g', 0, none⟩ : Addr).add j = ⟨g', j, none⟩ by unfold Addr.add; split <;> simp_all]
      exact (World.cell?_setCell_other (w := w6) (a := ⟨w.heap.size + 1, 4, none⟩) _ _ (by first | (simp; done) | (simp; omega))).trans (HV2.out j u hu)
  case rest =>
  obtain ⟨Lx, ex, rX, hfx, bX⟩ := hcut
  have hwx : Below w.heap.size w wc.drew := (B1.out.trans (bX.mono (by omega))).drew
  have hDx : DiskAt FR wc.drew g b st := H1.out.below bX.drew
  have kg := hDx.row.cell 0
  simp at kg
  obtain ⟨w', hrunU, hD', hg'⟩ := hDx.store k hk hst A cA none 0 Lx ex ⟨s, [], isS, false, lo ++ [⟨wh, true, bs⟩]⟩ (hfx.stays (Stays.drew wc))
  unfold filVal at hrunU
  have x0 := rX.cell 0
  have x1 := rX.cell 1
  have x2 := rX.cell 2
  have x3 := rX.cell 3
  have x4 := rX.cell 4
  simp at x0 x1 x2 x3 x4
  simp only [List.length_append, List.length_singleton, List.length_nil] at hrunU
  have HD := Lib.hid hD'
  have HG := Lib.hid ((kp_below b hwx).trans hg')
  clear hD' hg' hwx hDx hfx bX rX hrun cg
  go_wp2_with fail
  go_region_law fail
  all_goals
    go_wp2_with fail
    refine bodyPost_end (results_none rfl _ _ _) rfl ?_
    exact ⟨rfl, HD.out, HG.out⟩

set_option maxHeartbeats 4000000 in
set_option maxRecDepth 100000 in
theorem put_whole (g b : Nat) (st : Files) (k : Key) (bs : List Int) (B : Option Addr) (d : Nat) (w : World) (h : DiskAt FR w g b st) (hb : BSl FR w B d bs) (hk : k.length ≤ 1000000) (hst : st.length ≤ 1000000)
    (hsz : (stGet st k).now.length + bs.length ≤ 1000000) (hlo : (stGet st k).loose.length ≤ 1000000) :
    Calls Try.prog 19 #[.pointer (some ⟨g, 0, none⟩), nm k, .agg #[.bool true, .bool false, .slice B bs.length d]] w fun e w' =>
      e = .returned (.tuple #[]) ∧ DiskAt FR w' g b (stPut st k (putF (stGet st k) ⟨true, false, bs⟩)) ∧ w.grownBy w' (some b) := by
  obtain ⟨W1, hW1⟩ : ∃ W1, w.alloc (.cells #[.bool true, .bool false, .slice B bs.length d] 49) = W1 := ⟨_, rfl⟩
  have rC : Row W1 w.heap.size 49 #[.bool true, .bool false, .slice B bs.length d] := by rw [← hW1]; exact Row.new w _ _
  have hb1 : Below w.heap.size w W1 := by rw [← hW1]; exact (Below.refl _ w).alloc (Nat.le_refl _) _
  have hz1 : W1.heap.size = w.heap.size + 1 := by rw [← hW1]; simp
  have h1 := h.below hb1
  obtain ⟨A, cA, Bn, dn, L, e, hrun, hf⟩ := h1.look k hk
  have cg := h1.row.cell 0
  simp at cg
  obtain ⟨f, hfe⟩ : ∃ f, stGet st k = f := ⟨_, rfl⟩
  rw [hfe] at hf hrun hsz hlo ⊢
  obtain ⟨s, n, isS, isN, lo⟩ := f
  unfold filVal at hrun
  simp only at hrun hsz hlo
  have HF := Lib.hid hf
  have H1 := Lib.hid h1
  have RC := Lib.hid rC
  have B1 := Lib.hid hb1
  have HB := Lib.hid (hb.stays (Stays.below hb1))
  have HW := Lib.hid hW1
  have hgz := h.ltg
  clear hf h1 rC hb1 hb hW1 h hfe
  go_enter Try.func19, Try.ntmps19
  go_upto_region 1 with fail
  rw [HW.out]
  clear HW
  go_upto_region 3 with fail
  obtain ⟨W2, hW2⟩ : ∃ W2, W1.alloc (.cells #[.slice A s.length cA, .slice Bn n.length dn, .bool isS, .bool isN, .slice L lo.length e] 44) = W2 := ⟨_, rfl⟩
  have rF : Row W2 (w.heap.size + 1) 44 #[.slice A s.length cA, .slice Bn n.length dn, .bool isS, .bool isN, .slice L lo.length e] := by rw [← hW2, ← hz1]; exact Row.new W1 _ _
  have b2 : Below W1.heap.size W1 W2 := by rw [← hW2]; exact (Below.refl _ W1).alloc (Nat.le_refl _) _
  have hz2 : W2.heap.size = w.heap.size + 2 := by rw [← hW2]; simp; omega
  rw [hW2]
  have rC2 := RC.out.over b2
  have kC0 := rC2.cell 0
  have kC1 := rC2.cell 1
  have kC2 := rC2.cell 2
  have kF1 := rF.cell 1
  have kF3 := rF.cell 3
  have fF1 := rF.free 1
  have fF3 := rF.free 3
  simp at kC0 kC1 kC2 kF1 kF3
  have RF := Lib.hid rF
  have RC2 := Lib.hid rC2
  have B2 := Lib.hid b2
  clear rF b2 hW2 rC2
  go_upto_region 7 with fail
  obtain ⟨W3, hW3⟩ : ∃ W3, (W2.setCell ⟨w.heap.size + 1, 1, none⟩ (.slice B bs.length d)).setCell ⟨w.heap.size + 1, 3, none⟩ (.bool true) = W3 := ⟨_, rfl⟩
  have rF3 : Row W3 (w.heap.size + 1) 44 #[.slice A s.length cA, .slice B bs.length d, .bool isS, .bool true, .slice L lo.length e] := by rw [← hW3]; exact ((RF.out.put 1 _).put 3 _).eq rfl
  have b3 : Below W1.heap.size W1 W3 := by rw [← hW3]; exact (B2.out.setCell (p := ⟨w.heap.size + 1, 1, none⟩) (by show W1.heap.size ≤ w.heap.size + 1; omega) _).setCell (p := ⟨w.heap.size + 1, 3, none⟩) (by show W1.heap.size ≤ w.heap.size + 1; omega) _
  have b3z : w.heap.size + 2 ≤ W3.heap.size := by rw [← hW3]; simp; omega
  have RC3 := Lib.hid (RC.out.over b3)
  rw [hW3]
  have RF3 := Lib.hid rF3
  have B3 := Lib.hid b3
  have hz3 : w.heap.size + 2 ≤ W3.heap.size := b3z
  clear rF3 b3z b3 kF1 kF3 fF1 fF3 kC0 kC1 kC2
  have kF4 := RF3.out.cell 4
  have fF4 := RF3.out.free 4
  have kC0 := RC3.out.cell 0
  have kC1 := RC3.out.cell 1
  have kC2 := RC3.out.cell 2
  simp at kF4 kC0 kC1 kC2
  go_cut [] (fun wx => ∃ Lx ex, Row wx (w.heap.size + 1) 44 #[.slice A s.length cA, .slice B bs.length d, .bool isS, .bool true, .slice Lx (lo.length + 1) ex] ∧ FilV FR wx A cA B d Lx ex ⟨s, bs, isS, true, lo ++ [⟨true, false, bs⟩]⟩ ∧ Below W1.heap.size W1 wx)
  case first =>
    have CC := Lib.hid (fun W => clip_any L lo.length e W HF.out.le HF.out.cap)
    have bn : Below W1.heap.size W1 (W3.drew.alloc (.cells #[.bool true, .bool false, .slice B bs.length d] 49)) := B3.out.drew.alloc (by simp; omega) _
    have hnews : ∀ (j : Nat) (u : Value), [Value.bool true, .bool false, .slice B bs.length d][j]? = some u → (W3.drew.alloc (.cells #[.bool true, .bool false, .slice B bs.length d] 49)).cell? ((⟨W3.heap.size, 0, none⟩ : Addr).add j) = some u := fun j u hu => by
      have r := (Row.new W3.drew 49 #[.bool true, .bool false, .slice B bs.length d]).cell j
      rw [show (⟨W3.heap.size, 0, none⟩ : Addr).add j = ⟨W3.heap.size, j, none⟩ by unfold Addr.add; split <;> simp_all]
      refine r.trans ?_
      simpa using hu
    have kFa := (RF3.out.alloc (.cells #[.bool true, .bool false, .slice B bs.length d] 49)).cell 4
    simp only [List.getElem?_toArray, List.getElem?_cons_succ, List.getElem?_cons_zero] at kFa
    have BN := Lib.hid bn
    have HN := Lib.hid hnews
    clear bn hnews
    go_region_law
      (first | (go_simp; (with_reducible refine (CC.out _).mono ?_); rintro x w5 ⟨rfl, rfl⟩; dsimp only)
             | (refine stepC rfl 38 rfl (.tmp 35) (.tmp 37) rfl L lo.length lo ⟨true, false, bs⟩ [.bool true, .bool false, .slice B bs.length d] _ rfl (by rfl) (by rfl) W1 (Stays.below BN.out) HF.out.loose ⟨rfl, rfl, ⟨B, d, rfl, HB.out⟩, trivial⟩ HN.out hlo ?_; intro g' e' w6 vs hv1 hv2 hv3 hv4 hv5 hv6; have HV1 := Lib.hid hv1; have HV2 := Lib.hid hv2; have HV3 := Lib.hid hv3; have HV6 := Lib.hid hv6; clear hv1 hv2 hv3 hv6; have RF6 := Lib.hid ((RF3.out.drew.alloc (.cells #[.bool true, .bool false, .slice B bs.length d] 49)).over HV6.out); have k6 := RF6.out.cell 4; have f6 := RF6.out.free 4; simp only [List.getElem?_toArray, List.getElem?_cons_succ, List.getElem?_cons_zero] at k6; simp only [Act.put, List.setIfInBounds_toArray, List.set_cons_zero, List.set_cons_succ]))
    all_goals
      go_wp2_with fail
      go_meet
      have hg3 := HV3.out
      simp at hg3
      have BX : Below W1.heap.size W1 (w6.setCell ⟨w.heap.size + 1, 4, none⟩ (.slice (some ⟨g', 0, none⟩) (lo.length + 1) e')) := (BN.out.trans (HV6.out.mono BN.out.size)).setCell (p := ⟨w.heap.size + 1, 4, none⟩) (by show W1.heap.size ≤ w.heap.size + 1; omega) _
      refine ⟨some ⟨g', 0, none⟩, e', (RF6.out.put 4 _).eq rfl, ⟨HF.out.sure.stays (Stays.below BX), HB.out.stays (Stays.below BX), .inr ⟨_, vs, rfl, HV1.out.stays (Stays.below BX), fun j u hu => ?_, fun hx => by have h8 := H1.out.far _ hx; have h9 := BN.out.size; dsimp only at h8; omega⟩, (fun e => by cases e), by simp; omega, hv5⟩, BX⟩
      rw [show (⟨g', 0, none⟩ : Addr).add j = ⟨g', j, none⟩ by unfold Addr.add; split <;> simp_all]
      exact (World.cell?_setCell_other (w := w6) (a := ⟨w.heap.size + 1, 4, none⟩) _ _ (by first | (simp; done) | (simp; omega))).trans (HV2.out j u hu)
  case rest =>
  obtain ⟨Lx, ex, rX, hfx, bX⟩ := hcut
  have hwx : Below w.heap.size w wc.drew := (B1.out.trans (bX.mono (by omega))).drew
  have hDx : DiskAt FR wc.drew g b st := H1.out.below bX.drew
  have kg := hDx.row.cell 0
  simp at kg
  obtain ⟨w', hrunU, hD', hg'⟩ := hDx.store k hk hst A cA B d Lx ex ⟨s, bs, isS, true, lo ++ [⟨true, false, bs⟩]⟩ (hfx.stays (Stays.drew wc))
  unfold filVal at hrunU
  have x0 := rX.cell 0
  have x1 := rX.cell 1
  have x2 := rX.cell 2
  have x3 := rX.cell 3
  have x4 := rX.cell 4
  simp at x0 x1 x2 x3 x4
  simp only [List.length_append, List.length_singleton] at hrunU
  have HD := Lib.hid hD'
  have HG := Lib.hid ((kp_below b hwx).trans hg')
  clear hD' hg' hwx hDx hfx bX rX hrun cg
  go_wp2_with fail
  go_region_law fail
  all_goals
    go_wp2_with fail
    refine bodyPost_end (results_none rfl _ _ _) rfl ?_
    exact ⟨rfl, HD.out, HG.out⟩

set_option maxHeartbeats 4000000 in
set_option maxRecDepth 100000 in
theorem put_add (g b : Nat) (st : Files) (k : Key) (bs : List Int) (B : Option Addr) (d : Nat) (w : World) (h : DiskAt FR w g b st) (hb : BSl FR w B d bs) (hk : k.length ≤ 1000000) (hst : st.length ≤ 1000000)
    (hsz : (stGet st k).now.length + bs.length ≤ 1000000) (hlo : (stGet st k).loose.length ≤ 1000000) :
    Calls Try.prog 19 #[.pointer (some ⟨g, 0, none⟩), nm k, .agg #[.bool false, .bool false, .slice B bs.length d]] w fun e w' =>
      e = .returned (.tuple #[]) ∧ DiskAt FR w' g b (stPut st k (putF (stGet st k) ⟨false, false, bs⟩)) ∧ w.grownBy w' (some b) := by
  obtain ⟨W1, hW1⟩ : ∃ W1, w.alloc (.cells #[.bool false, .bool false, .slice B bs.length d] 49) = W1 := ⟨_, rfl⟩
  have rC : Row W1 w.heap.size 49 #[.bool false, .bool false, .slice B bs.length d] := by rw [← hW1]; exact Row.new w _ _
  have hb1 : Below w.heap.size w W1 := by rw [← hW1]; exact (Below.refl _ w).alloc (Nat.le_refl _) _
  have hz1 : W1.heap.size = w.heap.size + 1 := by rw [← hW1]; simp
  have h1 := h.below hb1
  obtain ⟨A, cA, Bn, dn, L, e, hrun, hf⟩ := h1.look k hk
  have cg := h1.row.cell 0
  simp at cg
  obtain ⟨f, hfe⟩ : ∃ f, stGet st k = f := ⟨_, rfl⟩
  rw [hfe] at hf hrun hsz hlo ⊢
  obtain ⟨s, n, isS, isN, lo⟩ := f
  unfold filVal at hrun
  simp only at hrun hsz hlo
  have HF := Lib.hid hf
  have H1 := Lib.hid h1
  have RC := Lib.hid rC
  have B1 := Lib.hid hb1
  have HB := Lib.hid (hb.stays (Stays.below hb1))
  have HW := Lib.hid hW1
  have hgz := h.ltg
  clear hf h1 rC hb1 hb hW1 h hfe
  go_enter Try.func19, Try.ntmps19
  go_upto_region 1 with fail
  rw [HW.out]
  clear HW
  go_upto_region 3 with fail
  obtain ⟨W2, hW2⟩ : ∃ W2, W1.alloc (.cells #[.slice A s.length cA, .slice Bn n.length dn, .bool isS, .bool isN, .slice L lo.length e] 44) = W2 := ⟨_, rfl⟩
  have rF : Row W2 (w.heap.size + 1) 44 #[.slice A s.length cA, .slice Bn n.length dn, .bool isS, .bool isN, .slice L lo.length e] := by rw [← hW2, ← hz1]; exact Row.new W1 _ _
  have b2 : Below W1.heap.size W1 W2 := by rw [← hW2]; exact (Below.refl _ W1).alloc (Nat.le_refl _) _
  have hz2 : W2.heap.size = w.heap.size + 2 := by rw [← hW2]; simp; omega
  rw [hW2]
  have rC2 := RC.out.over b2
  have kC0 := rC2.cell 0
  have kC1 := rC2.cell 1
  have kC2 := rC2.cell 2
  have kF1 := rF.cell 1
  have kF3 := rF.cell 3
  have fF1 := rF.free 1
  have fF3 := rF.free 3
  simp at kC0 kC1 kC2 kF1 kF3
  have RF := Lib.hid rF
  have RC2 := Lib.hid rC2
  have B2 := Lib.hid b2
  clear rF b2 hW2 rC2
  have ps : SlS (W2.alloc (.cells #[.slice Bn n.length dn, .slice B bs.length d] 23)) (some ⟨W2.heap.size, 0, none⟩) [⟨Bn, dn, n⟩, ⟨B, d, bs⟩] := by
    have hs : Stays FR W1 (W2.alloc (.cells #[.slice Bn n.length dn, .slice B bs.length d] 23)) := (Stays.below B2.out).trans (Stays.alloc _ _)
    intro j hj
    match j, hj with
    | 0, _ => exact ⟨⟨W2.heap.size, 0, none⟩, rfl, by simp, by simp [Addr.add], (HF.out.now.stays hs).sl, HF.out.now.none_⟩
    | 1, _ => exact ⟨⟨W2.heap.size, 0, none⟩, rfl, by simp, by simp [Addr.add], (HB.out.stays hs).sl, HB.out.none_⟩
  have CC2 := concat_any (some ⟨W2.heap.size, 0, none⟩) 2 [⟨Bn, dn, n⟩, ⟨B, d, bs⟩] _ ps (by simp) (by simp [catP]; omega)
  rw [show catP [⟨Bn, dn, n⟩, ⟨B, d, bs⟩] = n ++ bs by simp [catP], List.length_append] at CC2
  simp only [List.length_cons, List.length_nil, Nat.zero_add, Nat.reduceAdd, hz2] at CC2
  have CC2 := Lib.hid CC2
  clear ps
  go_upto_region 7 with ((with_reducible refine CC2.out.mono ?_); rintro x w4 ⟨B4, d4, rfl, hown4, hb4⟩; have rF4 := (RF.out.alloc (.cells #[.slice Bn n.length dn, .slice B bs.length d] 23)).over hb4; have BB4 := Lib.hid (B2.out.trans ((nextA (Below.refl _ W2) hb4).mono B2.out.size)); have HO4 := Lib.hid hown4; have kG1 := rF4.cell 1; have kG3 := rF4.cell 3; have fG1 := rF4.free 1; have fG3 := rF4.free 3; have hz4 := hb4.size; simp only [List.getElem?_toArray, List.getElem?_cons_succ, List.getElem?_cons_zero] at kG1 kG3; have RF4 := Lib.hid rF4; clear rF4 hb4 hown4)
  obtain ⟨W3, hW3⟩ : ∃ W3, (w4.setCell ⟨w.heap.size + 1, 1, none⟩ (.slice B4 (n.length + bs.length) d4)).setCell ⟨w.heap.size + 1, 3, none⟩ (.bool true) = W3 := ⟨_, rfl⟩
  simp only [World.size_alloc] at hz4
  have rF3 : Row W3 (w.heap.size + 1) 44 #[.slice A s.length cA, .slice B4 (n.length + bs.length) d4, .bool isS, .bool true, .slice L lo.length e] := by rw [← hW3]; exact ((RF4.out.put 1 _).put 3 _).eq rfl
  have b3 : Below W1.heap.size W1 W3 := by rw [← hW3]; exact (BB4.out.setCell (p := ⟨w.heap.size + 1, 1, none⟩) (by show W1.heap.size ≤ w.heap.size + 1; omega) _).setCell (p := ⟨w.heap.size + 1, 3, none⟩) (by show W1.heap.size ≤ w.heap.size + 1; omega) _
  have b3z : w.heap.size + 2 ≤ W3.heap.size := by rw [← hW3]; simp; omega
  have RC3 := Lib.hid (RC.out.over b3)
  have hO3 : OwnB (w.heap.size + 2) W3 B4 d4 (n ++ bs) := by
    rw [← hW3]
    exact ownsRow_setCell_below (ownsRow_setCell_below (HO4.out.low (by simp; omega)) (by show w.heap.size + 1 < w.heap.size + 2; omega) _) (by show w.heap.size + 1 < w.heap.size + 2; omega) _
  have HO3 := Lib.hid hO3
  rw [hW3]
  clear hO3 kG1 kG3 fG1 fG3 hW3
  have RF3 := Lib.hid rF3
  have B3 := Lib.hid b3
  have hz3 : w.heap.size + 2 ≤ W3.heap.size := b3z
  clear rF3 b3z b3 kF1 kF3 fF1 fF3 kC0 kC1 kC2
  have kF4 := RF3.out.cell 4
  have fF4 := RF3.out.free 4
  have kC0 := RC3.out.cell 0
  have kC1 := RC3.out.cell 1
  have kC2 := RC3.out.cell 2
  simp at kF4 kC0 kC1 kC2
  go_cut [] (fun wx => ∃ Lx ex, Row wx (w.heap.size + 1) 44 #[.slice A s.length cA, .slice B4 (n.length + bs.length) d4, .bool isS, .bool true, .slice Lx (lo.length + 1) ex] ∧ FilV FR wx A cA B4 d4 Lx ex ⟨s, n ++ bs, isS, true, lo ++ [⟨false, false, bs⟩]⟩ ∧ Below W1.heap.size W1 wx)
  case first =>
    have CC := Lib.hid (fun W => clip_any L lo.length e W HF.out.le HF.out.cap)
    have bn : Below W1.heap.size W1 (W3.drew.alloc (.cells #[.bool false, .bool false, .slice B bs.length d] 49)) := B3.out.drew.alloc (by simp; omega) _
    have hnews : ∀ (j : Nat) (u : Value), [Value.bool false, .bool false, .slice B bs.length d][j]? = some u → (W3.drew.alloc (.cells #[.bool false, .bool false, .slice B bs.length d] 49)).cell? ((⟨W3.heap.size, 0, none⟩ : Addr).add j) = some u := fun j u hu => by
      have r := (Row.new W3.drew 49 #[.bool false, .bool false, .slice B bs.length d]).cell j
      rw [show (⟨W3.heap.size, 0, none⟩ : Addr).add j = ⟨W3.heap.size, j, none⟩ by unfold Addr.add; split <;> simp_all]
      refine r.trans ?_
      simpa using hu
    have kFa := (RF3.out.alloc (.cells #[.bool false, .bool false, .slice B bs.length d] 49)).cell 4
    simp only [List.getElem?_toArray, List.getElem?_cons_succ, List.getElem?_cons_zero] at kFa
    have BN := Lib.hid bn
    have HN := Lib.hid hnews
    clear bn hnews
    go_region_law
      (first | (go_simp; (with_reducible refine (CC.out _).mono ?_); rintro x w5 ⟨rfl, rfl⟩; dsimp only)
             | (refine stepC rfl 38 rfl (.tmp 35) (.tmp 37) rfl L lo.length lo ⟨false, false, bs⟩ [.bool false, .bool false, .slice B bs.length d] _ rfl (by rfl) (by rfl) W1 (Stays.below BN.out) HF.out.loose ⟨rfl, rfl, ⟨B, d, rfl, HB.out⟩, trivial⟩ HN.out hlo ?_; intro g' e' w6 vs hv1 hv2 hv3 hv4 hv5 hv6; have HV1 := Lib.hid hv1; have HV2 := Lib.hid hv2; have HV3 := Lib.hid hv3; have HV6 := Lib.hid hv6; clear hv1 hv2 hv3 hv6; have RF6 := Lib.hid ((RF3.out.drew.alloc (.cells #[.bool false, .bool false, .slice B bs.length d] 49)).over HV6.out); have k6 := RF6.out.cell 4; have f6 := RF6.out.free 4; simp only [List.getElem?_toArray, List.getElem?_cons_succ, List.getElem?_cons_zero] at k6; simp only [Act.put, List.setIfInBounds_toArray, List.set_cons_zero, List.set_cons_succ]))
    all_goals
      go_wp2_with fail
      go_meet
      have hg3 := HV3.out
      simp at hg3
      have BX : Below W1.heap.size W1 (w6.setCell ⟨w.heap.size + 1, 4, none⟩ (.slice (some ⟨g', 0, none⟩) (lo.length + 1) e')) := (BN.out.trans (HV6.out.mono BN.out.size)).setCell (p := ⟨w.heap.size + 1, 4, none⟩) (by show W1.heap.size ≤ w.heap.size + 1; omega) _
      refine ⟨some ⟨g', 0, none⟩, e', (RF6.out.put 4 _).eq rfl, ⟨HF.out.sure.stays (Stays.below BX), BSl.own (fun x hx => by have h8 := H1.out.far x hx; have h9 := B2.out.size; simp; omega) (ownsRow_setCell_below ((HO3.out.drew.alloc (.cells #[.bool false, .bool false, .slice B bs.length d] 49)).over HV6.out) (by show w.heap.size + 1 < w.heap.size + 2; omega) _), .inr ⟨_, vs, rfl, HV1.out.stays (Stays.below BX), fun j u hu => ?_, fun hx => by have h8 := H1.out.far _ hx; have h9 := BN.out.size; dsimp only at h8; omega⟩, (fun e => by cases e), by simp; omega, hv5⟩, BX⟩
      rw [show (⟨g', 0, none⟩ : Addr).add j = ⟨g', j, none⟩ by unfold Addr.add; split <;> simp_all]
      exact (World.cell?_setCell_other (w := w6) (a := ⟨w.heap.size + 1, 4, none⟩) _ _ (by first | (simp; done) | (simp; omega))).trans (HV2.out j u hu)
  case rest =>
  obtain ⟨Lx, ex, rX, hfx, bX⟩ := hcut
  have hwx : Below w.heap.size w wc.drew := (B1.out.trans (bX.mono (by omega))).drew
  have hDx : DiskAt FR wc.drew g b st := H1.out.below bX.drew
  have kg := hDx.row.cell 0
  simp at kg
  obtain ⟨w', hrunU, hD', hg'⟩ := hDx.store k hk hst A cA B4 d4 Lx ex ⟨s, n ++ bs, isS, true, lo ++ [⟨false, false, bs⟩]⟩ (hfx.stays (Stays.drew wc))
  unfold filVal at hrunU
  have x0 := rX.cell 0
  have x1 := rX.cell 1
  have x2 := rX.cell 2
  have x3 := rX.cell 3
  have x4 := rX.cell 4
  simp at x0 x1 x2 x3 x4
  simp only [List.length_append, List.length_singleton] at hrunU
  have HD := Lib.hid hD'
  have HG := Lib.hid ((kp_below b hwx).trans hg')
  clear hD' hg' hwx hDx hfx bX rX hrun cg
  go_wp2_with fail
  go_region_law fail
  all_goals
    go_wp2_with fail
    refine bodyPost_end (results_none rfl _ _ _) rfl ?_
    exact ⟨rfl, HD.out, HG.out⟩

theorem put_any (g b : Nat) (st : Files) (k : Key) (c : Chg) (B : Option Addr) (d : Nat) (w : World) (h : DiskAt FR w g b st) (hb : BSl FR w B d c.b) (hk : k.length ≤ 1000000) (hst : st.length ≤ 1000000)
    (hsz : (stGet st k).now.length + c.b.length ≤ 1000000) (hlo : (stGet st k).loose.length ≤ 1000000) :
    Calls Try.prog 19 #[.pointer (some ⟨g, 0, none⟩), nm k, .agg #[.bool c.whole, .bool c.gone, .slice B c.b.length d]] w fun e w' =>
      e = .returned (.tuple #[]) ∧ DiskAt FR w' g b (stPut st k (putF (stGet st k) c)) ∧ w.grownBy w' (some b) := by
  obtain ⟨wh, gn, bs⟩ := c
  rcases gn with _ | _
  · rcases wh with _ | _
    · exact put_add g b st k bs B d w h hb hk hst hsz hlo
    · exact put_whole g b st k bs B d w h hb hk hst hsz hlo
  · exact put_gone g b st k wh bs B d w h hb hk hst hsz hlo
end Go.Proofs.Ytbdhdnkpdpcgnaa
