/- Contracts of disk.Replace, Remove, Sync, Read, Sure. -/
import Derived.Test.YtbdhdnkpdpcgnaaDkO
namespace Go.Proofs.Ytbdhdnkpdpcgnaa
set_option linter.unusedVariables false
open Go.RowKit
variable {FR : Nat → Prop}
theorem fld3 (a1 a2 a3 a5 : Value) (x : Bool) (W : World) : (Instr.field 44 (.agg #[a1, a2, a3, .bool x, a5]) 3).run Try.prog W = .ok (.bool x) W := rfl

set_option maxHeartbeats 4000000 in
set_option maxRecDepth 100000 in
theorem replace_true (g b : Nat) (st : Files) (k : Key) (bs : List Int) (B : Option Addr) (d : Nat) (w : World) (h : DiskAt FR w g b st) (hb : BSl FR w B d bs) (hF : Fits st k) (hsz : (stGet st k).now.length + bs.length ≤ 1000000) (hi : (stGet st k).isNow = true) :
    Calls Try.prog 9 #[.pointer (some ⟨g, 0, none⟩), nm k, .slice B bs.length d] w fun e w' =>
      e = .returned (.int .i64 0) ∧ DiskAt FR w' g b (stPut st k (putF (stGet st k) ⟨true, false, bs⟩)) ∧ w.grownBy w' (some b) := by
  have C1 := Lib.hid (may_ok g b st k w h hF.k1 hF.k2)
  have k3 := hF.k2
  obtain ⟨A, cA, Bn, dn, L, e, hrun, hf⟩ := h.look k (by omega)
  have hlo := hF.lo
  have P := Lib.hid (fun (B' : Option Addr) (d' : Nat) (W : World) (hW : Below w.heap.size w W) (hB : BSl FR W B' d' bs) => put_any g b st k ⟨true, false, bs⟩ B' d' W (h.below hW) hB (by omega) (by have := hF.few; omega) hsz hlo)
  have cg := h.row.cell 0
  simp at cg
  obtain ⟨f, hfe⟩ : ∃ f, stGet st k = f := ⟨_, rfl⟩
  rw [hfe] at hf hrun hsz hlo hi P ⊢
  obtain ⟨s, n, isS, isN, lo⟩ := f
  simp only at hi
  subst hi
  unfold filVal at hrun
  simp only at hrun hsz hlo
  have H := Lib.hid h
  have HFT := Lib.hid hF
  have HB := Lib.hid hb
  have hd1 : decide ((1048576 : Int) < (bs.length : Int)) = false := decide_eq_false (by omega)
  clear h hf hb hfe
  have hfl := fld3 (.slice A s.length cA) (.slice Bn n.length dn) (.bool isS) (.slice L lo.length e) true
  go_enter Try.func9, Try.ntmps9
  go_wp2_with fail
  refine C1.out.mono ?_
  rintro x w1 ⟨rfl, rfl⟩
  have BZ := Lib.hid (Below.refl w.heap.size w)
  have CL := Lib.hid (clone_any B d bs w (HB.out.stays (Stays.below BZ.out)).sl (by omega))
  go_wp2_with fail
  refine CL.out.mono ?_
  rintro x w4 ⟨B4, d4, rfl, hown4, hb4⟩
  have HO4 := Lib.hid (BSl.own (fun x hx => Nat.lt_of_lt_of_le (H.out.far x hx) BZ.out.size) hown4)
  have BB4 := Lib.hid (nextC BZ.out hb4)
  clear hown4 hb4
  go_wp2_with fail
  refine (P.out B4 d4 w4 BB4.out HO4.out).mono ?_
  rintro x w5 ⟨rfl, hD5, hg5⟩
  have HD5 := Lib.hid hD5
  have HG5 := Lib.hid ((kp_below b BB4.out).trans hg5)
  clear hD5 hg5
  go_wp2_with fail
  go_ret
  exact ⟨rfl, HD5.out, HG5.out⟩

set_option maxHeartbeats 4000000 in
set_option maxRecDepth 100000 in
theorem replace_false (g b : Nat) (st : Files) (k : Key) (bs : List Int) (B : Option Addr) (d : Nat) (w : World) (h : DiskAt FR w g b st) (hb : BSl FR w B d bs) (hF : Fits st k) (hsz : (stGet st k).now.length + bs.length ≤ 1000000) (hi : (stGet st k).isNow = false) (hmany : (stNames nowF st).length < 64) :
    Calls Try.prog 9 #[.pointer (some ⟨g, 0, none⟩), nm k, .slice B bs.length d] w fun e w' =>
      e = .returned (.int .i64 0) ∧ DiskAt FR w' g b (stPut st k (putF (stGet st k) ⟨true, false, bs⟩)) ∧ w.grownBy w' (some b) := by
  have C1 := Lib.hid (may_ok g b st k w h hF.k1 hF.k2)
  have k3 := hF.k2
  obtain ⟨A, cA, Bn, dn, L, e, hrun, hf⟩ := h.look k (by omega)
  have hlo := hF.lo
  have P := Lib.hid (fun (B' : Option Addr) (d' : Nat) (W : World) (hW : Below w.heap.size w W) (hB : BSl FR W B' d' bs) => put_any g b st k ⟨true, false, bs⟩ B' d' W (h.below hW) hB (by omega) (by have := hF.few; omega) hsz hlo)
  have cg := h.row.cell 0
  simp at cg
  obtain ⟨f, hfe⟩ : ∃ f, stGet st k = f := ⟨_, rfl⟩
  rw [hfe] at hf hrun hsz hlo hi P ⊢
  obtain ⟨s, n, isS, isN, lo⟩ := f
  simp only at hi
  subst hi
  unfold filVal at hrun
  simp only at hrun hsz hlo
  have H := Lib.hid h
  have HFT := Lib.hid hF
  have HB := Lib.hid hb
  have hd1 : decide ((1048576 : Int) < (bs.length : Int)) = false := decide_eq_false (by omega)
  have hd2 : decide ((64 : Int) ≤ ((stNames nowF st).length : Int)) = false := decide_eq_false (by omega)
  have CM := Lib.hid (many_any g b st w h hF.few hF.ks)
  clear h hf hb hfe
  have hfl := fld3 (.slice A s.length cA) (.slice Bn n.length dn) (.bool isS) (.slice L lo.length e) false
  go_enter Try.func9, Try.ntmps9
  go_wp2_with fail
  refine C1.out.mono ?_
  rintro x w1 ⟨rfl, rfl⟩
  go_wp2_with fail
  refine CM.out.mono ?_
  rintro x wz ⟨rfl, hbz⟩
  have BZ := Lib.hid hbz
  clear hbz
  have CL := Lib.hid (clone_any B d bs wz (HB.out.stays (Stays.below BZ.out)).sl (by omega))
  go_wp2_with fail
  refine CL.out.mono ?_
  rintro x w4 ⟨B4, d4, rfl, hown4, hb4⟩
  have HO4 := Lib.hid (BSl.own (fun x hx => Nat.lt_of_lt_of_le (H.out.far x hx) BZ.out.size) hown4)
  have BB4 := Lib.hid (nextC BZ.out hb4)
  clear hown4 hb4
  go_wp2_with fail
  refine (P.out B4 d4 w4 BB4.out HO4.out).mono ?_
  rintro x w5 ⟨rfl, hD5, hg5⟩
  have HD5 := Lib.hid hD5
  have HG5 := Lib.hid ((kp_below b BB4.out).trans hg5)
  clear hD5 hg5
  go_wp2_with fail
  go_ret
  exact ⟨rfl, HD5.out, HG5.out⟩

theorem replace_any (g b : Nat) (st : Files) (k : Key) (bs : List Int) (B : Option Addr) (d : Nat) (w : World) (h : DiskAt FR w g b st) (hb : BSl FR w B d bs) (hF : Fits st k) (hsz : (stGet st k).now.length + bs.length ≤ 1000000) (hm : (stGet st k).isNow = true ∨ (stNames nowF st).length < 64) :
    Calls Try.prog 9 #[.pointer (some ⟨g, 0, none⟩), nm k, .slice B bs.length d] w fun e w' =>
      e = .returned (.int .i64 0) ∧ DiskAt FR w' g b (stPut st k (putF (stGet st k) ⟨true, false, bs⟩)) ∧ w.grownBy w' (some b) := by
  rcases hi : (stGet st k).isNow with _ | _
  · exact replace_false g b st k bs B d w h hb hF hsz hi (by rcases hm with hm | hm; rw [hi] at hm; cases hm; exact hm)
  · exact replace_true g b st k bs B d w h hb hF hsz hi
set_option maxHeartbeats 4000000 in
set_option maxRecDepth 100000 in
theorem remove_ok (g b : Nat) (st : Files) (k : Key) (w : World) (h : DiskAt FR w g b st) (hF : Fits st k) (hsz : (stGet st k).now.length ≤ 1000000) (hi : (stGet st k).isNow = true) :
    Calls Try.prog 10 #[.pointer (some ⟨g, 0, none⟩), nm k] w fun e w' =>
      e = .returned (.int .i64 0) ∧ DiskAt FR w' g b (stPut st k (putF (stGet st k) ⟨true, true, []⟩)) ∧ w.grownBy w' (some b) := by
  have C1 := Lib.hid (may_ok g b st k w h hF.k1 hF.k2)
  have k3 := hF.k2
  obtain ⟨A, cA, Bn, dn, L, e, hrun, hf⟩ := h.look k (by omega)
  have P : Calls Try.prog 19 #[.pointer (some ⟨g, 0, none⟩), nm k, .agg #[.bool true, .bool true, .slice none 0 0]] w fun e w' =>
      e = .returned (.tuple #[]) ∧ DiskAt FR w' g b (stPut st k (putF (stGet st k) ⟨true, true, []⟩)) ∧ w.grownBy w' (some b) := put_any g b st k ⟨true, true, []⟩ none 0 w h (BSl.nil w) (by omega) (by have := hF.few; omega) (by simpa using hsz) hF.lo
  have P := Lib.hid P
  have cg := h.row.cell 0
  simp at cg
  obtain ⟨f, hfe⟩ : ∃ f, stGet st k = f := ⟨_, rfl⟩
  rw [hfe] at hf hrun hi P ⊢
  obtain ⟨s, n, isS, isN, lo⟩ := f
  simp only at hi
  subst hi
  unfold filVal at hrun
  simp only at hrun
  clear h hf hfe hsz
  have hfl := fld3 (.slice A s.length cA) (.slice Bn n.length dn) (.bool isS) (.slice L lo.length e) true
  go_enter Try.func10, Try.ntmps10
  go_wp2_with fail
  refine C1.out.mono ?_
  rintro x w1 ⟨rfl, rfl⟩
  go_wp2_with fail
  refine P.out.mono ?_
  rintro x w5 ⟨rfl, hD5, hg5⟩
  have HD5 := Lib.hid hD5
  have HG5 := Lib.hid hg5
  clear hD5 hg5
  go_wp2_with fail
  go_ret
  exact ⟨rfl, HD5.out, HG5.out⟩
/-- The look-up that tells whether there is one. -/
theorem DiskAt.look2 {w : World} {g b : Nat} {st : Files} (h : DiskAt FR w g b st) (k : Key) (hk : k.length ≤ 1000000) :
    ∃ A c B d L e, (Instr.lookup 37 (.map (some b)) (nm k) true).run Try.prog w = .ok (.tuple #[filVal A c B d L e (stGet st k), .bool (stHas st k)]) w ∧ FilV FR w A c B d L e (stGet st k) := by
  obtain ⟨es, hm, hd⟩ := h.map
  obtain ⟨v, h1, A, c, B, d, L, e, rfl, h2⟩ := hd.get k
  obtain ⟨v', ps, hrun, hv⟩ := hm.look_ok (Maps.string_keyed Try.underlying9) Try.underlying37 (Try.zeroValue44 w) (zd := .held zeroFil) (zp := []) rfl (key_nm k hk)
  rw [h1] at hv
  simp only [rawR, Option.some.injEq, Prod.mk.injEq, DataW.held.injEq] at hv
  obtain ⟨rfl, -⟩ := hv
  rw [hd.has k] at hrun
  exact ⟨A, c, B, d, L, e, hrun, h2⟩
set_option maxHeartbeats 4000000 in
set_option maxRecDepth 100000 in
theorem sync_ok (g b : Nat) (st : Files) (k : Key) (w : World) (h : DiskAt FR w g b st) (hF : Fits st k) (hh : stHas st k = true) :
    Calls Try.prog 8 #[.pointer (some ⟨g, 0, none⟩), nm k] w fun e w' =>
      e = .returned (.int .i64 0) ∧ DiskAt FR w' g b (settleS st k (stGet st k).now (stGet st k).isNow) ∧ w.grownBy w' (some b) := by
  have C1 := Lib.hid (may_ok g b st k w h hF.k1 hF.k2)
  have k3 := hF.k2
  have hst := hF.few
  obtain ⟨A, cA, Bn, dn, L, e, hrun, hf⟩ := h.look2 k (by omega)
  rw [hh] at hrun
  have cg := h.row.cell 0
  simp at cg
  obtain ⟨f, hfe⟩ : ∃ f, stGet st k = f := ⟨_, rfl⟩
  rw [hfe] at hf hrun ⊢
  obtain ⟨s, n, isS, isN, lo⟩ := f
  unfold filVal at hrun
  simp only at hrun
  have S := Lib.hid (fun (W : World) (hW : Below w.heap.size w W) => settle_any g b st k A cA Bn dn L e s n isS isN lo.length W (h.below hW) (hf.now.stays (Stays.below hW)) (by omega) (by omega))
  clear h hf hfe hh
  go_enter Try.func8, Try.ntmps8
  go_wp2_with fail
  refine C1.out.mono ?_
  rintro x w1 ⟨rfl, rfl⟩
  go_wp2_with fail
  have b2 := ((Below.refl _ w).alloc (Nat.le_refl _) (.cells #[.slice A s.length cA, .slice Bn n.length dn, .bool isS, .bool isN, .slice L lo.length e] 44))
  refine (S.out _ b2).mono ?_
  rintro x w5 ⟨rfl, hD5, hg5⟩
  have HD5 := Lib.hid hD5
  have HG5 := Lib.hid ((kp_below b b2).trans hg5)
  clear hD5 hg5 b2
  go_wp2_with fail
  go_ret
  exact ⟨rfl, HD5.out, HG5.out⟩

set_option maxHeartbeats 4000000 in
set_option maxRecDepth 100000 in
theorem read_any (g b : Nat) (st : Files) (k : Key) (w : World) (h : DiskAt FR w g b st) (hk : k.length ≤ 1000000) (hsz : (stGet st k).now.length ≤ 1000000) :
    Calls Try.prog 13 #[.pointer (some ⟨g, 0, none⟩), nm k] w fun e w' => ∃ B d, e = .returned (.tuple #[.slice B (stGet st k).now.length d, .bool (stGet st k).isNow]) ∧ OwnB w.heap.size w' B d (stGet st k).now ∧ Below w.heap.size w w' := by
  have C1 := Lib.hid (there_any g b st w h)
  obtain ⟨A, cA, Bn, dn, L, e, hrun, hf⟩ := h.look k hk
  have cg := h.row.cell 0
  simp at cg
  obtain ⟨f, hfe⟩ : ∃ f, stGet st k = f := ⟨_, rfl⟩
  rw [hfe] at hf hrun hsz ⊢
  obtain ⟨s, n, isS, isN, lo⟩ := f
  unfold filVal at hrun
  simp only at hrun hsz ⊢
  have HF := Lib.hid hf
  clear h hf hfe
  go_enter Try.func13, Try.ntmps13
  go_wp2_with fail
  refine C1.out.mono ?_
  rintro x w1 ⟨rfl, rfl⟩
  go_upto_region 4 with fail
  obtain ⟨W2, hW2⟩ : ∃ W2, w.alloc (.cells #[.slice A s.length cA, .slice Bn n.length dn, .bool isS, .bool isN, .slice L lo.length e] 44) = W2 := ⟨_, rfl⟩
  have rF : Row W2 w.heap.size 44 #[.slice A s.length cA, .slice Bn n.length dn, .bool isS, .bool isN, .slice L lo.length e] := by rw [← hW2]; exact Row.new w _ _
  have b2 : Below w.heap.size w W2 := by rw [← hW2]; exact (Below.refl _ w).alloc (Nat.le_refl _) _
  rw [hW2]
  have k1 := rF.cell 1
  have k3 := rF.cell 3
  simp at k1 k3
  have RF := Lib.hid rF
  have B2 := Lib.hid b2
  clear rF b2 hW2 hrun
  have CL := Lib.hid (clone_any Bn dn n W2.drew ((HF.out.now.stays (Stays.below B2.out)).stays (Stays.drew W2)).sl hsz)
  go_region_law
    (first | (go_simp; (with_reducible refine CL.out.mono ?_); rintro x w4 ⟨B4, d4, rfl, hown4, hb4⟩; dsimp only; have HO4 := Lib.hid hown4; have BB4 := Lib.hid (B2.out.trans ((Below.refl _ W2).drew.trans (hb4.mono B2.out.size))); have kw3 := (RF.out.drew.over hb4).cell 3; simp only [List.getElem?_toArray, List.getElem?_cons_succ, List.getElem?_cons_zero] at kw3; clear hown4 hb4))
  all_goals
    go_wp2_with fail
    go_ret2
    exact ⟨B4, d4, rfl, HO4.out.low B2.out.size, BB4.out⟩

set_option maxHeartbeats 4000000 in
set_option maxRecDepth 100000 in
theorem sure_any (g b : Nat) (st : Files) (k : Key) (w : World) (h : DiskAt FR w g b st) (hk : k.length ≤ 1000000) (hsz : (stGet st k).sure.length ≤ 1000000) :
    Calls Try.prog 14 #[.pointer (some ⟨g, 0, none⟩), nm k] w fun e w' => ∃ B d, e = .returned (.tuple #[.slice B (stGet st k).sure.length d, .bool (stGet st k).isSure]) ∧ OwnB w.heap.size w' B d (stGet st k).sure ∧ Below w.heap.size w w' := by
  have C1 := Lib.hid (there_any g b st w h)
  obtain ⟨A, cA, Bn, dn, L, e, hrun, hf⟩ := h.look k hk
  have cg := h.row.cell 0
  simp at cg
  obtain ⟨f, hfe⟩ : ∃ f, stGet st k = f := ⟨_, rfl⟩
  rw [hfe] at hf hrun hsz ⊢
  obtain ⟨s, n, isS, isN, lo⟩ := f
  unfold filVal at hrun
  simp only at hrun hsz ⊢
  have HF := Lib.hid hf
  clear h hf hfe
  go_enter Try.func14, Try.ntmps14
  go_wp2_with fail
  refine C1.out.mono ?_
  rintro x w1 ⟨rfl, rfl⟩
  go_upto_region 4 with fail
  obtain ⟨W2, hW2⟩ : ∃ W2, w.alloc (.cells #[.slice A s.length cA, .slice Bn n.length dn, .bool isS, .bool isN, .slice L lo.length e] 44) = W2 := ⟨_, rfl⟩
  have rF : Row W2 w.heap.size 44 #[.slice A s.length cA, .slice Bn n.length dn, .bool isS, .bool isN, .slice L lo.length e] := by rw [← hW2]; exact Row.new w _ _
  have b2 : Below w.heap.size w W2 := by rw [← hW2]; exact (Below.refl _ w).alloc (Nat.le_refl _) _
  rw [hW2]
  have k1 := rF.cell 0
  have k3 := rF.cell 2
  simp at k1 k3
  have RF := Lib.hid rF
  have B2 := Lib.hid b2
  clear rF b2 hW2 hrun
  have CL := Lib.hid (clone_any A cA s W2.drew ((HF.out.sure.stays (Stays.below B2.out)).stays (Stays.drew W2)).sl hsz)
  go_region_law
    (first | (go_simp; (with_reducible refine CL.out.mono ?_); rintro x w4 ⟨B4, d4, rfl, hown4, hb4⟩; dsimp only; have HO4 := Lib.hid hown4; have BB4 := Lib.hid (B2.out.trans ((Below.refl _ W2).drew.trans (hb4.mono B2.out.size))); have kw3 := (RF.out.drew.over hb4).cell 2; simp only [List.getElem?_toArray, List.getElem?_cons_succ, List.getElem?_cons_zero] at kw3; clear hown4 hb4))
  all_goals
    go_wp2_with fail
    go_ret2
    exact ⟨B4, d4, rfl, HO4.out.low B2.out.size, BB4.out⟩
end Go.Proofs.Ytbdhdnkpdpcgnaa
