/- Contracts of disk.Append, Replace, Remove, Sync, Read, Sure. -/
import Derived.Test.YtbdhdnkpdpcgnaaDkN
namespace Go.Proofs.Ytbdhdnkpdpcgnaa
set_option linter.unusedVariables false
open Go.RowKit
variable {FR : Nat → Prop}
/-- Names that may be, and sizes that are at hand. -/
structure Fits (st : Files) (k : Key) : Prop where
  k1 : 1 ≤ k.length
  k2 : k.length ≤ 64
  few : st.length ≤ 100000
  ks : ∀ q ∈ st, q.1.length ≤ 1000000
  lo : (stGet st k).loose.length ≤ 1000000

set_option maxHeartbeats 4000000 in
set_option maxRecDepth 100000 in
theorem append_true (g b : Nat) (st : Files) (k : Key) (bs : List Int) (B : Option Addr) (d : Nat) (w : World) (h : DiskAt FR w g b st) (hb : BSl FR w B d bs) (hF : Fits st k) (hsz : (stGet st k).now.length + bs.length ≤ 1000000) (hi : (stGet st k).isNow = true) :
    Calls Try.prog 7 #[.pointer (some ⟨g, 0, none⟩), nm k, .slice B bs.length d] w fun e w' =>
      e = .returned (.int .i64 0) ∧ DiskAt FR w' g b (stPut st k (putF (stGet st k) ⟨false, false, bs⟩)) ∧ w.grownBy w' (some b) := by
  have C1 := Lib.hid (may_ok g b st k w h hF.k1 hF.k2)
  have k3 := hF.k2
  obtain ⟨A, cA, Bn, dn, L, e, hrun, hf⟩ := h.look k (by omega)
  have cg := h.row.cell 0
  simp at cg
  obtain ⟨f, hfe⟩ : ∃ f, stGet st k = f := ⟨_, rfl⟩
  have hlo := hF.lo
  have P := Lib.hid (fun (B' : Option Addr) (d' : Nat) (W : World) (hW : Below w.heap.size w W) (hB : BSl FR W B' d' bs) => put_any g b st k ⟨false, false, bs⟩ B' d' W (h.below hW) hB (by omega) (by have := hF.few; omega) hsz hlo)
  rw [hfe] at hf hrun hsz hlo hi P ⊢
  obtain ⟨s, n, isS, isN, lo⟩ := f
  simp only at hi
  subst hi
  unfold filVal at hrun
  simp only at hrun hsz hlo
  have H := Lib.hid h
  have HFT := Lib.hid hF
  have HF := Lib.hid hf
  have HB := Lib.hid hb
  have hd1 : decide ((1048576 : Int) < (n.length : Int) + (bs.length : Int)) = false := decide_eq_false (by omega)
  have hw1 : IntKind.i64.wrap ((n.length : Int) + (bs.length : Int)) = (n.length : Int) + (bs.length : Int) := by rw [IntKind.wrap_i64]; omega
  clear h hf hb hfe
  go_enter Try.func7, Try.ntmps7
  go_wp2_with fail
  refine C1.out.mono ?_
  rintro x w1 ⟨rfl, rfl⟩
  go_upto_region 5 with fail
  obtain ⟨W2, hW2⟩ : ∃ W2, w.alloc (.cells #[.slice A s.length cA, .slice Bn n.length dn, .bool isS, .bool true, .slice L lo.length e] 44) = W2 := ⟨_, rfl⟩
  have rF : Row W2 w.heap.size 44 #[.slice A s.length cA, .slice Bn n.length dn, .bool isS, .bool true, .slice L lo.length e] := by rw [← hW2]; exact Row.new w _ _
  have b2 : Below w.heap.size w W2 := by rw [← hW2]; exact (Below.refl _ w).alloc (Nat.le_refl _) _
  rw [hW2]
  have kF1 := rF.cell 1
  have kF3 := rF.cell 3
  simp at kF1 kF3
  have RF := Lib.hid rF
  have B2 := Lib.hid b2
  clear rF b2 hW2 hrun
  have BZ := B2
  have RZ := RF
  have W3 := Lib.hid (Below.refl W2.heap.size W2)
  have CL := Lib.hid (clone_any B d bs W2.drew ((HB.out.stays (Stays.below BZ.out)).stays (Stays.drew W2)).sl (by omega))
  have kz3 := RZ.out.cell 3
  simp at kz3
  go_upto_region 7 with fail
  go_region_law
    (first | (go_simp; (with_reducible refine CL.out.mono ?_); rintro x w4 ⟨B4, d4, rfl, hown4, hb4⟩; dsimp only; have HO4 := Lib.hid (BSl.own (fun x hx => Nat.lt_of_lt_of_le (H.out.far x hx) BZ.out.size) hown4); have BB4 := Lib.hid (BZ.out.trans ((Below.refl _ W2).drew.trans (hb4.mono BZ.out.size))); have R4 := Lib.hid (RZ.out.drew.over hb4); have kw3 := R4.out.cell 3; simp only [List.getElem?_toArray, List.getElem?_cons_succ, List.getElem?_cons_zero] at kw3; clear hown4 hb4)
           | (go_simp; (with_reducible refine (P.out B4 d4 w4 BB4.out HO4.out).mono ?_); rintro x w5 ⟨rfl, hD5, hg5⟩; dsimp only; have HD5 := Lib.hid hD5; have HG5 := Lib.hid ((kp_below b BB4.out).trans hg5); clear hD5 hg5))
  all_goals
    go_wp2_with fail
    go_ret
    exact ⟨rfl, HD5.out, HG5.out⟩

set_option maxHeartbeats 4000000 in
set_option maxRecDepth 100000 in
theorem append_false (g b : Nat) (st : Files) (k : Key) (bs : List Int) (B : Option Addr) (d : Nat) (w : World) (h : DiskAt FR w g b st) (hb : BSl FR w B d bs) (hF : Fits st k) (hsz : (stGet st k).now.length + bs.length ≤ 1000000) (hi : (stGet st k).isNow = false) (hmany : (stNames nowF st).length < 64) :
    Calls Try.prog 7 #[.pointer (some ⟨g, 0, none⟩), nm k, .slice B bs.length d] w fun e w' =>
      e = .returned (.int .i64 0) ∧ DiskAt FR w' g b (stPut st k (putF (stGet st k) ⟨true, false, bs⟩)) ∧ w.grownBy w' (some b) := by
  have C1 := Lib.hid (may_ok g b st k w h hF.k1 hF.k2)
  have k3 := hF.k2
  obtain ⟨A, cA, Bn, dn, L, e, hrun, hf⟩ := h.look k (by omega)
  have cg := h.row.cell 0
  simp at cg
  obtain ⟨f, hfe⟩ : ∃ f, stGet st k = f := ⟨_, rfl⟩
  have hlo := hF.lo
  have P := Lib.hid (fun (B' : Option Addr) (d' : Nat) (W : World) (hW : Below w.heap.size w W) (hB : BSl FR W B' d' bs) => put_any g b st k ⟨true, false, bs⟩ B' d' W (h.below hW) hB (by omega) (by have := hF.few; omega) hsz hlo)
  rw [hfe] at hf hrun hsz hlo hi P ⊢
  obtain ⟨s, n, isS, isN, lo⟩ := f
  simp only at hi
  subst hi
  unfold filVal at hrun
  simp only at hrun hsz hlo
  have H := Lib.hid h
  have HFT := Lib.hid hF
  have HF := Lib.hid hf
  have HB := Lib.hid hb
  have hd1 : decide ((1048576 : Int) < (n.length : Int) + (bs.length : Int)) = false := decide_eq_false (by omega)
  have hw1 : IntKind.i64.wrap ((n.length : Int) + (bs.length : Int)) = (n.length : Int) + (bs.length : Int) := by rw [IntKind.wrap_i64]; omega
  have hd2 : decide ((64 : Int) ≤ ((stNames nowF st).length : Int)) = false := decide_eq_false (by omega)
  clear h hf hb hfe
  go_enter Try.func7, Try.ntmps7
  go_wp2_with fail
  refine C1.out.mono ?_
  rintro x w1 ⟨rfl, rfl⟩
  go_upto_region 5 with fail
  obtain ⟨W2, hW2⟩ : ∃ W2, w.alloc (.cells #[.slice A s.length cA, .slice Bn n.length dn, .bool isS, .bool false, .slice L lo.length e] 44) = W2 := ⟨_, rfl⟩
  have rF : Row W2 w.heap.size 44 #[.slice A s.length cA, .slice Bn n.length dn, .bool isS, .bool false, .slice L lo.length e] := by rw [← hW2]; exact Row.new w _ _
  have b2 : Below w.heap.size w W2 := by rw [← hW2]; exact (Below.refl _ w).alloc (Nat.le_refl _) _
  rw [hW2]
  have kF1 := rF.cell 1
  have kF3 := rF.cell 3
  simp at kF1 kF3
  have RF := Lib.hid rF
  have B2 := Lib.hid b2
  clear rF b2 hW2 hrun
  have CM := Lib.hid (many_any g b st W2 (H.out.below B2.out) HFT.out.few HFT.out.ks)
  go_wp2_with fail
  refine CM.out.mono ?_
  rintro x wz ⟨rfl, hbz⟩
  have BZ := Lib.hid (nextC B2.out hbz)
  have RZ := Lib.hid (RF.out.over hbz)
  clear hbz
  have W3 := Lib.hid (Below.refl wz.heap.size wz)
  have CL := Lib.hid (clone_any B d bs wz.drew ((HB.out.stays (Stays.below BZ.out)).stays (Stays.drew wz)).sl (by omega))
  have kz3 := RZ.out.cell 3
  simp at kz3
  go_upto_region 7 with fail
  go_region_law
    (first | (go_simp; (with_reducible refine CL.out.mono ?_); rintro x w4 ⟨B4, d4, rfl, hown4, hb4⟩; dsimp only; have HO4 := Lib.hid (BSl.own (fun x hx => Nat.lt_of_lt_of_le (H.out.far x hx) BZ.out.size) hown4); have BB4 := Lib.hid (BZ.out.trans ((Below.refl _ wz).drew.trans (hb4.mono BZ.out.size))); have R4 := Lib.hid (RZ.out.drew.over hb4); have kw3 := R4.out.cell 3; simp only [List.getElem?_toArray, List.getElem?_cons_succ, List.getElem?_cons_zero] at kw3; clear hown4 hb4)
           | (go_simp; (with_reducible refine (P.out B4 d4 w4 BB4.out HO4.out).mono ?_); rintro x w5 ⟨rfl, hD5, hg5⟩; dsimp only; have HD5 := Lib.hid hD5; have HG5 := Lib.hid ((kp_below b BB4.out).trans hg5); clear hD5 hg5))
  all_goals
    go_wp2_with fail
    go_ret
    exact ⟨rfl, HD5.out, HG5.out⟩

theorem append_any (g b : Nat) (st : Files) (k : Key) (bs : List Int) (B : Option Addr) (d : Nat) (w : World) (h : DiskAt FR w g b st) (hb : BSl FR w B d bs) (hF : Fits st k) (hsz : (stGet st k).now.length + bs.length ≤ 1000000) (hm : (stGet st k).isNow = true ∨ (stNames nowF st).length < 64) :
    Calls Try.prog 7 #[.pointer (some ⟨g, 0, none⟩), nm k, .slice B bs.length d] w fun e w' =>
      e = .returned (.int .i64 0) ∧ DiskAt FR w' g b (stPut st k (putF (stGet st k) ⟨!(stGet st k).isNow, false, bs⟩)) ∧ w.grownBy w' (some b) := by
  rcases hi : (stGet st k).isNow with _ | _
  · exact append_false g b st k bs B d w h hb hF hsz hi (by rcases hm with hm | hm; rw [hi] at hm; cases hm; exact hm)
  · exact append_true g b st k bs B d w h hb hF hsz hi
end Go.Proofs.Ytbdhdnkpdpcgnaa
