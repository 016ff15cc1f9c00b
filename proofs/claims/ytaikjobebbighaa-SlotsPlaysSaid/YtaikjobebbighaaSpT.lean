/- Slots: the document's Set. -/
import Derived.Test.YtaikjobebbighaaMf
namespace Go.Proofs.Ytaikjobebbighaa
set_option linter.unusedVariables false
set_option maxRecDepth 100000
open Go.RowKit
theorem RkO.setI {w : World} {e : TypeId} {g d : Nat} {ts : List Int} (h : RkO enI 1 e 0 w (some ⟨g, 0, none⟩) d ts) (j : Nat) (v : Int) : RkO enI 1 e 0 (w.setCell ⟨g, j, none⟩ (.int .i64 v)) (some ⟨g, 0, none⟩) d (ts.set j v) := by
  obtain ⟨cur, hr, hb, h1, h2, h3, h4⟩ := h.open_
  refine RkO.make enI_len (hr.put j (.int .i64 v)) hb (by rw [List.length_set]; exact h1) h2 (by rw [Array.size_setIfInBounds]; exact h3) fun q hq => ?_
  rw [List.length_set] at hq
  have hq' : q < ts.length := by omega
  have hnew := rkCs_get enI_len (ts.set j v) q (by rw [List.length_set]; exact hq') 0 (by decide)
  have hold := rkCs_get enI_len ts q hq' 0 (by decide)
  rw [Nat.mul_one, Nat.add_zero] at hnew hold
  rw [hnew]
  by_cases e : q = j
  · subst e
    rw [Array.getElem?_setIfInBounds_self_of_lt (by rw [h3]; omega), List.getElem_set_self]
    rfl
  · rw [Array.getElem?_setIfInBounds_ne (by omega), RkO.at_ enI_len h4 (by omega), hold, List.getElem_set_ne (by omega)]
theorem RfAt.sized {w : World} {p : Nat} {r : Rb} {z : Za} (h : RfZ w p r z) {i : Nat} (hi : i < r.sizes.length) (n : Int) :
    ∃ ad : Addr, z.SA = some ad ∧ w.frozen? (ad.add i) = false ∧ (∃ old, w.cell? (ad.add i) = some (.int .i64 old)) ∧ RTurn w (w.setCell (ad.add i) (.int .i64 n)) p z (sizedRb r i n) z := by
  have hrs := RkO.rks enI_len h.szs
  rcases h.szs.form with ⟨-, -, e⟩ | ⟨g, hg, -, hgw, hgc⟩
  · rw [e] at hi; simp at hi
  · rw [hg] at hrs
    obtain ⟨-, c1⟩ := hrs.cells1 i hi (u := .int .i64 r.sizes[i]) rfl
    have hadd : (⟨g, 0, none⟩ : Addr).add i = ⟨g, i, none⟩ := by unfold Addr.add; split <;> simp_all
    have hsz := h.szs
    rw [hg] at hsz
    obtain ⟨cur, hcr, -⟩ := hsz.open_
    have hpg : p ≠ g := fun e => hsz.off h.row (by decide) (by rw [e])
    refine ⟨⟨g, 0, none⟩, hg, by rw [hadd]; exact hcr.free i, ⟨_, c1⟩, ?_⟩
    rw [hadd]
    have hs2 := hsz.setI i n
    refine ⟨⟨?_, ?_, ?_, ?_⟩, (But.refl _ w).put (.inl (.inr (.inr (.inl hg)))) _, fun j hj => .inl hj⟩
    · have := h.row.far (p := ⟨g, i, none⟩) hpg (.int .i64 n)
      show Row _ p _ #[_, .slice _ (r.sizes.set (i : Int).toNat n).length _, _]
      rw [List.length_set]
      exact this
    · exact h.nms.store hcr (by decide) _ _
    · show RkO enI 1 _ 0 _ z.SA _ (r.sizes.set (i : Int).toNat n)
      rw [hg, Int.toNat_natCast]
      exact hs2
    · exact h.ens.store hcr (by decide) _ _
/-- A book whose numbers are small. -/
structure RbOk (r : Rb) : Prop where
  nl : r.names.length ≤ 64
  len : r.sizes.length = r.names.length
  ll : r.L.length ≤ 600
  many : ∀ x ∈ r.L, 1 ≤ x.many ∧ x.many ≤ 1048576
  szb : ∀ x ∈ r.sizes, 0 ≤ x ∧ x ≤ 1048576
theorem RbOk.size {r : Rb} (h : RbOk r) {i : Nat} (hi : i < r.sizes.length) : 0 ≤ sizeP r i ∧ sizeP r i ≤ 1048576 := by
  rw [sizeP_at (List.getElem?_eq_getElem hi)]
  exact h.szb _ (List.getElem_mem hi)
/-- Serve, as a turn. -/
theorem refServe_turn {p : Nat} {r : Rb} {z : Za} {i : Nat} {w : World} (h : RfZ w p r z) (hi : i < r.sizes.length) (hz : 0 ≤ sizeP r i ∧ sizeP r i ≤ 1048576) (hn : r.L.length ≤ 1000) (hm : ∀ x ∈ r.L, 1 ≤ x.many ∧ x.many ≤ 1048576) :
    Calls Try.prog 34 #[.pointer (some ⟨p, 0, none⟩), .int .i64 i] w fun e w' => ∃ (B : Option Addr) (d : Nat), e = .returned (.slice B (servedRb r i).length d) ∧ RkO enU 1 28 w.heap.size w' B d (servedRb r i) ∧ RTurn w w' p z (serveRb r i) z :=
  (refServe_any p r _ _ _ _ _ _ i w h hi hz hn hm).mono fun e w' ⟨B, d, h1, h2, h3, h4⟩ => ⟨B, d, h1, h2, ⟨h3, h4.mono fun j e => .inl (.inr (.inr (.inr e))), fun j hj => .inl hj⟩⟩
/-- What a call at the document's book gives. -/
def RGave (w : World) (p : Nat) (z : Za) (q : Rb × List Int × Int) (e : Ending) (w' : World) : Prop := ∃ (B : Option Addr) (d : Nat) (z' : Za), e = .returned (.tuple #[.slice B q.2.1.length d, .int .i64 q.2.2]) ∧ RkO enU 1 28 w.heap.size w' B d q.2.1 ∧ RTurn w w' p z q.1 z'
theorem RkO.low0 {α : Type} {en : α → List Value} {k : Nat} {e : TypeId} {base base' : Nat} {w : World} {B : Option Addr} {d : Nat} {ts : List α} (h : RkO en k e base w B d ts) (hb : base' ≤ base) : RkO en k e base' w B d ts := h.low hb
set_option maxHeartbeats 8000000 in
theorem refSet_any (p : Nat) (r : Rb) (z : Za) (k : Key) (n : Int) (w : World) (h : RfZ w p r z) (ok : RbOk r) (hk : k.length ≤ 1000000) :
    Calls Try.prog 18 #[.pointer (some ⟨p, 0, none⟩), nm k, .int .i64 n] w (RGave w p z (setRb r k n)) := by
  have HA := Lib.hid h
  unfold setRb
  by_cases h1 : k.length < 1 ∨ 32 < k.length
  · rw [if_pos h1]
    by_cases h2 : k.length < 1
    · have d1 : (k.length : Int) < 1 := by omega
      clear h h1
      go_enter Try.func18, Try.ntmps18
      go_wp2_with fail
      go_ret2
      exact ⟨none, 0, z, rfl, RkO.nil _ _, RTurn.stay HA.out (Below.refl _ _)⟩
    · have d1 : decide ((k.length : Int) < 1) = false := decide_eq_false (by omega)
      have d2 : (32 : Int) < (k.length : Int) := by omega
      clear h h1
      go_enter Try.func18, Try.ntmps18
      go_wp2_with fail
      go_ret2
      exact ⟨none, 0, z, rfl, RkO.nil _ _, RTurn.stay HA.out (Below.refl _ _)⟩
  rw [if_neg h1]
  have d1 : decide ((k.length : Int) < 1) = false := decide_eq_false (by omega)
  have d2 : decide ((32 : Int) < (k.length : Int)) = false := decide_eq_false (by omega)
  by_cases h2 : n < 1 ∨ 1048576 < n
  · rw [if_pos h2]
    by_cases h3 : n < 1
    · clear h h1 h2
      go_enter Try.func18, Try.ntmps18
      go_wp2_with fail
      go_ret2
      exact ⟨none, 0, z, rfl, RkO.nil _ _, RTurn.stay HA.out (Below.refl _ _)⟩
    · have d3 : decide (n < 1) = false := decide_eq_false h3
      have d4 : (1048576 : Int) < n := by omega
      clear h h1 h2
      go_enter Try.func18, Try.ntmps18
      go_wp2_with fail
      go_ret2
      exact ⟨none, 0, z, rfl, RkO.nil _ _, RTurn.stay HA.out (Below.refl _ _)⟩
  rw [if_neg h2]
  have d3 : decide (n < 1) = false := decide_eq_false (by omega)
  have d4 : decide ((1048576 : Int) < n) = false := decide_eq_false (by omega)
  have hnn : 1 ≤ n ∧ n ≤ 1048576 := by omega
  have CP := Lib.hid (refPool_any p r z.NA z.SA z.LA z.cN z.cS z.cL k w h (by have := ok.nl; omega))
  have c0 := h.row.cell 0
  simp only [List.getElem?_toArray, List.getElem?_cons_zero] at c0
  have hnl := ok.nl
  have hln := ok.len
  rcases poolOf_is r k with ⟨e0, hk0⟩ | ⟨i, hi, e0, -⟩
  · -- a new name
    by_cases h5 : 63 < r.names.length
    · rw [if_pos ⟨by rw [e0]; decide, h5⟩]
      rw [e0] at CP
      have d5 : (63 : Int) < (r.names.length : Int) := by omega
      clear h h1 h2 hln
      go_enter Try.func18, Try.ntmps18
      go_wp2_with fail
      refine CP.out.mono ?_
      rintro e w1 ⟨rfl, rfl⟩
      go_wp2_with fail
      go_ret2
      exact ⟨none, 0, z, rfl, RkO.nil _ _, RTurn.stay HA.out (Below.refl _ _)⟩
    · rw [if_neg (fun hh => h5 hh.2)]
      have e1 : addRb r k = ⟨r.names ++ [k], r.sizes ++ [0], r.L⟩ := by unfold addRb; rw [if_pos (by rw [e0]; decide)]
      have e2 : atRb r k = ((r.names.length : Nat) : Int) := by unfold atRb; rw [if_pos (by rw [e0]; decide)]
      rw [e1, e2]
      rw [e0] at CP
      have d5 : decide ((63 : Int) < (r.names.length : Int)) = false := decide_eq_false (by omega)
      obtain ⟨B1, b1, w6, hrun1, f1, f2, T1⟩ := RfAt.name h (by omega) k
      obtain ⟨w7, hw7⟩ : ∃ w7, w6.setCell ⟨p, 0, none⟩ (.slice B1 (r.names.length + 1) b1) = w7 := ⟨_, rfl⟩
      rw [hw7] at T1
      obtain ⟨B2, b2, w9, hrun2, f3, f4, T2⟩ := RfAt.size0 T1.at_ (by show r.sizes.length ≤ 100000; omega) 0
      dsimp only at hrun2 f3 f4 T2
      rw [hln] at hrun2 f3 T2
      obtain ⟨w10, hw10⟩ : ∃ w10, w9.setCell ⟨p, 1, none⟩ (.slice B2 (r.names.length + 1) b2) = w10 := ⟨_, rfl⟩
      rw [hw10] at T2
      have hi2 : r.names.length < (r.sizes ++ [0]).length := by rw [List.length_append, List.length_singleton]; omega
      obtain ⟨ad, hSA, f5, ⟨old, f6⟩, T3⟩ := RfAt.sized T2.at_ hi2 n
      dsimp only at hSA
      subst hSA
      obtain ⟨w11, hw11⟩ : ∃ w11, w10.setCell (ad.add r.names.length) (.int .i64 n) = w11 := ⟨_, rfl⟩
      rw [hw11] at T3
      have hsp : sizeP (sizedRb ⟨r.names ++ [k], r.sizes ++ [0], r.L⟩ (r.names.length : Nat) n) (r.names.length : Nat) = n := sizeP_at (by
        show ((r.sizes ++ [0]).set ((r.names.length : Nat) : Int).toNat n)[r.names.length]? = some n
        rw [Int.toNat_natCast, List.getElem?_set_self hi2])
      have CS := Lib.hid (refServe_turn T3.at_ (i := r.names.length) (by show r.names.length < ((r.sizes ++ [0]).set _ n).length; rw [List.length_set]; exact hi2) (by rw [hsp]; omega) (by show r.L.length ≤ 1000; have := ok.ll; omega) ok.many)
      have y1 := T1.at_.row.cell 1
      have y2 := T2.at_.row.cell 0
      have y3 := T2.at_.row.cell 1
      simp [hln] at y1 y2 y3
      have HT := Lib.hid ((T1.trans T2).trans T3)
      clear h h1 h2 h5 T1 T2 T3 e1 e2 hsp hi2 hk0
      go_enter Try.func18, Try.ntmps18
      go_wp2_with fail
      refine CP.out.mono ?_
      rintro e w1 ⟨rfl, rfl⟩
      go_wp2_with (first
        | (at_builtin; refine Lib.wpList_append_run _ rfl _ _ 52 52 rfl _ _ (by simp [Act.eval]; done) (by simp [Act.eval]; done) _ _ hrun1 ?_)
        | (at_builtin; refine Lib.wpList_append_run _ rfl _ _ 53 53 rfl _ _ (by simp [Act.eval]; done) (by simp [Act.eval]; done) _ _ hrun2 ?_))
      refine CS.out.mono ?_
      rintro e w12 ⟨B, d, rfl, ho, ht⟩
      have HO := Lib.hid (ho.low (Nat.le_trans HT.out.but.size (Nat.le_refl _)))
      have HT2 := Lib.hid (HT.out.trans ht)
      clear ho ht CS HT
      go_wp2_with fail
      go_ret2
      exact ⟨B, d, _, rfl, HO.out, HT2.out⟩
  · -- a name that is there
    have hneg : ¬ (poolOf r k < 0) := by rw [e0]; omega
    rw [if_neg (fun hh => hneg hh.1)]
    have e1 : addRb r k = r := by unfold addRb; rw [if_neg hneg]
    have e2 : atRb r k = (i : Int) := by unfold atRb; rw [if_neg hneg]; exact e0
    rw [e1, e2]
    rw [e0] at CP
    have hi2 : i < r.sizes.length := by omega
    obtain ⟨ad, hSA, f5, ⟨old, f6⟩, T3⟩ := RfAt.sized h hi2 n
    obtain ⟨w11, hw11⟩ : ∃ w11, w.setCell (ad.add i) (.int .i64 n) = w11 := ⟨_, rfl⟩
    rw [hw11] at T3
    have hsp : sizeP (sizedRb r (i : Nat) n) (i : Nat) = n := sizeP_at (by
      show (r.sizes.set (i : Int).toNat n)[i]? = some n
      rw [Int.toNat_natCast, List.getElem?_set_self hi2])
    have CS := Lib.hid (refServe_turn T3.at_ (i := i) (by show i < (r.sizes.set _ n).length; rw [List.length_set]; exact hi2) (by rw [hsp]; omega) (by show r.L.length ≤ 1000; have := ok.ll; omega) ok.many)
    have y3 := h.row.cell 1
    simp only [List.getElem?_toArray, List.getElem?_cons_succ, List.getElem?_cons_zero] at y3
    rw [hSA] at y3
    have hi3 : (i : Int) < (r.sizes.length : Int) := by omega
    have HT := Lib.hid T3
    clear h h1 h2 T3 e1 e2 hsp hneg
    go_enter Try.func18, Try.ntmps18
    go_wp2_with fail
    refine CP.out.mono ?_
    rintro e w1 ⟨rfl, rfl⟩
    go_wp2_with fail
    refine CS.out.mono ?_
    rintro e w12 ⟨B, d, rfl, ho, ht⟩
    have HO := Lib.hid (ho.low (Nat.le_trans HT.out.but.size (Nat.le_refl _)))
    have HT2 := Lib.hid (HT.out.trans ht)
    clear ho ht CS HT
    go_wp2_with fail
    go_ret2
    exact ⟨B, d, _, rfl, HO.out, HT2.out⟩
end Go.Proofs.Ytaikjobebbighaa
