/- Slots: Names as an iterator: a book's names, sorted. -/
import Derived.Test.YtaikjobebbighaaItT
import Derived.Test.YtaikjobebbighaaSlAt
import Derived.RangeFuncFrom
import Derived.RangeFuncCalls
import Derived.RangeFuncLeaves
import Derived.OwnWalkIn
import Derived.TacticsInMore
import Derived.LoopNIn
import Derived.LoopIn
namespace Go.Proofs.Ytaikjobebbighaa
set_option linter.unusedVariables false
set_option maxRecDepth 100000
open Go.RowKit Go.Maps Go.Sort Go.Shelf
theorem BEnt.keys {w : World} : ∀ {es : List (Lit × DataW Value)} {st : Bk} {ys : List Wh}, BEnt w es st ys → strKeys (.map es) = st.map (·.1)
  | e :: es, q :: st, y :: ys, ⟨h1, h2, h3, h4⟩ => by
    have ih := BEnt.keys h4
    obtain ⟨el, ed⟩ := e
    dsimp only at h1
    subst h1
    simp only [strKeys, List.map_cons] at ih ⊢
    rw [ih]
    rfl
  | [], [], [], _ => rfl
  | [], _ :: _, _, h => h.elim
  | [], [], _ :: _, h => h.elim
  | _ :: _, [], _, h => h.elim
  | _ :: _, _ :: _, [], h => h.elim
/-- The book's names. -/
def bkNames (st : Bk) : List Key := srtS (st.map (·.1))
theorem bkNames_len (st : Bk) : (bkNames st).length = st.length := by unfold bkNames; rw [srtS_len, List.length_map]
theorem keys_any (g b : Nat) (st : Bk) (ys : List Wh) (w : World) (h : BkAt w g b st ys) (hst : st.length ≤ 1000000) :
    Calls Try.prog 24 #[.func (.func 54) #[] #[.pointer (some ⟨w.heap.size, 0, none⟩)]] (w.alloc (.cells #[.map (some b)] 72)) fun e w' =>
      ∃ A c, e = .returned (.slice A (bkNames st).length c) ∧ RkO enN 1 9 w.heap.size w' A c (bkNames st) ∧ Below w.heap.size w w' := by
  obtain ⟨es, hm, hd⟩ := h.map
  have hsz : Maps.size (DataW.map es) = st.length := by rw [← hd.len.2]; rfl
  have hk := hd.keys
  refine ((callsIn_wide (n := 5)).1 (Try.slices_Sorted_keys_24_43 b es.length (.map es) rawR w hm (by rw [hsz]; unfold maxLen; omega) (by rw [hsz]; omega))).mono ?_
  rintro e w' ⟨v, ss, rfl, hp, hrow, hnil, hb⟩
  rw [hk] at hp
  have hl : ss.length = st.length := by rw [hp.length_eq, List.length_map]
  have hms : (ss.mergeSort fun x y => decide (x ≤ y)) = bkNames st := mergeSort_of_perm hp
  have hcs : ∀ l : List Key, rkCs enN l = l.map encStr := fun l => by
    induction l with
    | nil => rfl
    | cons x t ih => show nm x :: rkCs enN t = _; rw [ih]; rfl
  rw [hms, hl, ← bkNames_len, ← hcs] at hrow
  obtain ⟨B, d, rfl, -, -⟩ := own_form hrow
  exact ⟨B, d, rfl, RkO.low (base := (w.alloc (.cells #[.map (some b)] 72)).heap.size) hrow (by simp), nextA (Below.refl _ w) hb⟩
theorem names_at (g : Nat) (w : World) : Calls Try.prog 26 #[.pointer (some ⟨g, 0, none⟩)] w fun e w' => e = .returned (.func (.func 42) #[] #[.pointer (some ⟨w.heap.size, 0, none⟩)]) ∧ w' = w.alloc (.cells #[.pointer (some ⟨g, 0, none⟩)] 25) := by
  go_enter Try.func26, Try.ntmps26
  go_wp2_with fail
  go_ret
  exact ⟨rfl, rfl⟩
/-- Cells stay, but for those of X. -/
structure CBut (X : Nat → Prop) (W W' : World) : Prop where
  size : W.heap.size ≤ W'.heap.size
  same : ∀ (k : Nat) (o : Obj), W.heap[k]? = some o → o.isCells = true → ¬ X k → W'.heap[k]? = some o
theorem CBut.trans {X : Nat → Prop} {A B C : World} (h : CBut X A B) (k : CBut X B C) : CBut X A C := ⟨Nat.le_trans h.size k.size, fun j o hj hc hx => k.same j o (h.same j o hj hc hx) hc hx⟩
theorem CBut.of_below {X : Nat → Prop} {A B : World} (h : Below A.heap.size A B) : CBut X A B := ⟨h.size, fun j o hj _ _ => (h.block j (Array.getElem?_eq_some_iff.1 hj).1).trans hj⟩
theorem CBut.put {X : Nat → Prop} (W : World) {b : Nat} (hX : X b) (i : Nat) (v : Value) : CBut X W (W.setCell ⟨b, i, none⟩ v) := ⟨by simp, fun j o hj _ hx => (Below.heap_setCell W ⟨b, i, none⟩ v j (fun e => hx (by rw [e]; exact hX))).trans hj⟩
theorem CBut.b {X : Nat → Prop} {w : World} (W : World) (l : Nat) (o o' : Obj) (_ : w.heap.size ≤ l) (h : W.heap[l]? = some o) (hc : o.isCells = false) (_ : o.isWalk = false) : CBut X W (W.putObj l o') :=
  ⟨by simp, fun j p hj hp _ => (World.putObj_heap_other (fun e => by rw [e, h] at hj; injection hj with hj; rw [← hj, hc] at hp; cases hp)).trans hj⟩
theorem CBut.cell {X : Nat → Prop} {W W' : World} (h : CBut X W W') {p : Addr} {v : Value} (hx : ¬ X p.block) (hv : W.cell? p = some v) : W'.cell? p = some v := by
  unfold World.cell? at hv ⊢
  rcases hh : W.heap[p.block]? with _ | o
  · rw [hh] at hv; simp at hv
  · rw [hh] at hv
    have hc : o.isCells = true := by cases o <;> first | rfl | (simp at hv)
    rw [h.same p.block o hh hc hx]
    exact hv
theorem RkS.cbut {X : Nat → Prop} {α : Type} {en : α → List Value} {k : Nat} {W W' : World} {A : Option Addr} {ts : List α} (h : RkS en k W A ts) (hb : CBut X W W') (hA : ∀ ad, A = some ad → ¬ X ad.block) (hk : ∀ x, (en x).length = k) : RkS en k W' A ts := fun j hj => by
  obtain ⟨ad, rfl, hlt, hc⟩ := h j hj
  exact ⟨ad, rfl, Nat.lt_of_lt_of_le hlt hb.size, fun i v hv => hb.cell (by rw [add_block]; exact hA ad rfl) (hc i v hv)⟩
theorem grown_of_below {A B : World} (h : Below A.heap.size A B) : A.grownBy B none := ⟨h.os, h.tape, h.output, h.size, fun k hk _ => h.block k hk⟩
set_option maxHeartbeats 2000000 in
theorem names_stops_at (X : Nat → Prop) (bx g b : Nat) (st : Bk) (ys : List Wh) (w : World) (hX : ∀ k, X k → k < w.heap.size) (hbl : bx < w.heap.size) (hb : w.cell? ⟨bx, 0, none⟩ = some (.pointer (some ⟨g, 0, none⟩))) (h : BkAt w g b st ys) (hst : st.length ≤ 1000000) :
    SeqStopsK Fence.wide 4 Try.prog 42 #[.pointer (some ⟨bx, 0, none⟩)] (fun k : Key => #[nm k]) (CBut X) (fun xs => xs = bkNames st) (fun pre => pre <+: bkNames st) st.length w := by
  intro l J Jx W hW hJ hJx hY h0
  have hnl := bkNames_len st
  have c0 := (hW.cell (p := ⟨bx, 0, none⟩) hbl).trans hb
  have hk := h.over hW
  have c1 := hk.row.cell 0
  simp only [List.getElem?_toArray, List.getElem?_cons_zero] at c1
  have CK := Lib.hid ((callsIn_wide (n := 5)).1 (Try.maps_Keys_43 (some b) W))
  have CS := Lib.hid (keys_any g b st ys W hk hst)
  have hZ := hW.size
  have HX := Lib.hid hX
  have HJ := Lib.hid hJ
  have HY := Lib.hid hY
  have H0 := Lib.hid h0
  generalize bkNames st = ns at *
  clear hW hk h hb hJx hX hJ hY h0
  refine callsIn_of_wp Try.func42 rfl trivial ?_ rfl
  simp only [Try.ntmps42, List.size_toArray, List.length_cons, List.length_nil, Nat.reduceAdd, Nat.reduceSub, Array.replicate_succ, Array.replicate_zero, List.push_toArray, List.append_toArray, List.nil_append, List.cons_append]
  gi_wp2_with (first
    | (refine ⟨trivial, ?_⟩; gi_at_call 43; refine (callsIn_wide.2 CK.out).mono ?_; rintro e w' ⟨rfl, rfl⟩)
    | (refine ⟨trivial, ?_⟩; gi_at_call 24; refine (callsIn_wide.2 CS.out).mono ?_; rintro e w2 ⟨A, c, rfl, hrow, hbw⟩))
  have HR := Lib.hid hrow
  have hA : ∀ ad, A = some ad → ¬ X ad.block := fun ad e hx => by
    have h1 := HX.out ad.block hx
    rcases HR.out.form with ⟨e2, -, -⟩ | ⟨q, e2, hq, -, -⟩
    · rw [e2] at e; cases e
    · rw [e2] at e; injection e with e; subst e; dsimp only at h1; omega
  have HA := Lib.hid hA
  have hj0 : J [] w2 := HJ.out [] W w2 none H0.out (grown_of_below hbw) (fun r e => by cases e)
  clear hrow hbw hA H0 CK CS
  gi_loopw [14] (fun i wr => ∃ k : Nat, k ≤ ns.length ∧ i = .int .i64 k ∧ J (ns.take k) wr ∧ CBut X w2 wr)
    (fun i _ => ns.length - (intOf i).toNat)
  case atStart => exact ⟨0, Nat.zero_le _, rfl, hj0, CBut.of_below (Below.refl _ _)⟩
  case round =>
    obtain ⟨k, hk, rfl, hJs, hnx⟩ := hrel
    by_cases hlt : k < ns.length
    · have hrs := (RkO.rks enN_len HR.out).cbut hnx HA.out enN_len
      obtain ⟨ad, rfl, -, -⟩ := hrs k hlt
      obtain ⟨-, hcx⟩ := hrs.cells1 k hlt (u := nm ns[k]) rfl
      have HS := Lib.hid (List.take_succ_eq_append_getElem hlt)
      obtain ⟨fn, tmps, assign, body, hy, hR⟩ := HY.out (ns.take k) ns[k] wr hJs (by rw [List.length_take]; omega)
      generalize ns[k] = x at *
      have HN := Lib.hid hnx
      clear hrs hJs hnx
      try dsimp only at hy
      gi_wp2
      refine hR.mono ?_
      rintro e W3 (⟨rfl, hJ3, hk3⟩ | ⟨rfl, hJ3⟩)
      · gi_wp2
        go_roundw
        case rel => exact ⟨k + 1, by omega, by simp, by rw [HS.out]; exact hJ3, HN.out.trans hk3⟩
        case measure => simp [intOf]; omega
      · gi_wp2
        refine bodyPost_ret (results_none rfl _ _ _) rfl ?_
        exact ⟨⟨_, rfl⟩, .inr ⟨_, by rw [← HS.out]; exact List.take_prefix _ _, hJ3⟩⟩
    · obtain rfl : k = ns.length := by omega
      rw [List.take_length] at hJs
      gi_wp2
      go_end0
      exact ⟨⟨_, rfl⟩, .inl ⟨_, rfl, hJs⟩⟩
end Go.Proofs.Ytaikjobebbighaa
