/- Slots: slices.Insert of one at places. -/
import Derived.Test.YtaikjobebbighaaSlB
import Derived.Lib.Overlaps
import Derived.Lib.AppendZerosOnto
import Derived.Deep.AppendSrc
import Derived.Lib.AppendZeros
namespace Go.Proofs.Ytaikjobebbighaa
set_option linter.unusedVariables false
set_option maxRecDepth 100000
open Go.RowKit
/-- copy, at elements of k cells: all is read before anything is written. -/
theorem run_copyK {P : Program} (w : World) (dT sT ty elem : TypeId) (k b o dLen dCap : Nat) (a : Addr) (sLen sCap n : Nat) (cs : List Value)
    (hu : P.underlying dT = some (.slice elem)) (hs : (P.info? elem).map (·.size) = some k) (hm : Nat.min sLen dLen = n) (hn : cs.length = n * k)
    (hsrc : ∀ j v, cs[j]? = some v → w.cell? (a.add j) = some v) (hc : ∀ j, j < cs.length → (w.cell? ⟨b, o + j, none⟩).isSome = true) (hf : ∀ j, j < cs.length → w.frozen? ⟨b, o + j, none⟩ = false) (h1 : ∀ v ∈ cs, v.oneCell' = true) :
    (Builtin.copy_ #[dT, sT] ty #[.slice (some ⟨b, o, none⟩) dLen dCap, .slice (some a) sLen sCap]).run P w = .ok (goInt n) (w.setCells b o cs) := by
  have hfc := run_firstCells_some (P := P) w k n a sLen sCap cs hn hsrc
  have hst := run_storeCells_cells (P := P) b o cs 0 w (by simpa using hc) (by simpa using hf) h1
  cases hq : P.info? elem with
  | none => simp [hq] at hs
  | some i =>
    have hi : i.size = k := by simpa [hq] using hs
    simp [Builtin.copy_, run_underlying hu, Builtin.lenOf, sizeOf, typeInfo, hq, hi, hm, hfc, hst]
/-- With one more, at a place. -/
def insT (l : List Pl) (i : Nat) (x : Pl) : List Pl := l.take i ++ x :: l.drop i
theorem insT_len {l : List Pl} {i : Nat} (hi : i ≤ l.length) (x : Pl) : (insT l i x).length = l.length + 1 := by unfold insT; simp; omega
theorem insT_end (l : List Pl) (x : Pl) : insT l l.length x = l ++ [x] := by unfold insT; simp
theorem insT_get (l : List Pl) (i : Nat) (hi : i ≤ l.length) (x : Pl) (j : Nat) : (rkCs enP (insT l i x))[j]? = if j < i * 2 then (rkCs enP l)[j]? else if j < (i + 1) * 2 then (enP x)[j - i * 2]? else (rkCs enP (l.drop i))[j - (i + 1) * 2]? := by
  have e : rkCs enP (insT l i x) = rkCs enP (l.take i) ++ (enP x ++ rkCs enP (l.drop i)) := by unfold insT; rw [rkCs_append]; rfl
  have hl1 : (rkCs enP (l.take i)).length = i * 2 := by rw [rkCs_len enP_len, List.length_take, Nat.min_eq_left hi]
  have hl2 : (enP x).length = 2 := rfl
  have e2 : rkCs enP l = rkCs enP (l.take i) ++ rkCs enP (l.drop i) := by rw [← rkCs_append, List.take_append_drop]
  rw [e]
  split
  · rw [List.getElem?_append_left (by omega), e2, List.getElem?_append_left (by omega)]
  · rw [List.getElem?_append_right (by omega), hl1]
    split
    · rw [List.getElem?_append_left (by omega)]
    · rw [List.getElem?_append_right (by omega), hl2, show j - i * 2 - 2 = j - (i + 1) * 2 by omega]
theorem addr0 (g n : Nat) : (⟨g, 0, none⟩ : Addr).add n = ⟨g, n, none⟩ := by unfold Addr.add; split <;> simp_all
theorem addrN (g o n : Nat) : (⟨g, o, none⟩ : Addr).add n = ⟨g, o + n, none⟩ := by unfold Addr.add; split <;> simp_all
set_option maxHeartbeats 4000000 in
/-- In place: there is room. -/
theorem insert_room (base g d : Nat) (l : List Pl) (i : Nat) (x : Pl) (v : Nat) (w : World) (h : PlO base w (some ⟨g, 0, none⟩) d l) (hi : i < l.length) (hroom : l.length + 1 ≤ d) (hv : Row w v 38 (enP x).toArray) (hvg : v ≠ g) (hl : l.length ≤ 1000000) :
    Calls Try.prog 47 #[.slice (some ⟨g, 0, none⟩) l.length d, .int .i64 i, .slice (some ⟨v, 0, none⟩) 1 1] w fun e w' => e = .returned (.slice (some ⟨g, 0, none⟩) (l.length + 1) d) ∧ PlO base w' (some ⟨g, 0, none⟩) d (insT l i x) ∧ w.grownBy w' (some g) := by
  obtain ⟨cur, hr, hb, hld, hdm, hsz, htk⟩ := h.open_
  have hmax : d ≤ 9223372036854775807 := by unfold maxLen at hdm; omega
  obtain ⟨i0, hi0, hz0, hz1, hz2⟩ := info_parts infoP
  have hsz2 : (Try.prog.info? 38).map (·.size) = some 2 := by rw [hi0]; simp [hz1]
  have hcur : ∀ j, j < cur.size → (cur[j]?).isSome = true := fun j hj => by rw [Array.getElem?_eq_getElem hj]; rfl
  have hdrop : (rkCs enP (l.drop i)).length = (l.length - i) * 2 := by rw [rkCs_len enP_len, List.length_drop]
  have hcd : ∀ j u, (rkCs enP (l.drop i))[j]? = some u → cur[i * 2 + j]? = some u := fun j u hu => by
    have hj := (List.getElem?_eq_some_iff.1 hu).1
    rw [RkO.at_ enP_len htk (by omega), show rkCs enP l = rkCs enP (l.take i) ++ rkCs enP (l.drop i) by rw [← rkCs_append, List.take_append_drop], List.getElem?_append_right (by rw [rkCs_len enP_len, List.length_take, Nat.min_eq_left (by omega)]; omega), rkCs_len enP_len, List.length_take, Nat.min_eq_left (by omega), Nat.add_sub_cancel_left]
    exact hu
  have hov : ∀ W lb cb, Row W v 38 (enP x).toArray → Row W g 38 cur → (callFunc 56 #[.slice (some ⟨v, 0, none⟩) 1 1, .slice (some ⟨g, (i + 1) * 2, none⟩) lb cb]).run Try.prog W = .ok (.value (.bool false)) W := fun W lb cb h1 h2 => by
    rw [run_callFunc_extern Try.func56 (by kernel_rfl) (by kernel_rfl) (by kernel_rfl) (e := Extern.SlicesOverlaps.overlaps #[31, 31] #[4]) (by kernel_rfl),
      Lib.run_overlaps_apart W 31 4 38 Try.underlying31 2 Try.sizeOf38 ⟨v, 0, none⟩ ⟨g, (i + 1) * 2, none⟩ 1 1 lb cb hvg 38 38 2 cur.size (by unfold World.shape?; rw [h1]; rfl) (by unfold World.shape?; rw [h2]) (by omega) (h1.free _) (h1.free _)]
    rfl
  have hov0 := fun lb cb => hov w lb cb hv hr
  have hmin1 : Nat.min (l.length + 1 - i) (l.length - i) = l.length - i := by show min _ _ = _; omega
  have hmin2 : Nat.min 1 (l.length + 1 - i) = 1 := by show min _ _ = _; omega
  have hcp1 : ∀ ty dc sc, (Builtin.copy_ #[31, 31] ty #[.slice (some ⟨g, (i + 1) * 2, none⟩) (l.length - i) dc, .slice (some ⟨g, i * 2, none⟩) (l.length + 1 - i) sc]).run Try.prog w.drew = .ok (goInt ((l.length - i : Nat) : Int)) (w.drew.setCells g ((i + 1) * 2) (rkCs enP (l.drop i))) := fun ty dc sc =>
    run_copyK w.drew _ _ ty 38 2 g ((i + 1) * 2) (l.length - i) dc ⟨g, i * 2, none⟩ (l.length + 1 - i) sc (l.length - i) (rkCs enP (l.drop i)) Try.underlying31 hsz2 hmin1 hdrop
      (fun j u hu => by rw [addrN]; exact (hr.drew.cell _).trans (hcd j u hu))
      (fun j hj => by rw [hr.drew.cell]; exact hcur _ (by rw [hsz]; rw [hdrop] at hj; omega)) (fun j hj => hr.drew.free _) (rkCs_one enP_one _)
  obtain ⟨W1, hW1⟩ : ∃ W1, w.drew.setCells g ((i + 1) * 2) (rkCs enP (l.drop i)) = W1 := ⟨_, rfl⟩
  have hr1 : Row W1 g 38 (layC cur ((i + 1) * 2) (rkCs enP (l.drop i))) := by rw [← hW1]; exact Row.puts _ _ hr.drew
  have hg1 : w.grownBy W1 (some g) := by
    have := grown_setCells g (rkCs enP (l.drop i)) ((i + 1) * 2) w.drew
    rw [hW1] at this
    exact ⟨this.os, this.tape, this.output, this.size, this.block⟩
  have hv1 : Row W1 v 38 (enP x).toArray := (hg1.block v hv.lt (fun e => hvg (by injection e))).trans hv
  have hcp2 : ∀ ty dc, (Builtin.copy_ #[31, 31] ty #[.slice (some ⟨g, i * 2, none⟩) (l.length + 1 - i) dc, .slice (some ⟨v, 0, none⟩) 1 1]).run Try.prog W1 = .ok (goInt 1) (W1.setCells g (i * 2) (enP x)) := fun ty dc =>
    run_copyK W1 _ _ ty 38 2 g (i * 2) (l.length + 1 - i) dc ⟨v, 0, none⟩ 1 1 1 (enP x) Try.underlying31 hsz2 hmin2 rfl
      (fun j u hu => by rw [addr0]; exact (hv1.cell j).trans (by simpa using hu))
      (fun j hj => by rw [hr1.cell, Array.getElem?_eq_getElem (by rw [layC_size, hsz]; simp [enP] at hj; omega)]; rfl) (fun j hj => hr1.free _) (enP_one x)
  obtain ⟨W2, hW2⟩ : ∃ W2, W1.setCells g (i * 2) (enP x) = W2 := ⟨_, rfl⟩
  have hr2 : Row W2 g 38 (layC (layC cur ((i + 1) * 2) (rkCs enP (l.drop i))) (i * 2) (enP x)) := by rw [← hW2]; exact Row.puts _ _ hr1
  have hfin : PlO base W2 (some ⟨g, 0, none⟩) d (insT l i x) := RkO.make enP_len hr2 hb (by rw [insT_len (by omega)]; exact hroom) hdm (by rw [layC_size, layC_size, hsz]) fun j hj => by
    rw [insT_len (by omega)] at hj
    rw [insT_get l i (by omega), layC_get _ _ _ _ (by rw [layC_size, hsz]; simp [enP]; omega), layC_get _ _ _ _ (by rw [hsz, hdrop]; omega), hdrop]
    have : (enP x).length = 2 := rfl
    rw [this]
    by_cases h1 : j < i * 2
    · rw [if_pos h1, if_neg (by omega), if_neg (by omega), RkO.at_ enP_len htk (by omega)]
    · rw [if_neg h1]
      by_cases h2 : j < (i + 1) * 2
      · rw [if_pos h2, if_pos (by omega)]
      · rw [if_neg h2, if_neg (by omega), if_pos (by omega)]
  have hgr : w.grownBy W2 (some g) := by
    have k2 := grown_setCells g (enP x) (i * 2) W1
    rw [hW2] at k2
    exact ⟨k2.os.trans hg1.os, k2.tape.trans hg1.tape, k2.output.trans hg1.output, Nat.le_trans hg1.size k2.size, fun k hk hne => (k2.block k (Nat.lt_of_lt_of_le hk hg1.size) hne).trans (hg1.block k hk hne)⟩
  rw [hW1] at hcp1
  rw [hW2] at hcp2
  have HF := Lib.hid hfin
  have HG := Lib.hid hgr
  clear hfin hgr hr2 hW2 hv1 hg1 hr1 hW1 hov hcd hdrop hcur hsz2 htk hsz hr hv h
  have hz1 : ¬ ((i : Int) = (l.length : Int)) := by omega
  have q1 : (i : Int) ≤ (l.length : Int) := by omega
  have q2 : (i : Int) ≤ (l.length : Int) + 1 := by omega
  have q3 : (i : Int) + 1 ≤ (l.length : Int) + 1 := by omega
  have q4 : (l.length : Int) + 1 ≤ (d : Int) := by omega
  have q5 : (0 : Int) ≤ (i : Int) + 1 := by omega
  have q6 : (0 : Int) ≤ (l.length : Int) + 1 := by omega
  have hb2 : ¬ (d = i + 1) := by omega
  have hb4 : ¬ (d = i) := by omega
  have q7 : decide ((d : Int) < (l.length : Int) + 1) = false := decide_eq_false (by omega)
  have hw1 : IntKind.i64.wrap ((i : Int) + 1) = (i : Int) + 1 := by rw [IntKind.wrap_i64]; omega
  have htn : ((i : Int) + 1).toNat = i + 1 := by omega
  go_enter Try.func47, Try.ntmps47
  go_wp2_with (simp only [hov0])
  go_region_law (refine step_copy_run rfl (.tmp 73) (.tmp 76) 31 31 rfl _ _ (by simp [Act.eval, Act.put]) (by simp [Act.eval, Act.put]) (hcp1 _ _ _) ?_)
  go_wp2_with (at_builtin; refine wpList_copy_run _ rfl _ _ 31 31 rfl _ _ (by simp [Act.eval, Act.put]) (by simp [Act.eval, Act.put]) (hcp2 _ _) ?_)
  go_ret
  exact ⟨rfl, HF.out, HG.out⟩
theorem zeros_sizeK (z : Value) (k : Nat) (hz : z.cells.size = k) (n : Nat) : (Builtin.zeroCells z.cells n).size = n * k := by
  simp [Builtin.zeroCells, hz]
set_option maxHeartbeats 4000000 in
/-- There is no room: a new row. -/
theorem insert_grow (base g d : Nat) (l : List Pl) (i : Nat) (x : Pl) (v : Nat) (w : World) (h : PlO base w (some ⟨g, 0, none⟩) d l) (hi : i < l.length) (hroom : d < l.length + 1) (hv : Row w v 38 (enP x).toArray) (hl : l.length ≤ 1000000) (hbs : base ≤ w.heap.size) :
    Calls Try.prog 47 #[.slice (some ⟨g, 0, none⟩) l.length d, .int .i64 i, .slice (some ⟨v, 0, none⟩) 1 1] w fun e w' => (∃ G, e = .returned (.slice (some ⟨w.heap.size, 0, none⟩) (l.length + 1) G) ∧ PlO base w' (some ⟨w.heap.size, 0, none⟩) G (insT l i x)) ∧ Below w.heap.size w w' := by
  obtain ⟨cur, hr, hb, hld, hdm, hsz, htk⟩ := h.open_
  have hd : d = l.length := by omega
  subst hd
  obtain ⟨i0, hi0, hz0, hz1, hz2⟩ := info_parts infoP
  have hsz2 : (Try.prog.info? 38).map (·.size) = some 2 := by rw [hi0]; simp [hz1]
  have htake : (rkCs enP (l.take i)).length = i * 2 := by rw [rkCs_len enP_len, List.length_take, Nat.min_eq_left (by omega)]
  have hdrop : (rkCs enP (l.drop i)).length = (l.length - i) * 2 := by rw [rkCs_len enP_len, List.length_drop]
  have hall : rkCs enP l = rkCs enP (l.take i) ++ rkCs enP (l.drop i) := by rw [← rkCs_append, List.take_append_drop]
  have hct : ∀ j u, (rkCs enP (l.take i))[j]? = some u → cur[j]? = some u := fun j u hu => by
    have hj := (List.getElem?_eq_some_iff.1 hu).1
    rw [RkO.at_ enP_len htk (by omega), hall, List.getElem?_append_left hj]
    exact hu
  have hcd : ∀ j u, (rkCs enP (l.drop i))[j]? = some u → cur[i * 2 + j]? = some u := fun j u hu => by
    have hj := (List.getElem?_eq_some_iff.1 hu).1
    rw [RkO.at_ enP_len htk (by omega), hall, List.getElem?_append_right (by omega), htake, Nat.add_sub_cancel_left]
    exact hu
  have hold : (Builtin.firstCells i0.size i (.slice (some ⟨g, 0, none⟩) i l.length)).run Try.prog w.drew = .ok (rkCs enP (l.take i)).toArray w.drew := by
    rw [hz1]
    exact run_firstCells_some w.drew 2 i ⟨g, 0, none⟩ i l.length _ htake fun j u hu => by rw [addr0]; exact (hr.drew.cell _).trans (hct j u hu)
  have hkk : (l.length : Int) + 1 - (i : Int) = ((l.length + 1 - i : Nat) : Int) := by omega
  have hik : i + (l.length + 1 - i) = l.length + 1 := by omega
  obtain ⟨G, hG⟩ : ∃ G, grownCap w (l.length + 1) l.length 38 = G := ⟨_, rfl⟩
  have hGn : l.length + 1 ≤ G := by rw [← hG]; exact grownCap_ge w _ _ _
  have hGm : G ≤ maxLen := by rw [← hG]; exact grownCap_le_maxLen w _ _ _ (by unfold maxLen; omega)
  have hGm' : G ≤ 9223372036854775807 := by unfold maxLen at hGm; omega
  obtain ⟨ROW, hROW⟩ : ∃ ROW : Array Value, (rkCs enP (l.take i)).toArray ++ Builtin.zeroCells (Value.agg #[.int .u64 0, .int .i64 0]).cells (l.length + 1 - i) ++ Builtin.zeroCells (Value.agg #[.int .u64 0, .int .i64 0]).cells (G - (l.length + 1)) = ROW := ⟨_, rfl⟩
  have hRs : ROW.size = G * 2 := by
    rw [← hROW, Array.size_append, Array.size_append, zeros_sizeK _ 2 rfl, zeros_sizeK _ 2 rfl, List.size_toArray, htake]
    omega
  have hRt : ∀ j, j < i * 2 → ROW[j]? = (rkCs enP (l.take i))[j]? := fun j hj => by
    rw [← hROW, Array.append_assoc, Array.getElem?_append_left (by rw [List.size_toArray]; omega), List.getElem?_toArray]
  have hrz : ∀ ty, (Builtin.append_ #[31, 3] ty #[.slice (some ⟨g, 0, none⟩) i l.length, .int .i64 ((l.length + 1 - i : Nat) : Int)]).run Try.prog w =
      .ok (.slice (some ⟨w.heap.size, 0, none⟩) (l.length + 1) G) (w.drew.alloc (.cells ROW 38)) := fun ty => by
    have h := Lib.run_append_grow_zeros w 31 3 ty 38 i0 _ .i64 .i64 Try.underlying31 Try.underlying3 hi0 hz0 (some ⟨g, 0, none⟩) i l.length (rkCs enP (l.take i)) hold (l.length + 1 - i) (by omega) (by rw [hz1]; decide) (by omega) (by omega)
      (by rw [hz2]; omega) (by rw [hz2]; exact growslice_fits (by omega) (by omega))
    rw [hik, hG, hROW] at h
    exact h
  obtain ⟨W1, hW1⟩ : ∃ W1, w.drew.alloc (.cells ROW 38) = W1 := ⟨_, rfl⟩
  obtain ⟨N, hN⟩ : ∃ N, w.heap.size = N := ⟨_, rfl⟩
  have hr1 : Row W1 N 38 ROW := by rw [← hW1, ← hN]; exact Row.new w.drew _ _
  have hb1 : Below N w W1 := by rw [← hW1, ← hN]; exact ((Below.refl w.heap.size w).drew).alloc (Nat.le_refl _) _
  have hv1 : Row W1 v 38 (enP x).toArray := hv.below hb1 (by rw [← hN]; exact hv.lt)
  have hgN : g ≠ N := by have := hr.lt; omega
  have hmin1 : Nat.min 1 (l.length + 1 - i) = 1 := by show min _ _ = _; omega
  have hmin2 : Nat.min (l.length - i) (l.length - i) = l.length - i := by show min _ _ = _; omega
  have hcpA : ∀ ty dc, (Builtin.copy_ #[31, 31] ty #[.slice (some ⟨N, i * 2, none⟩) (l.length + 1 - i) dc, .slice (some ⟨v, 0, none⟩) 1 1]).run Try.prog W1 = .ok (goInt 1) (W1.setCells N (i * 2) (enP x)) := fun ty dc =>
    run_copyK W1 _ _ ty 38 2 N (i * 2) (l.length + 1 - i) dc ⟨v, 0, none⟩ 1 1 1 (enP x) Try.underlying31 hsz2 hmin1 rfl
      (fun j u hu => by rw [addr0]; exact (hv1.cell j).trans (by simpa using hu))
      (fun j hj => by rw [hr1.cell, Array.getElem?_eq_getElem (by rw [hRs]; simp [enP] at hj; omega)]; rfl) (fun j hj => hr1.free _) (enP_one x)
  obtain ⟨W2, hW2⟩ : ∃ W2, W1.setCells N (i * 2) (enP x) = W2 := ⟨_, rfl⟩
  have hr2 : Row W2 N 38 (layC ROW (i * 2) (enP x)) := by rw [← hW2]; exact Row.puts _ _ hr1
  have hg2 : W1.grownBy W2 (some N) := by rw [← hW2]; exact grown_setCells N (enP x) (i * 2) W1
  have hrg2 : Row W2 g 38 cur := by
    have h1 : Row W1 g 38 cur := hr.below hb1 (by rw [← hN]; exact hr.lt)
    exact (hg2.block g h1.lt (fun e => hgN (by injection e))).trans h1
  have hcpB : ∀ ty dc sc, (Builtin.copy_ #[31, 31] ty #[.slice (some ⟨N, (i + 1) * 2, none⟩) (l.length - i) dc, .slice (some ⟨g, i * 2, none⟩) (l.length - i) sc]).run Try.prog W2.drew = .ok (goInt ((l.length - i : Nat) : Int)) (W2.drew.setCells N ((i + 1) * 2) (rkCs enP (l.drop i))) := fun ty dc sc =>
    run_copyK W2.drew _ _ ty 38 2 N ((i + 1) * 2) (l.length - i) dc ⟨g, i * 2, none⟩ (l.length - i) sc (l.length - i) (rkCs enP (l.drop i)) Try.underlying31 hsz2 hmin2 hdrop
      (fun j u hu => by rw [addrN]; exact (hrg2.drew.cell _).trans (hcd j u hu))
      (fun j hj => by rw [hr2.drew.cell, Array.getElem?_eq_getElem (by rw [layC_size, hRs]; rw [hdrop] at hj; omega)]; rfl) (fun j hj => hr2.drew.free _) (rkCs_one enP_one _)
  obtain ⟨W3, hW3⟩ : ∃ W3, W2.drew.setCells N ((i + 1) * 2) (rkCs enP (l.drop i)) = W3 := ⟨_, rfl⟩
  have hr3 : Row W3 N 38 (layC (layC ROW (i * 2) (enP x)) ((i + 1) * 2) (rkCs enP (l.drop i))) := by rw [← hW3]; exact Row.puts _ _ hr2.drew
  have hg3 : W2.grownBy W3 (some N) := by
    have := grown_setCells N (rkCs enP (l.drop i)) ((i + 1) * 2) W2.drew
    rw [hW3] at this
    exact ⟨this.os, this.tape, this.output, this.size, this.block⟩
  have hfin : PlO base W3 (some ⟨N, 0, none⟩) G (insT l i x) := RkO.make enP_len hr3 (by rw [← hN]; exact hbs) (by rw [insT_len (by omega)]; exact hGn) hGm (by rw [layC_size, layC_size, hRs]) fun j hj => by
    rw [insT_len (by omega)] at hj
    rw [insT_get l i (by omega), layC_get _ _ _ _ (by rw [layC_size, hRs, hdrop]; omega), layC_get _ _ _ _ (by rw [hRs]; simp [enP]; omega), hdrop]
    have : (enP x).length = 2 := rfl
    rw [this]
    by_cases h1 : j < i * 2
    · rw [if_pos h1, if_neg (by omega), if_neg (by omega), hRt j h1, hall, List.getElem?_append_left (by omega)]
    · rw [if_neg h1]
      by_cases h2 : j < (i + 1) * 2
      · rw [if_pos h2, if_neg (by omega), if_pos (by omega)]
      · rw [if_neg h2, if_pos (by omega)]
  have hbw : Below N w W3 := (hb1.grown hg2 (by rw [← hN]; exact hb1.size) (fun j e => by injection e with e; omega)).grown hg3 (by rw [← hN]; exact Nat.le_trans hb1.size hg2.size) (fun j e => by injection e with e; omega)
  rw [hN] at hrz ⊢
  rw [hW1] at hrz
  rw [hW2] at hcpA
  rw [hW3] at hcpB
  have HF := Lib.hid hfin
  have HG := Lib.hid hbw
  clear hfin hbw hr3 hg3 hW3 hrg2 hg2 hr2 hW2 hgN hv1 hb1 hr1 hW1 hRt hRs hROW hG hold hcd hct hall hdrop htake hsz2 htk hsz hr hv h hN hbs
  have hz1 : ¬ ((i : Int) = (l.length : Int)) := by omega
  have q1 : (i : Int) ≤ (l.length : Int) := by omega
  have q2 : (i : Int) ≤ (l.length : Int) + 1 := by omega
  have q3 : (i : Int) + 1 ≤ (l.length : Int) + 1 := by omega
  have q5 : (0 : Int) ≤ (i : Int) + 1 := by omega
  have hb2 : ¬ (G = i + 1) := by omega
  have hb4 : ¬ (G = i) := by omega
  have hb5 : ¬ (l.length = i) := by omega
  have q7 : (l.length : Int) < (l.length : Int) + 1 := by omega
  have hw1 : IntKind.i64.wrap ((i : Int) + 1) = (i : Int) + 1 := by rw [IntKind.wrap_i64]; omega
  have htn : ((i : Int) + 1).toNat = i + 1 := by omega
  have qi : i ≤ l.length := by omega
  go_enter Try.func47, Try.ntmps47
  go_wp2_with (first
    | (at_builtin; refine Lib.wpList_append_run _ rfl _ _ 31 3 rfl _ _ (by simp [Act.eval]) (by simp [Act.eval]) _ _ (hrz _) ?_)
    | (at_builtin; refine wpList_copy_run _ rfl _ _ 31 31 rfl _ _ (by simp [Act.eval, Act.put]) (by simp [Act.eval, Act.put]) (hcpA _ _) ?_))
  go_region_law (refine step_copy_run rfl (.tmp 50) (.tmp 53) 31 31 rfl _ _ (by simp [Act.eval, Act.put]) (by simp [Act.eval, Act.put]) (hcpB _ _ _) ?_)
  go_wp2_with fail
  go_ret
  exact ⟨⟨G, rfl, HF.out⟩, HG.out⟩
end Go.Proofs.Ytaikjobebbighaa
