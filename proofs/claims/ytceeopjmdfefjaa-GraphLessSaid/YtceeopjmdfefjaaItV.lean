/- slices.Values at []uint64, maps.Keys at map[uint64][]uint64, and slices.Sorted over them (turned from the kit's texts at int). -/
import Derived.Test.YtceeopjmdfefjaaItC
import Derived.Sort.MapsRangeIn
import Derived.RegionIn
namespace Go.Proofs.Ytceeopjmdfefjaa
set_option linter.unusedVariables false
open Go.RowKit Go.Maps Go.Sort Go.Shelf
/-! ### slices.Values -/
def itUpto (zs : List Int) (k : Nat) : List Int := (List.range k).map fun j => zs[j]?.getD 0
theorem itUpto_succ (zs : List Int) (k : Nat) : itUpto zs (k + 1) = itUpto zs k ++ [zs[k]?.getD 0] := by simp [itUpto, List.range_succ]
theorem itUpto_len (zs : List Int) (k : Nat) : (itUpto zs k).length = k := by simp [itUpto]
theorem itUpto_all (zs : List Int) : itUpto zs zs.length = zs := by
  apply List.ext_getElem
  · simp [itUpto]
  · intro i h1 h2
    simp [itUpto, h2]
set_option maxRecDepth 100000 in
set_option maxHeartbeats 2000000 in
theorem it_values1 (F : Fence) (n : Nat) (h7 : F.fn 36) (hro : F.round = none) (hn : 1 ≤ n) (l Bs n₀ : Nat) (A : Option Addr) (cap : Nat) (zs : List Int) (hz : zs.length ≤ 1000000000) (J : List Int → World → Prop)
    (hY : ∀ pre x W, J pre W → pre.length < zs.length → YieldAt F (n - 1) Try.prog l #[encQ x] W fun e W' => e = .returned (.bool true) ∧ J (pre ++ [x]) W' ∧ KeepsWalks W W' ∧ Below n₀ W W')
    (W : World) (hBs : W.cell? ⟨Bs, 0, none⟩ = some (.slice A zs.length cap)) (hc : ∀ j, j < zs.length → ∃ ad, A = some ad ∧ ad.block < n₀ ∧ W.cell? (ad.add j) = some (.int .u64 (zs[j]?.getD 0))) (h0 : J [] W) :
    CallsIn F n Try.prog 36 #[.func (.yield l) #[] #[], .pointer (some ⟨Bs, 0, none⟩)] W fun e W' => (∃ v, e = .returned v) ∧ J zs W' := by
  refine callsIn_of_wp Try.func36 rfl h7 ?_ hro
  simp only [Try.ntmps36, List.size_toArray, List.length_cons, List.length_nil, Nat.reduceAdd, Nat.reduceSub, Array.replicate_succ, Array.replicate_zero, List.push_toArray, List.append_toArray, List.nil_append, List.cons_append]
  gi_wp2
  gi_loopw [7] (fun i wr => ∃ k : Nat, k ≤ zs.length ∧ i = .int .i64 k ∧ J (itUpto zs k) wr ∧ Below n₀ W wr)
    (fun i _ => zs.length - (intOf i).toNat)
  case atStart => exact ⟨0, Nat.zero_le _, rfl, h0, Below.refl _ _⟩
  case round =>
    obtain ⟨k, hk, rfl, hJs, hnx⟩ := hrel
    by_cases hlt : k < zs.length
    · obtain ⟨ad, rfl, hb, hc0⟩ := hc k hlt
      have hcx : wr.cell? (ad.add k) = some (.int .u64 (zs[k]?.getD 0)) := (hnx.cell (by rw [add_block]; exact hb)).trans hc0
      have hsx := itUpto_succ zs k
      generalize zs[k]?.getD 0 = x at hcx hsx hc0
      obtain ⟨fn, tmps, assign, body, hy, hR⟩ := hY _ x wr hJs (by rw [itUpto_len]; exact hlt)
      have HSX := Lib.hid hsx
      clear hsx hc0 hc
      dsimp only [encQ] at hy
      gi_wp2
      refine hR.mono ?_
      rintro e W3 ⟨rfl, hJ3, -, hk3⟩
      gi_wp2
      go_roundw
      case rel => exact ⟨k + 1, by omega, by simp, by rw [HSX.out]; exact hJ3, hnx.trans hk3⟩
      case measure => simp [intOf]; omega
    · obtain rfl : k = zs.length := by omega
      rw [itUpto_all] at hJs
      gi_wp2
      go_end0
      exact ⟨⟨_, rfl⟩, hJs⟩
set_option maxHeartbeats 1000000 in
theorem it_values (A : Option Addr) (len cap : Nat) (w : World) :
    Calls Try.prog 29 #[.slice A len cap] w fun e w' => e = .returned (.func (.func 36) #[] #[.pointer (some ⟨w.heap.size, 0, none⟩)]) ∧ w' = w.alloc (.cells #[.slice A len cap] 26) := by
  go_enter Try.func29, Try.ntmps29
  go_wp2_with fail
  go_ret
  exact ⟨rfl, rfl⟩
theorem it_values_gives (F : Fence) (n : Nat) (h7 : F.fn 36) (hro : F.round = none) (hn : 1 ≤ n) (A : Option Addr) (cap : Nat) (zs : List Int) (hz : zs.length ≤ 1000000000) (w : World) (hs : Sl w .u64 A zs) :
    SeqB F n Try.prog 36 #[.pointer (some ⟨w.heap.size, 0, none⟩)] encQ (fun ys => ys = zs) zs.length (w.alloc (.cells #[.slice A zs.length cap] 26)) := fun l J W hW _ hY h0 => by
  have hcb : (w.alloc (.cells #[.slice A zs.length cap] 26)).cell? ⟨w.heap.size, 0, none⟩ = some (.slice A zs.length cap) := by simp
  have hcw := (hW.cell (p := ⟨w.heap.size, 0, none⟩) (by simp)).trans hcb
  refine (it_values1 F n h7 hro hn l w.heap.size _ A cap zs hz J hY W hcw (fun j hj => ?_) h0).mono fun e W' ⟨h1, h2⟩ => ⟨h1, zs, rfl, h2⟩
  obtain ⟨ad, e, hb, hc⟩ := hs j hj
  refine ⟨ad, e, by simp; omega, ?_⟩
  rw [hW.cell (by rw [add_block]; simp; omega), World.cell?_alloc_lt w _ _ (by rw [add_block]; exact hb), hc]
  simp [hj]
theorem it_sorts : it_SortsIn Fence.wide 4 := ⟨fun blk off cap ss W hH hb hl => callsIn_wide.2 (by
    have c := Sort_u64 pdqWalkU blk off cap ss.toArray W hH hb (by simpa using hl)
    rw [sortU_eq] at c
    simpa [srt] using c), fun p cap W => callsIn_wide.2 (Sort_int_nilU p cap W)⟩
/-- slices.Sorted(slices.Values(l)). -/
theorem sorted_values (A : Option Addr) (cap : Nat) (zs : List Int) (hz : zs.length ≤ 1000000) (w : World) (hs : Sl w .u64 A zs) :
    Calls Try.prog 25 #[.func (.func 36) #[] #[.pointer (some ⟨w.heap.size, 0, none⟩)]] (w.alloc (.cells #[.slice A zs.length cap] 26)) fun e w' =>
      ∃ B d, e = .returned (.slice B zs.length d) ∧ OwnU w.heap.size w' B d (srt zs) ∧ Below w.heap.size w w' := by
  refine (callsIn_wide.1 (it_sorted_in Fence.wide 5 trivial trivial trivial trivial rfl (by omega) it_sorts (enters_of Try.func23 (by kernel_rfl) rfl) 36 _ trivial (enters_of Try.func36 (by kernel_rfl) rfl) _ zs.length (by unfold maxLen; omega) (by omega) _
    (it_values_gives Fence.wide _ trivial rfl (by omega) A cap zs (by omega) w hs))).mono ?_
  rintro e w' ⟨v, ss, rfl, rfl, hrow, _, hb⟩
  obtain ⟨B, d, rfl, -, -⟩ := own_form hrow
  refine ⟨B, d, rfl, OwnU.low (base := (w.alloc (.cells #[.slice A ss.length cap] 26)).heap.size) ?_ (by simp), nextA (Below.refl _ w) hb⟩
  unfold OwnU
  rw [srt_len]
  exact hrow
/-! ### maps.Keys at map[uint64][]uint64 -/
set_option maxRecDepth 100000 in
set_option maxHeartbeats 1000000 in
theorem it_keys1 (F : Fence) (n : Nat) (h10 : F.fn 34) (hro : F.round = none) (hn : 1 ≤ n) (l Bm b nn : Nat) (D0 : DataW Value) {R : Value → Option (DataW Value × List MemPlace)} (J : List Int → World → Prop)
    (hY : ∀ pre x W, J pre W → pre.length < Maps.size D0 → YieldAt F (n - 1) Try.prog l #[encQ x] W fun e W' => e = .returned (.bool true) ∧ J (pre ++ [x]) W' ∧ KeepsWalks W W')
    (W : World) (hJ : AbidesFrom W.heap.size J) (hm : W.cell? ⟨Bm, 0, none⟩ = some (.map (some b))) (hown : W.ownsMap Try.prog 23 R b nn D0) (h0 : J [] W) :
    CallsIn F n Try.prog 34 #[.func (.yield l) #[] #[], .pointer (some ⟨Bm, 0, none⟩)] W fun e W' => (∃ v, e = .returned v) ∧ ∃ ss : List Int, ss.Perm (keysQ D0) ∧ J ss W' := by
  refine callsIn_of_wp Try.func34 rfl h10 ?_ hro
  simp only [Try.ntmps34, List.size_toArray, List.length_cons, List.length_nil, Nat.reduceAdd, Nat.reduceSub, Array.replicate_succ, Array.replicate_zero, List.push_toArray, List.append_toArray, List.nil_append, List.cons_append]
  gi_wp2_with (first
    | (gi_at_range; refine wpListIn_range_own _ rfl _ 47 rfl 23 26 (int_keyed Try.underlying23) Try.underlying47 _ b nn _ rfl hown ?_; intro w0 hrg0 hg0 hs0)
    | gi_in)
  go_frame
  gi_loopw [3] (fun _ wr => ∃ (left : Lit → Bool) (cnt : Nat) (ss : List Int), wr.ranges Try.prog 23 R b W.heap.size nn D0 left cnt ∧ ss.length + cnt ≤ Maps.size D0 ∧ CollectedQ D0 left ss ∧ J ss wr)
    (fun _ wr => wr.rangeLeft b W.heap.size)
  case atStart =>
    exact ⟨_, _, [], hrg0, by simp, CollectedQ.start D0, hJ [] W w0 none h0 hg0 (fun r e => by cases e)⟩
  case round =>
    obtain ⟨left, cnt, ss, hrg, hcs, hC, hJs⟩ := hrel
    gi_wp2_with (first
      | (gi_at_next; refine wpListIn_next_ranges _ rfl _ rfl 23 (int_keyed Try.underlying23) R encQ id (fun key kl hk => by obtain ⟨x, hx, _⟩ := keyOf_u64 Try.underlying23 hk; exact ⟨x, hx⟩) (fun v _ _ => ⟨v, rfl⟩) b W.heap.size nn _ _ _ rfl hrg ?_ ?_)
      | gi_in)
    · intro hc0 hl0
      gi_wp2
      go_end0
      exact ⟨⟨_, rfl⟩, ss, hC.perm hown (int_keyed Try.underlying23) Try.underlying23 hl0, hJs⟩
    · intro x c kl yd yp w2 cnt2 hkey hlk hv hat hrg2 hlt hg2 hs2 hen
      obtain ⟨x', ex, rfl, _⟩ := keyOf_u64 Try.underlying23 hkey
      obtain rfl : x = x' := encQ_inj ex
      have hJ2 : J ss w2 := hJ ss wr w2 (some W.heap.size) hJs hg2 (fun r e => by cases e; exact ⟨Nat.le_refl _, hrg.iter_walk⟩)
      obtain ⟨fn, tmps, assign, body, hy, hR⟩ := hY ss x w2 hJ2 (by omega)
      clear hs2
      gi_wp2
      refine hR.mono ?_
      rintro e W3 ⟨rfl, hJ3, hk3⟩
      gi_wp2
      have hrg3 := hrg2.of_walks hk3
      go_roundw
      case rel => exact ⟨_, cnt2, ss ++ [x], hrg3, by simp; omega, hC.step hlk hat, hJ3⟩
      case measure => rw [hrg3.left_eq, hrg.left_eq]; exact hlt
theorem it_keys_gives (F : Fence) (n : Nat) (h10 : F.fn 34) (hro : F.round = none) (hn : 1 ≤ n) (Bm b nn : Nat) (D0 : DataW Value) {R : Value → Option (DataW Value × List MemPlace)} (w : World) (hBm : Bm < w.heap.size)
    (hm : w.cell? ⟨Bm, 0, none⟩ = some (.map (some b))) (hown : w.ownsMap Try.prog 23 R b nn D0) :
    SeqB F n Try.prog 34 #[.pointer (some ⟨Bm, 0, none⟩)] encQ (fun ss => ss.Perm (keysQ D0)) (Maps.size D0) w := fun l J W hW hJ hY h0 => by
  have hown' : W.ownsMap Try.prog 23 R b nn D0 := by
    have hbl := hown.lt
    obtain ⟨es, clock, hb, Ft, hs, hD⟩ := hown
    exact ⟨es, clock, (hW.block b hbl).trans hb, Ft, hs, hD⟩
  exact it_keys1 F n h10 hro hn l Bm b nn D0 J (fun pre x W hj hl => (hY pre x W hj hl).mono fun e W' ⟨h1, h2, h3, _⟩ => ⟨h1, h2, h3⟩) W hJ ((hW.cell (p := ⟨Bm, 0, none⟩) hBm).trans hm) hown' h0
theorem it_keys (mb : Option Nat) (w : World) :
    Calls Try.prog 26 #[.map mb] w fun e w' => e = .returned (.func (.func 34) #[] #[.pointer (some ⟨w.heap.size, 0, none⟩)]) ∧ w' = w.alloc (.cells #[.map mb] 47) := by
  go_enter Try.func26, Try.ntmps26
  go_wp2_with fail
  go_ret
  exact ⟨rfl, rfl⟩
theorem srt_of_perm {l l' : List Int} (h : l.Perm l') : srt l = srt l' := mergeSort_of_perm_i h
/-- slices.Sorted(maps.Keys(m)). -/
theorem sorted_keys (b nn : Nat) (D0 : DataW Value) {R : Value → Option (DataW Value × List MemPlace)} (w : World) (hown : w.ownsMap Try.prog 23 R b nn D0) (hz : Maps.size D0 ≤ 1000000) :
    Calls Try.prog 25 #[.func (.func 34) #[] #[.pointer (some ⟨w.heap.size, 0, none⟩)]] (w.alloc (.cells #[.map (some b)] 47)) fun e w' =>
      ∃ B d, e = .returned (.slice B (keysQ D0).length d) ∧ OwnU w.heap.size w' B d (srt (keysQ D0)) ∧ Below w.heap.size w w' := by
  have hbl := hown.lt
  have hm := (Below.refl w.heap.size w).alloc (Nat.le_refl _) (Obj.cells #[.map (some b)] 47)
  have hown' : (w.alloc (Obj.cells #[.map (some b)] 47)).ownsMap Try.prog 23 R b nn D0 := by
    obtain ⟨es, clock, hb, Ft, hs, hD⟩ := hown
    exact ⟨es, clock, (hm.block b hbl).trans hb, Ft, hs, hD⟩
  refine (callsIn_wide.1 (it_sorted_in Fence.wide 5 trivial trivial trivial trivial rfl (by omega) it_sorts (enters_of Try.func23 (by kernel_rfl) rfl) 34 _ trivial (enters_of Try.func34 (by kernel_rfl) rfl) _ (Maps.size D0) (by unfold maxLen; omega) (by omega) _
    (it_keys_gives Fence.wide _ trivial rfl (by omega) w.heap.size b nn D0 _ (by simp) (by simp) hown'))).mono ?_
  rintro e w' ⟨v, ss, rfl, hp, hrow, _, hb⟩
  obtain ⟨B, d, rfl, -, -⟩ := own_form hrow
  have hl := hp.length_eq
  refine ⟨B, d, by rw [hl], OwnU.low (base := (w.alloc (.cells #[.map (some b)] 47)).heap.size) ?_ (by simp), nextA (Below.refl _ w) hb⟩
  have hr : w'.ownsRow (w.alloc (.cells #[.map (some b)] 47)).heap.size 23 1 (.slice B ss.length d) ss.length ((srt ss).map encQ) := hrow
  rw [srt_of_perm hp] at hr
  unfold OwnU
  rw [srt_len, ← hl]
  exact hr
end Go.Proofs.Ytceeopjmdfefjaa
