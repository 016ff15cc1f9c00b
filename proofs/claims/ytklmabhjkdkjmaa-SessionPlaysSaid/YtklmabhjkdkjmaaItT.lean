/- maps.Keys at map[uint64]session.talk (turned from the kit's texts at int). -/
import Derived.Test.YtklmabhjkdkjmaaItA
import Derived.Sort.MapsRangeIn
import Derived.RegionIn
namespace Go.Proofs.Ytklmabhjkdkjmaa
set_option linter.unusedVariables false
open Go.RowKit Go.Maps Go.Sort Go.Shelf
/-! ### maps.Keys at map[uint64]session.talk -/
set_option maxRecDepth 100000 in
set_option maxHeartbeats 1000000 in
theorem it_keys1 (F : Fence) (n : Nat) (h10 : F.fn 27) (hro : F.round = none) (hn : 1 ≤ n) (l Bm b nn : Nat) (D0 : DataW Value) {R : Value → Option (DataW Value × List MemPlace)} (J : List Int → World → Prop)
    (hY : ∀ pre x W, J pre W → pre.length < Maps.size D0 → YieldAt F (n - 1) Try.prog l #[encQ x] W fun e W' => e = .returned (.bool true) ∧ J (pre ++ [x]) W' ∧ KeepsWalks W W')
    (W : World) (hJ : AbidesFrom W.heap.size J) (hm : W.cell? ⟨Bm, 0, none⟩ = some (.map (some b))) (hown : W.ownsMap Try.prog 28 R b nn D0) (h0 : J [] W) :
    CallsIn F n Try.prog 27 #[.func (.yield l) #[] #[], .pointer (some ⟨Bm, 0, none⟩)] W fun e W' => (∃ v, e = .returned v) ∧ ∃ ss : List Int, ss.Perm (keysQ D0) ∧ J ss W' := by
  refine callsIn_of_wp Try.func27 rfl h10 ?_ hro
  simp only [Try.ntmps27, List.size_toArray, List.length_cons, List.length_nil, Nat.reduceAdd, Nat.reduceSub, Array.replicate_succ, Array.replicate_zero, List.push_toArray, List.append_toArray, List.nil_append, List.cons_append]
  gi_wp2_with (first
    | (gi_at_range; refine wpListIn_range_own _ rfl _ 46 rfl 28 51 (int_keyed Try.underlying28) Try.underlying46 _ b nn _ rfl hown ?_; intro w0 hrg0 hg0 hs0)
    | gi_in)
  go_frame
  gi_loopw [3] (fun _ wr => ∃ (left : Lit → Bool) (cnt : Nat) (ss : List Int), wr.ranges Try.prog 28 R b W.heap.size nn D0 left cnt ∧ ss.length + cnt ≤ Maps.size D0 ∧ CollectedQ D0 left ss ∧ J ss wr)
    (fun _ wr => wr.rangeLeft b W.heap.size)
  case atStart =>
    exact ⟨_, _, [], hrg0, by simp, CollectedQ.start D0, hJ [] W w0 none h0 hg0 (fun r e => by cases e)⟩
  case round =>
    obtain ⟨left, cnt, ss, hrg, hcs, hC, hJs⟩ := hrel
    gi_wp2_with (first
      | (gi_at_next; refine wpListIn_next_ranges _ rfl _ rfl 28 (int_keyed Try.underlying28) R encQ id (fun key kl hk => by obtain ⟨x, hx, _⟩ := keyOf_u64 Try.underlying28 hk; exact ⟨x, hx⟩) (fun v _ _ => ⟨v, rfl⟩) b W.heap.size nn _ _ _ rfl hrg ?_ ?_)
      | gi_in)
    · intro hc0 hl0
      gi_wp2
      go_end0
      exact ⟨⟨_, rfl⟩, ss, hC.perm hown (int_keyed Try.underlying28) Try.underlying28 hl0, hJs⟩
    · intro x c kl yd yp w2 cnt2 hkey hlk hv hat hrg2 hlt hg2 hs2 hen
      obtain ⟨x', ex, rfl, _⟩ := keyOf_u64 Try.underlying28 hkey
      obtain rfl : x = x' := encQ_inj ex
      have hJ2 : J ss w2 := hJ ss wr w2 (some W.heap.size) hJs hg2 (fun r e => by cases e; exact ⟨Nat.le_refl _, hrg.iter_walk⟩)
      obtain ⟨fn, tmps, assign, body, hy, hR⟩ := hY ss x w2 hJ2 (by omega)
      clear hs2
      gi_wp2
      refine hR.mono ?_
      rintro e W3 ⟨rfl, hJ3, hk3⟩
      gi_wp2
      have hrg3 := hrg2.of_walks hk3
      go_roundw
      case rel => exact ⟨_, cnt2, ss ++ [x], hrg3, by simp; omega, hC.step hlk hat, hJ3⟩
      case measure => rw [hrg3.left_eq, hrg.left_eq]; exact hlt
theorem it_keys_gives (F : Fence) (n : Nat) (h10 : F.fn 27) (hro : F.round = none) (hn : 1 ≤ n) (Bm b nn : Nat) (D0 : DataW Value) {R : Value → Option (DataW Value × List MemPlace)} (w : World) (hBm : Bm < w.heap.size)
    (hm : w.cell? ⟨Bm, 0, none⟩ = some (.map (some b))) (hown : w.ownsMap Try.prog 28 R b nn D0) :
    SeqB F n Try.prog 27 #[.pointer (some ⟨Bm, 0, none⟩)] encQ (fun ss => ss.Perm (keysQ D0)) (Maps.size D0) w := fun l J W hW hJ hY h0 => by
  have hown' : W.ownsMap Try.prog 28 R b nn D0 := by
    have hbl := hown.lt
    obtain ⟨es, clock, hb, Ft, hs, hD⟩ := hown
    exact ⟨es, clock, (hW.block b hbl).trans hb, Ft, hs, hD⟩
  exact it_keys1 F n h10 hro hn l Bm b nn D0 J (fun pre x W hj hl => (hY pre x W hj hl).mono fun e W' ⟨h1, h2, h3, _⟩ => ⟨h1, h2, h3⟩) W hJ ((hW.cell (p := ⟨Bm, 0, none⟩) hBm).trans hm) hown' h0
theorem it_keys (mb : Option Nat) (w : World) :
    Calls Try.prog 22 #[.map mb] w fun e w' => e = .returned (.func (.func 27) #[] #[.pointer (some ⟨w.heap.size, 0, none⟩)]) ∧ w' = w.alloc (.cells #[.map mb] 46) := by
  go_enter Try.func22, Try.ntmps22
  go_wp2_with fail
  go_ret
  exact ⟨rfl, rfl⟩
/-- slices.Collect(maps.Keys(m)). -/
theorem collected_keys (b nn : Nat) (D0 : DataW Value) {R : Value → Option (DataW Value × List MemPlace)} (Bm : Nat) (w : World) (hBm : Bm < w.heap.size) (hm : w.cell? ⟨Bm, 0, none⟩ = some (.map (some b))) (hown : w.ownsMap Try.prog 28 R b nn D0) (hz : Maps.size D0 ≤ 1000000) :
    Calls Try.prog 25 #[.func (.func 27) #[] #[.pointer (some ⟨Bm, 0, none⟩)]] w fun e w' =>
      ∃ B d ss, e = .returned (.slice B ss.length d) ∧ ss.Perm (keysQ D0) ∧ OwnU w.heap.size w' B d ss ∧ Below w.heap.size w w' := by
  refine (callsIn_wide.1 (it_collect_in Fence.wide 4 trivial trivial rfl (by omega) 27 _ trivial (enters_of Try.func27 (by kernel_rfl) rfl) _ (Maps.size D0) (by unfold maxLen; omega) (by omega) w
    (it_keys_gives Fence.wide _ trivial rfl (by omega) Bm b nn D0 w hBm hm hown))).mono ?_
  rintro e w' ⟨v, ss, rfl, hp, hrow, _, hb⟩
  obtain ⟨B, d, rfl, -, -⟩ := own_form hrow
  exact ⟨B, d, ss, rfl, hp, hrow, hb⟩
end Go.Proofs.Ytklmabhjkdkjmaa
