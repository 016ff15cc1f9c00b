/- Slots: slices.Values at []string, slices.Sorted over it; the book's names. -/
import Derived.Test.YtaikjobebbighaaItS
import Derived.Test.YtaikjobebbighaaMf
import Derived.Sort.MapsRangeIn
import Derived.RegionIn
namespace Go.Proofs.Ytaikjobebbighaa
set_option linter.unusedVariables false
open Go.RowKit Go.Maps Go.Sort Go.Shelf
def itUptoS (zs : List Key) (k : Nat) : List Key := (List.range k).map fun j => zs[j]?.getD []
theorem itUptoS_succ (zs : List Key) (k : Nat) : itUptoS zs (k + 1) = itUptoS zs k ++ [zs[k]?.getD []] := by simp [itUptoS, List.range_succ]
theorem itUptoS_len (zs : List Key) (k : Nat) : (itUptoS zs k).length = k := by simp [itUptoS]
theorem itUptoS_all (zs : List Key) : itUptoS zs zs.length = zs := by
  apply List.ext_getElem
  · simp [itUptoS]
  · intro i h1 h2
    simp [itUptoS, h2]
set_option maxRecDepth 100000 in
set_option maxHeartbeats 2000000 in
theorem its_values1 (F : Fence) (n : Nat) (h7 : F.fn 41) (hro : F.round = none) (hn : 1 ≤ n) (l Bs n₀ : Nat) (A : Option Addr) (cap : Nat) (zs : List Key) (hz : zs.length ≤ 1000000000) (J : List Key → World → Prop)
    (hY : ∀ pre x W, J pre W → pre.length < zs.length → YieldAt F (n - 1) Try.prog l #[encStr x] W fun e W' => e = .returned (.bool true) ∧ J (pre ++ [x]) W' ∧ KeepsWalks W W' ∧ Below n₀ W W')
    (W : World) (hBs : W.cell? ⟨Bs, 0, none⟩ = some (.slice A zs.length cap)) (hc : ∀ j, j < zs.length → ∃ ad, A = some ad ∧ ad.block < n₀ ∧ W.cell? (ad.add j) = some (nm (zs[j]?.getD []))) (h0 : J [] W) :
    CallsIn F n Try.prog 41 #[.func (.yield l) #[] #[], .pointer (some ⟨Bs, 0, none⟩)] W fun e W' => (∃ v, e = .returned v) ∧ J zs W' := by
  refine callsIn_of_wp Try.func41 rfl h7 ?_ hro
  simp only [Try.ntmps41, List.size_toArray, List.length_cons, List.length_nil, Nat.reduceAdd, Nat.reduceSub, Array.replicate_succ, Array.replicate_zero, List.push_toArray, List.append_toArray, List.nil_append, List.cons_append]
  gi_wp2
  gi_loopw [7] (fun i wr => ∃ k : Nat, k ≤ zs.length ∧ i = .int .i64 k ∧ J (itUptoS zs k) wr ∧ Below n₀ W wr)
    (fun i _ => zs.length - (intOf i).toNat)
  case atStart => exact ⟨0, Nat.zero_le _, rfl, h0, Below.refl _ _⟩
  case round =>
    obtain ⟨k, hk, rfl, hJs, hnx⟩ := hrel
    by_cases hlt : k < zs.length
    · obtain ⟨ad, rfl, hb, hc0⟩ := hc k hlt
      have hcx : wr.cell? (ad.add k) = some (nm (zs[k]?.getD [])) := (hnx.cell (by rw [add_block]; exact hb)).trans hc0
      have hsx := itUptoS_succ zs k
      generalize zs[k]?.getD [] = x at hcx hsx hc0
      obtain ⟨fn, tmps, assign, body, hy, hR⟩ := hY _ x wr hJs (by rw [itUptoS_len]; exact hlt)
      have HSX := Lib.hid hsx
      clear hsx hc0 hc
      dsimp only [encStr] at hy
      gi_wp2
      refine hR.mono ?_
      rintro e W3 ⟨rfl, hJ3, -, hk3⟩
      gi_wp2
      go_roundw
      case rel => exact ⟨k + 1, by omega, by simp, by rw [HSX.out]; exact hJ3, hnx.trans hk3⟩
      case measure => simp [intOf]; omega
    · obtain rfl : k = zs.length := by omega
      rw [itUptoS_all] at hJs
      gi_wp2
      go_end0
      exact ⟨⟨_, rfl⟩, hJs⟩
set_option maxHeartbeats 1000000 in
theorem its_values (A : Option Addr) (len cap : Nat) (w : World) :
    Calls Try.prog 25 #[.slice A len cap] w fun e w' => e = .returned (.func (.func 41) #[] #[.pointer (some ⟨w.heap.size, 0, none⟩)]) ∧ w' = w.alloc (.cells #[.slice A len cap] 52) := by
  go_enter Try.func25, Try.ntmps25
  go_wp2_with fail
  go_ret
  exact ⟨rfl, rfl⟩
theorem its_values_gives (F : Fence) (n : Nat) (h7 : F.fn 41) (hro : F.round = none) (hn : 1 ≤ n) (A : Option Addr) (cap : Nat) (zs : List Key) (hz : zs.length ≤ 1000000000) (w : World) (hs : RkS enN 1 w A zs) :
    SeqS F n Try.prog 41 #[.pointer (some ⟨w.heap.size, 0, none⟩)] encStr (fun ys => ys = zs) zs.length (w.alloc (.cells #[.slice A zs.length cap] 52)) := fun l J W hW _ hY h0 => by
  have hcb : (w.alloc (.cells #[.slice A zs.length cap] 52)).cell? ⟨w.heap.size, 0, none⟩ = some (.slice A zs.length cap) := by simp
  have hcw := (hW.cell (p := ⟨w.heap.size, 0, none⟩) (by simp)).trans hcb
  refine (its_values1 F n h7 hro hn l w.heap.size _ A cap zs hz J hY W hcw (fun j hj => ?_) h0).mono fun e W' ⟨h1, h2⟩ => ⟨h1, zs, rfl, h2⟩
  obtain ⟨ad, e, hb, -⟩ := hs j hj
  subst e
  obtain ⟨-, hc⟩ := hs.cells1 j hj (u := nm zs[j]) rfl
  refine ⟨ad, rfl, by simp; omega, ?_⟩
  rw [hW.cell (by rw [add_block]; simp; omega), World.cell?_alloc_lt w _ _ (by rw [add_block]; exact hb), hc]
  simp [hj]
theorem its_sorts : its_SortsIn Fence.wide 4 := ⟨fun blk off cap ss W hH hb hl => callsIn_wide.2 (AnyM.slices_Sort_string Try.sort40 blk off cap ss W hH hb hl), fun p cap W => callsIn_wide.2 (AnyM.slices_Sort_string_none Try.sort40 p cap W)⟩
/-- Sorted names. -/
def srtS (l : List Key) : List Key := l.mergeSort fun x y => decide (x ≤ y)
theorem srtS_len (l : List Key) : (srtS l).length = l.length := List.length_mergeSort _
/-- slices.Sorted(slices.Values(l)). -/
theorem sorted_names (A : Option Addr) (cap : Nat) (zs : List Key) (hz : zs.length ≤ 1000000) (w : World) (hs : RkS enN 1 w A zs) :
    Calls Try.prog 24 #[.func (.func 41) #[] #[.pointer (some ⟨w.heap.size, 0, none⟩)]] (w.alloc (.cells #[.slice A zs.length cap] 52)) fun e w' =>
      ∃ B d, e = .returned (.slice B (srtS zs).length d) ∧ RkO enN 1 9 w.heap.size w' B d (srtS zs) ∧ Below w.heap.size w w' := by
  refine (callsIn_wide.1 (its_sorted_in Fence.wide 5 trivial trivial trivial trivial rfl (by omega) its_sorts (enters_of Try.func40 (by kernel_rfl) rfl) 41 _ trivial (enters_of Try.func41 (by kernel_rfl) rfl) _ zs.length (by unfold maxLen; omega) (by omega) _
    (its_values_gives Fence.wide _ trivial rfl (by omega) A cap zs (by omega) w hs))).mono ?_
  rintro e w' ⟨v, ss, rfl, rfl, hrow, _, hb⟩
  obtain ⟨B, d, rfl, -, -⟩ := own_form hrow
  have hcs : ∀ l : List Key, rkCs enN l = l.map encStr := fun l => by
    induction l with
    | nil => rfl
    | cons x t ih => show nm x :: rkCs enN t = _; rw [ih]; rfl
  refine ⟨B, d, by rw [srtS_len], RkO.low (base := (w.alloc (.cells #[.slice A ss.length cap] 52)).heap.size) ?_ (by simp), nextA (Below.refl _ w) hb⟩
  unfold RkO
  rw [srtS_len, hcs]
  exact hrow
end Go.Proofs.Ytaikjobebbighaa
