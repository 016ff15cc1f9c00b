/- Slots: slices.SortFunc at places, by the law's closure. -/
import Derived.Test.YtaikjobebbighaaSlL
import Derived.Test.YtaikjobebbighaaSortL
import Derived.Shelf.SlSortCmp.WholeK
namespace Go.Proofs.Ytaikjobebbighaa
set_option linter.unusedVariables false
set_option maxRecDepth 100000
open Go.RowKit Go.Sort
theorem flat_at {ls : List Pl} {t : Nat} (ht : t < ls.length * 2) : (rkCs enP ls)[t]? = some ((flatK enP 2 ls.toArray)[t]!) := by
  have hm : t % 2 < 2 := Nat.mod_lt _ (by decide)
  have hq : t / 2 < ls.length := by omega
  have h2 := rkCs_get enP_len ls (t / 2) hq (t % 2) hm
  rw [show t / 2 * 2 + t % 2 = t by omega] at h2
  rw [h2, get_flatK _ _ _ t (by simpa using ht)]
  have e : ls.toArray[t / 2]! = ls[t / 2] := by simp [hq]
  rw [e]
  generalize ls[t / 2] = x
  generalize t % 2 = i at hm
  match i, hm with
  | 0, _ => rfl
  | 1, _ => rfl
theorem holds_pl {w : World} {g d : Nat} {ls : List Pl} (h : PlO 0 w (some ⟨g, 0, none⟩) d ls) : HoldsK enP 2 w g 0 ls.toArray := by
  intro j hj
  have hj' : j < ls.length * 2 := by simpa using hj
  obtain ⟨cur, hr, -, h1, h2, h3, h4⟩ := h.open_
  rw [Nat.zero_add]
  refine ⟨?_, hr.free j⟩
  rw [hr.cell, RkO.at_ enP_len h4 hj', flat_at hj']
  rfl
theorem closure_pl (x y : Pl) (W : World) : Calls Try.prog 37 #[.agg #[.int .u64 x.1, .int .i64 x.2], .agg #[.int .u64 y.1, .int .i64 y.2]] W fun e w' => e = .returned (.int .i64 (if x.1 < y.1 then -1 else 1)) ∧ ∃ q os', w' = grow (W.drewN q) os' := by
  by_cases h : x.1 < y.1
  · rw [if_pos h]
    go_enter Try.func37, Try.ntmps37
    go_wp2_with fail
    go_ret
    exact ⟨rfl, 0, _, by rw [alloc_eq_grow, alloc_eq_grow, grow_grow]; rfl⟩
  · rw [if_neg h]
    have d1 : decide (x.1 < y.1) = false := decide_eq_false h
    go_enter Try.func37, Try.ntmps37
    go_wp2_with fail
    go_ret
    exact ⟨rfl, 0, _, by rw [alloc_eq_grow, alloc_eq_grow, grow_grow]; rfl⟩
def cfP (x y : Pl) : Int := if x.1 < y.1 then -1 else 1
theorem cfP_swo : SWO (ltOf cfP) where
  irrefl x := by unfold ltOf cfP; simp
  trans x y z h1 h2 := by
    unfold ltOf cfP at *
    simp only [decide_eq_true_eq] at *
    split at h1
    · split at h2
      · rw [if_pos (by omega)]; decide
      · exact absurd h2 (by decide)
    · exact absurd h1 (by decide)
  ntrans x y z h1 h2 := by
    unfold ltOf cfP at *
    simp only [decide_eq_false_iff_not] at *
    split at h1
    · exact absurd (by decide) h1
    · split at h2
      · exact absurd (by decide) h2
      · rw [if_neg (by omega)]; decide
theorem heapK_sorted {w : World} {g n : Nat} {os : Array Obj} {cur : Array Value} {e : TypeId} {fr : Nat × Nat} (d : Array Pl) (hb : w.heap[g]? = some (.cells cur e fr)) :
    (sortWorldK enP 2 w g 0 n d os).heap[g]? = some (.cells (putCells id 0 (flatK enP 2 d) cur) e fr) := by
  have hg : g < w.heap.size := (Array.getElem?_eq_some_iff.1 hb).1
  unfold sortWorldK putRowK
  rw [heap_grow_old _ _ (by simpa using hg)]
  simp [putRow, mapBlock, Sort.ahead, Array.getElem?_modify, hb, onCells]
theorem grownByK_sorted {w : World} {g n : Nat} {os : Array Obj} (d : Array Pl) : w.grownBy (sortWorldK enP 2 w g 0 n d os) (some g) := by
  unfold sortWorldK putRowK
  refine ⟨rfl, rfl, rfl, by simp, fun k hk hne => ?_⟩
  rw [heap_grow_old _ _ (by simpa using hk)]
  have : g ≠ k := fun e => hne (by rw [e])
  simp [putRow, mapBlock, Sort.ahead, Array.getElem?_modify, this]
set_option maxHeartbeats 2000000 in
/-- slices.SortFunc, of a row of places. -/
theorem sort_pl (g d : Nat) (ls : List Pl) (w : World) (h : PlO 0 w (some ⟨g, 0, none⟩) d ls) (hlen : ls.length ≤ 1000000) :
    Calls Try.prog 36 #[.slice (some ⟨g, 0, none⟩) ls.length d, .func (.func 37) #[] #[]] w fun e w' =>
      e = .returned (.tuple #[]) ∧ ∃ l' : List Pl, l'.Perm ls ∧ l'.Pairwise (fun a b => a.1 ≤ b.1) ∧ PlO 0 w' (some ⟨g, 0, none⟩) d l' ∧ w.grownBy w' (some g) := by
  obtain ⟨cur, hr, hb, h1, h2, h3, h4⟩ := h.open_
  have hc : CmpLays Try.prog 37 #[] enP 2 cfP g 0 ls.toArray.size w := fun m os dk hs x y => closure_pl x y _
  have hcon := AnyQ.slices_SortFunc Try.sortK 2 Try.isAgg38 Try.sizeOf38 enP enP_len enP_one cfP cfP_swo 37 #[] g 0 d ls.toArray w (enters_of Try.func37 (by kernel_rfl) rfl) hc (holds_pl h) hr.lt (by simp; omega)
  rw [show ls.toArray.size = ls.length by simp] at hcon
  change Calls Try.prog 36 _ _ _ at hcon
  refine hcon.mono ?_
  rintro e w' ⟨he, d', n, os, ⟨hsz, -, hp⟩, hs, rfl⟩
  have hsz' : d'.size = ls.length := by simpa using hsz
  have e1 : d'.extract 0 ls.length = d' := by rw [← hsz']; exact Array.extract_size
  have e2 : ls.toArray.extract 0 ls.length = ls.toArray := by simp
  rw [e1, e2] at hp
  have hp2 : d'.toList.Perm ls := by simpa using hp
  refine ⟨he, d'.toList, hp2, ?_, ?_, grownByK_sorted d'⟩
  · refine List.pairwise_iff_getElem.2 fun i j hi hj hij => ?_
    have hi' : i < d'.size := by simpa using hi
    have hj' : j < d'.size := by simpa using hj
    have := hs i j (Nat.zero_le _) hij (by omega)
    rw [getElem!_pos d' i hi', getElem!_pos d' j hj'] at this
    unfold ltOf cfP at this
    simp only [decide_eq_false_iff_not] at this
    simp only [Array.getElem_toList]
    split at this
    · exact absurd (by decide) this
    · omega
  · have hlen' : d'.toList.length = ls.length := by simpa using hsz'
    have hr2 := heapK_sorted (n := n) (os := os) d' hr
    refine RkO.make enP_len (cur := putCells id 0 (flatK enP 2 d') cur) hr2 hb (by rw [hlen']; exact h1) h2 (by simp [putCells]; exact h3) fun j hj => ?_
    rw [hlen'] at hj
    rw [flat_at (ls := d'.toList) (by rw [hlen']; exact hj)]
    have hjc : j < cur.size := by omega
    simp [putCells, hjc]
    intro hx
    exact absurd hj (by have : (flatK enP 2 d').size = d'.size * 2 := by simp
                        omega)
end Go.Proofs.Ytaikjobebbighaa
