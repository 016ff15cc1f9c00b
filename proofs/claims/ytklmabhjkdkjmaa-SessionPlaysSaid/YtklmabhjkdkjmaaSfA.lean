/- slices.SortFunc at []uint64, of a row of the call's own, by a rank that a closure reads. -/
import Derived.Test.YtklmabhjkdkjmaaApp
import Derived.Test.YtklmabhjkdkjmaaSortL
import Derived.Shelf.SlSortCmp.Whole1
namespace Go.Proofs.Ytklmabhjkdkjmaa
set_option linter.unusedVariables false
open Go.RowKit Go.Sort
/-- A number of 64 bits. -/
abbrev U64 := {x : Int // (Lit.int .u64 x).wf = true}
instance : Inhabited U64 := ⟨⟨0, by decide⟩⟩
def encS (x : U64) : Value := .int .u64 x.1
theorem u64_list : ∀ (l : List Int), (∀ x ∈ l, (Lit.int .u64 x).wf = true) → ∃ ls : List U64, ls.map (·.1) = l
  | [], _ => ⟨[], rfl⟩
  | x :: l, h => by
    obtain ⟨ls, hls⟩ := u64_list l fun y hy => h y (by simp [hy])
    exact ⟨⟨x, h x (by simp)⟩ :: ls, by simp [hls]⟩
theorem holdsS_of_block {w : World} {g : Nat} {cur : Array Value} {e : TypeId} {ss : List U64} (hb : w.heap[g]? = some (.cells cur e (0, 0))) (ht : cur.toList.take ss.length = ss.map encS) : Holds encS w g 0 ss.toArray := by
  intro j hj
  have hj' : j < ss.length := by simpa using hj
  refine ⟨?_, by simp [World.frozen?, hb]⟩
  have h1 : (cur.toList.take ss.length)[j]? = (ss.map encS)[j]? := by rw [ht]
  rw [List.getElem?_take_of_lt hj'] at h1
  simp only [World.cell?, hb, Nat.zero_add]
  simp only [Option.isSome_none, Bool.false_eq_true, if_false]
  rw [← Array.getElem?_toList, h1]
  simp [hj']
theorem heapS_sorted {w : World} {g n : Nat} {os : Array Obj} {cur : Array Value} {e : TypeId} {fr : Nat × Nat} (d : Array U64) (hb : w.heap[g]? = some (.cells cur e fr)) :
    (grow (putRow encS (Sort.ahead w n) g 0 d) os).heap[g]? = some (.cells (putCells encS 0 d cur) e fr) := by
  have hg : g < w.heap.size := (Array.getElem?_eq_some_iff.1 hb).1
  rw [heap_grow_old _ _ (by simpa using hg)]
  simp [putRow, mapBlock, Sort.ahead, Array.getElem?_modify, hb, onCells]
theorem grownByS_sorted {w : World} {g n : Nat} {os : Array Obj} (d : Array U64) : w.grownBy (grow (putRow encS (Sort.ahead w n) g 0 d) os) (some g) := by
  refine ⟨rfl, rfl, rfl, by simp, fun k hk hne => ?_⟩
  rw [heap_grow_old _ _ (by simpa using hk)]
  have : g ≠ k := fun e => hne (by rw [e])
  simp [putRow, mapBlock, Sort.ahead, Array.getElem?_modify, this]
theorem takeS_putCells (cur : Array Value) (ts : List U64) (h : ts.length ≤ cur.size) : (putCells encS 0 ts.toArray cur).toList.take ts.length = ts.map encS := by
  apply List.ext_getElem?
  intro j
  by_cases hj : j < ts.length
  · rw [List.getElem?_take_of_lt hj, Array.getElem?_toList]
    simp [putCells, hj, show j < cur.size by omega]
  · rw [List.getElem?_take_eq_none (by omega), List.getElem?_eq_none (by simp; omega)]
/-- The order of ranks. -/
def rankC (rank : Int → Int) (x y : U64) : Int := rank x.1 - rank y.1
theorem rank_swo (rank : Int → Int) : SWO (ltOf (rankC rank)) where
  irrefl x := by unfold ltOf rankC; simp
  trans x y z h1 h2 := by unfold ltOf rankC at *; simp at *; omega
  ntrans x y z h1 h2 := by unfold ltOf rankC at *; simp at *; omega
set_option maxRecDepth 100000 in
set_option maxHeartbeats 1000000 in
theorem sortFunc_some (base g cap : Nat) (ls : List U64) (f : Nat) (cb : Array Value) (eg : ∀ args w, (callFunc f args).run Try.prog w = .ok (.enter f args) w) (rank : Int → Int) (w : World) (cur : Array Value) (hbase : base ≤ g) (hb : w.heap[g]? = some (.cells cur 28 (0, 0))) (h1 : ls.length ≤ cap) (h2 : cap ≤ maxLen) (h3 : cur.size = cap * 1) (h4 : cur.toList.take ls.length = ls.map encS)
    (hlen : ls.length ≤ 1000000) (hcmp : ∀ W, w.grownBy W (some g) → ∀ x y : U64, Calls Try.prog f (#[.int .u64 x.1, .int .u64 y.1] ++ cb) W fun e w' => e = .returned (.int .i64 (rank x.1 - rank y.1)) ∧ ∃ q, w' = W.drewN q) :
    Calls Try.prog 26 #[.slice (some ⟨g, 0, none⟩) ls.length cap, .func (.func f) #[] cb] w fun e w' =>
      e = .returned (.tuple #[]) ∧ ∃ l' : List Int, l'.Perm (ls.map (·.1)) ∧ l'.Pairwise (fun a b => rank a ≤ rank b) ∧ w'.ownsRow base 28 1 (.slice (some ⟨g, 0, none⟩) ls.length cap) ls.length (l'.map (.int .u64)) ∧ w.grownBy w' (some g) := by
  have hH := holdsS_of_block hb h4
  have hc : CmpLays1 Try.prog f cb encS (rankC rank) g 0 ls.toArray.size w := CmpReads.lays fun m os dk hs x y => hcmp _ (grownByS_sorted dk) x y
  have hcon := Any.slices_SortFunc Try.sortK encS (fun _ => rfl) (rankC rank) (rank_swo rank) f cb g 0 cap ls.toArray w eg hc hH (Array.getElem?_eq_some_iff.1 hb).1 (by simp; omega)
  rw [show ls.toArray.size = ls.length by simp] at hcon
  change Calls Try.prog 26 _ _ _ at hcon
  refine hcon.mono ?_
  rintro e w' ⟨he, d', n, os, ⟨hsz, -, hp⟩, hs, rfl⟩
  have hsz' : d'.size = ls.length := by simpa using hsz
  have e1 : d'.extract 0 ls.length = d' := by rw [← hsz']; exact Array.extract_size
  have e2 : ls.toArray.extract 0 ls.length = ls.toArray := by simp
  rw [e1, e2] at hp
  refine ⟨he, d'.toList.map (·.1), hp.map _, ?_, ?_, grownByS_sorted d'⟩
  · rw [List.pairwise_map]
    refine List.pairwise_iff_getElem.2 fun i j hi hj hij => ?_
    have hi' : i < d'.size := by simpa using hi
    have hj' : j < d'.size := by simpa using hj
    have := hs i j (Nat.zero_le _) hij (by omega)
    unfold ltOf rankC at this
    simp [hi', hj'] at this
    simp
    omega
  · refine ⟨by simp [hsz'], .inr ⟨g, cap, _, rfl, hbase, heapS_sorted _ hb, h1, h2, by simp [putCells, h3], ?_⟩⟩
    have := takeS_putCells cur d'.toList (by rw [Array.length_toList, hsz']; omega)
    rw [Array.length_toList, hsz'] at this
    rw [Nat.mul_one]
    simpa [encS] using this
end Go.Proofs.Ytklmabhjkdkjmaa
