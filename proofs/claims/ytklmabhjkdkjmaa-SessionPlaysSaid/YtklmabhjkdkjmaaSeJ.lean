/- Contracts: Copy; a clerk that is not there, or that New did not make. -/
import Derived.Test.YtklmabhjkdkjmaaSeD
import Derived.Shelf.SlMaps.Clone
import Derived.Deep.RegionHeldLaw
namespace Go.Proofs.Ytklmabhjkdkjmaa
set_option linter.unusedVariables false
open Go.RowKit
theorem eql_map (b : Nat) (W : World) : (binOp .eql 46 (.map (some b)) (.map none)).run Try.prog W = .ok (.bool false) W := rfl
set_option maxHeartbeats 1000000 in
theorem clone_any (b : Nat) (es : Array MapEntry) (clock : Nat) (w : World) (hb : w.heap[b]? = some (.map es clock)) :
    Calls Try.prog 19 #[.map (some b)] w fun e w' => e = .returned (.map (some w.heap.size)) ∧ w' = w.alloc (.map es clock) := by
  have hq := eql_map b
  go_enter Try.func19, Try.ntmps19
  go_wp2
  rw [run_callFunc_extern Try.func24 (by kernel_rfl) (by kernel_rfl) (by kernel_rfl) (e := Extern.MapsClone.clone) (by kernel_rfl), run_maps_clone_sl w 46 hb]
  simp only [Result.andThen]
  rw [Oper.upon_value]
  go_wp2
  rw [run_typeAssert_map_sl _ 46 20 _ _ _ Try.underlying46]
  simp only [Result.andThen]
  rw [Oper.upon_value]
  go_wp2
  go_ret
  exact ⟨rfl, rfl⟩
set_option maxHeartbeats 1000000 in
set_option maxRecDepth 100000 in
theorem copy_any (g b m : Nat) (L : List Tk) (w : World) (h : ClAt w g b m L) :
    Calls Try.prog 12 #[.pointer (some ⟨g, 0, none⟩)] w fun e w' => ∃ g' b', w.heap.size ≤ g' ∧ w.heap.size ≤ b' ∧ e = .returned (.pointer (some ⟨g', 0, none⟩)) ∧ ClAt w' g' b' m L ∧ Below w.heap.size w w' := by
  obtain ⟨u, us, hr, hm, hu, hu0, hu1⟩ := h.w_.ex
  have C1 := Lib.hid (there_any g w _ b hr)
  obtain ⟨n, D, ⟨es, clock, hmb, hF⟩, hD⟩ := hm
  have hgl : (⟨g, 0, none⟩ : Addr).block < w.heap.size := hr.lt
  have hgl1 : (⟨g, 1, none⟩ : Addr).block < w.heap.size := hr.lt
  have c0 := hr.cell 0
  have c1 := hr.cell 1
  simp at c0 c1
  have C2 := Lib.hid (clone_any b es clock w.drew hmb)
  have SD := Lib.hid (show w.drew.cell? ⟨g, 0, none⟩ = some (.map (some b)) ∧ w.drew.cell? ⟨g, 1, none⟩ = some (.int .i64 u) from ⟨c0, c1⟩)
  have SA := Lib.hid (show (w.alloc (.map es clock)).drew.cell? ⟨g, 0, none⟩ = some (.map (some b)) ∧ (w.alloc (.map es clock)).drew.cell? ⟨g, 1, none⟩ = some (.int .i64 u) from
    ⟨(World.cell?_alloc_lt w _ ⟨g, 0, none⟩ hgl).trans c0, (World.cell?_alloc_lt w _ ⟨g, 1, none⟩ hgl1).trans c1⟩)
  have SB := Lib.hid (show ((w.alloc (.map es clock)).alloc (.cells #[.map (some w.heap.size), .int .i64 u] 48)).drew.cell? ⟨g, 0, none⟩ = some (.map (some b)) ∧ ((w.alloc (.map es clock)).alloc (.cells #[.map (some w.heap.size), .int .i64 u] 48)).drew.cell? ⟨g, 1, none⟩ = some (.int .i64 u) from
    ⟨(World.cell?_alloc_lt _ _ ⟨g, 0, none⟩ (by simp; exact Nat.lt_succ_of_lt hgl)).trans SA.out.1, (World.cell?_alloc_lt _ _ ⟨g, 1, none⟩ (by simp; exact Nat.lt_succ_of_lt hgl1)).trans SA.out.2⟩)
  have HH := Lib.hid h
  have HM := Lib.hid (And.intro hF hD)
  have HU := Lib.hid (And.intro hu (And.intro hu0 hu1))
  clear h hr hmb hF hD hu hu0 hu1
  go_enter Try.func12, Try.ntmps12
  go_wp2_with fail
  refine C1.out.mono ?_
  rintro e w1 ⟨rfl, rfl⟩
  go_upto_region 3 with fail
  go_region_held_law (fun v => v.cell? ⟨g, 0, none⟩ = some (.map (some b)) ∧ v.cell? ⟨g, 1, none⟩ = some (.int .i64 u))
    (first | with_reducible exact SD.out | with_reducible exact SA.out | with_reducible exact SB.out)
    (first | ((with_reducible refine C2.out.mono ?_); rintro e w2 ⟨rfl, rfl⟩))
  all_goals go_wp2_with fail
  all_goals go_ret
  all_goals
    refine ⟨w1.heap.size + 1, w1.heap.size, by omega, Nat.le_refl _, by simp, ⟨HH.out.good, HH.out.w_.once, HH.out.w_.len17, HH.out.w_.wf, u, us, ?_, ⟨n, D, ⟨es, clock, ?_, HM.out.1⟩, HM.out.2⟩, HU.out⟩, ?_⟩
    · have := Row.new (w1.alloc (.map es clock)) 48 #[.map (some w1.heap.size), .int .i64 u]
      simp at this
      exact this
    · exact (Below.heap_alloc _ _ _ (by simp)).trans (MapKept.heap_alloc w1 _).1
    · exact below_drewN (((Below.refl _ w1).alloc (Nat.le_refl _) (.map es clock)).alloc (by simp) (.cells #[.map (some w1.heap.size), .int .i64 u] 48)) 1
set_option maxHeartbeats 1000000 in
theorem ask_gone (p : Value) (c s : Int) (w : World) (h : ∀ W, Below w.heap.size w W → Calls Try.prog 18 #[p] W fun e w' => e = .returned (.bool false) ∧ w' = W) :
    Calls Try.prog 14 #[p, .int .u64 c, .int .u64 s] w fun e w' => e = .returned (.tuple #[.agg #[.int .i64 0, .int .u64 0], .bool false, .int .i64 1]) ∧ Below w.heap.size w w' := by
  obtain ⟨W1, hW1⟩ : ∃ W1, w.alloc (.cells #[.int .i64 0, .int .u64 0] 30) = W1 := ⟨_, rfl⟩
  have hb1 : Below w.heap.size w W1 := by rw [← hW1]; exact (Below.refl _ w).alloc (Nat.le_refl _) _
  have C1 := Lib.hid (h W1 hb1)
  have r1 : Row W1 w.heap.size 30 #[.int .i64 0, .int .u64 0] := by rw [← hW1]; exact Row.new w _ _
  have hz : W1.heap.size = w.heap.size + 1 := by rw [← hW1]; simp
  have k0 := r1.cell 0
  have k1 := r1.cell 1
  have kf0 := r1.free 0
  have kf1 := r1.free 1
  have HB := Lib.hid hb1
  simp at k0 k1
  have RC0 := Lib.hid (fun x y o => (reply_cells r1 x y o).1)
  have RC1 := Lib.hid (fun x y o => (reply_cells r1 x y o).2)
  clear r1 h hb1
  go_enter Try.func14, Try.ntmps14
  go_wp2_with fail
  refine C1.out.mono ?_
  rintro e w2 ⟨rfl, rfl⟩
  go_wp2_with fail
  refine bodyPost_ret ?h1 rfl ⟨rfl, ?h2⟩
  case h1 => simp [results, Try.results14, go_sem, RC0.out, RC1.out, k0, k1]
  case h2 => exact (HB.out.setCell (p := ⟨w.heap.size, 0, none⟩) (Nat.le_refl _) _).setCell (p := ⟨w.heap.size, 1, none⟩) (Nat.le_refl _) _
theorem tell_gone (p : Value) (c s e n : Int) (w : World) (h : ∀ W, Below w.heap.size w W → Calls Try.prog 18 #[p] W fun e w' => e = .returned (.bool false) ∧ w' = W) :
    Calls Try.prog 7 #[p, .int .u64 c, .int .u64 s, .agg #[.int .i64 e, .int .u64 n]] w fun ex w' => ex = .returned (.int .i64 1) ∧ Below w.heap.size w w' := by
  obtain ⟨W1, hW1⟩ : ∃ W1, w.alloc (.cells #[.int .i64 e, .int .u64 n] 30) = W1 := ⟨_, rfl⟩
  have hb1 : Below w.heap.size w W1 := by rw [← hW1]; exact (Below.refl _ w).alloc (Nat.le_refl _) _
  have C1 := Lib.hid (ask_gone p c s W1 (fun W hW => h W (nextC hb1 hW)))
  have HB := Lib.hid hb1
  clear h hb1
  go_enter Try.func7, Try.ntmps7
  go_wp2_with fail
  refine C1.out.mono ?_
  rintro ex w2 ⟨rfl, hb2⟩
  have K2 := Lib.hid (nextC HB.out hb2)
  clear hb2 C1 hW1
  go_wp2_with fail
  go_ret
  exact ⟨rfl, nextB K2.out⟩
theorem list_gone (p : Value) (w : World) (h : Calls Try.prog 18 #[p] w fun e w' => e = .returned (.bool false) ∧ w' = w) :
    Calls Try.prog 10 #[p] w fun e w' => e = .returned (.slice none 0 0) ∧ w' = w := by
  have C1 := Lib.hid h
  clear h
  go_enter Try.func10, Try.ntmps10
  go_wp2_with fail
  refine C1.out.mono ?_
  rintro ex w2 ⟨rfl, rfl⟩
  go_wp2_with fail
  go_ret
  exact ⟨rfl, rfl⟩
theorem copy_gone (p : Value) (w : World) (h : Calls Try.prog 18 #[p] w fun e w' => e = .returned (.bool false) ∧ w' = w) :
    Calls Try.prog 12 #[p] w fun e w' => e = .returned (.pointer none) ∧ w' = w := by
  have C1 := Lib.hid h
  clear h
  go_enter Try.func12, Try.ntmps12
  go_wp2_with fail
  refine C1.out.mono ?_
  rintro ex w2 ⟨rfl, rfl⟩
  go_wp2_with fail
  go_ret
  exact ⟨rfl, rfl⟩
end Go.Proofs.Ytklmabhjkdkjmaa
