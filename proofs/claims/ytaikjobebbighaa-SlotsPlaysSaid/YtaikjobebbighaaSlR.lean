/- Slots: Free of a name that has a pool: the places looked for. A token that is not there. -/
import Derived.Test.YtaikjobebbighaaSlQ
namespace Go.Proofs.Ytaikjobebbighaa
set_option linter.unusedVariables false
set_option maxRecDepth 100000
open Go.RowKit
set_option maxHeartbeats 4000000 in
theorem free_none (g b : Nat) (st : Bk) (ys : List Wh) (k : Key) (s : Pst) (y : Wh) (t : Int) (w : World) (h : BkAt w g b st ys) (hg : bkGet st ys k = some (s, y)) (hk : k.length ≤ 1000000) (ho : PoolOk s.size s.h s.l) (h1 : placeV s.h t < 0) (h2 : placeV s.l t < 0) :
    Calls Try.prog 13 #[.pointer (some ⟨g, 0, none⟩), nm k, .int .u64 t] w fun e w' => e = .returned (.tuple #[.slice none 0 0, .int .i64 5]) ∧ Below w.heap.size w w' := by
  obtain ⟨es, hm, hd⟩ := h.map
  obtain ⟨c, c', r1, r2, r3, r4⟩ := hd.pool hg
  have cb := h.row.cell 0
  simp at cb
  have hl := h.look k hk
  rw [hg] at hl
  have hl2 : (Instr.lookup 72 (.map (some b)) (nm k) false).run Try.prog w = .ok (.pointer (some ⟨y.p, 0, none⟩)) w := hl
  have hfw := ho.few
  obtain ⟨T, F, hT, hF, hG⟩ := class_of (fun v => Below w.heap.size w v) w.drew (Below.refl _ _).drew
  have f1 : ∀ n, (F n).cell? ⟨y.p, 1, none⟩ = some (.slice y.A s.h.length c) := fun n => ((r1.over (hF n)).cell 1).trans rfl
  have f2 : ∀ n, (F n).cell? ⟨y.p, 2, none⟩ = some (.slice y.A' s.l.length c') := fun n => ((r1.over (hF n)).cell 2).trans rfl
  have P1 := Lib.hid (fun n => (place_val y.A c s.h t (F n) ((RkO.rks enP_len r2).over (hF n)) (by omega)).mono (R' := fun e w' => e = .returned (.int .i64 (placeV s.h t)) ∧ ∃ m, w' = F m) fun e w' hh => ⟨hh.1, hG _ (nextC (hF n) hh.2)⟩)
  have P2 := Lib.hid (fun n => (place_val y.A' c' s.l t (F n) ((RkO.rks enP_len r3).over (hF n)) (by omega)).mono (R' := fun e w' => e = .returned (.int .i64 (placeV s.l t)) ∧ ∃ m, w' = F m) fun e w' hh => ⟨hh.1, hG _ (nextC (hF n) hh.2)⟩)
  have HF := Lib.hid hF
  have HG := Lib.hid hG
  clear hF hG hl h hd hm r1 r2 r3 r4
  generalize placeV s.h t = i at *
  generalize placeV s.l t = j at *
  have d1 : decide (0 ≤ i) = false := decide_eq_false (by omega)
  have d2 : decide (0 ≤ j) = false := decide_eq_false (by omega)
  go_enter Try.func13, Try.ntmps13
  go_upto_region 6 with fail
  refine wp_region_class F (by kernel_rfl) (by kernel_rfl) (HG.out _ (Below.refl _ _).drew) ?_
  repeat (go_big_quiet_step (first | (go_at_call 28; exact P1.out _) | (go_at_call 28; exact P2.out _)))
  refine wpQuiet_nil ?_
  rintro _ ⟨nq, rfl⟩
  go_wp2_with fail
  go_ret2
  exact ⟨rfl, HF.out nq⟩
end Go.Proofs.Ytaikjobebbighaa
