/- Slots: Ask of a name that has a pool: the errors. -/
import Derived.Test.YtaikjobebbighaaSlY
namespace Go.Proofs.Ytaikjobebbighaa
set_option linter.unusedVariables false
set_option maxRecDepth 100000
open Go.RowKit
set_option maxHeartbeats 8000000 in
theorem ask_arg (g b : Nat) (st : Bk) (ys : List Wh) (k : Key) (s : Pst) (y : Wh) (x1 x2 : Int) (w : World) (h : BkAt w g b st ys) (hg : bkGet st ys k = some (s, y)) (hk : k.length ≤ 1000000) (ho : PoolOk s.size s.h s.l) (hx : x1 = 0 ∨ x2 < 1 ∨ s.size < x2) :
    Calls Try.prog 12 #[.pointer (some ⟨g, 0, none⟩), nm k, .agg #[.int .u64 x1, .int .i64 x2]] w fun e w' => e = .returned (.tuple #[.bool false, .int .i64 2]) ∧ Below w.heap.size w w' := by
  obtain ⟨W1, hW1⟩ : ∃ W1, w.alloc (.cells #[.int .u64 x1, .int .i64 x2] 38) = W1 := ⟨_, rfl⟩
  obtain ⟨N, hN⟩ : ∃ N, w.heap.size = N := ⟨_, rfl⟩
  have hb1 : Below w.heap.size w W1 := by rw [← hW1]; exact (Below.refl _ w).alloc (Nat.le_refl _) _
  have hx0 : Row W1 N 38 #[.int .u64 x1, .int .i64 x2] := by rw [← hW1, ← hN]; exact Row.new w _ _
  have h1 := h.over hb1
  obtain ⟨es, hm, hd⟩ := h1.map
  obtain ⟨c, c', r1, r2, r3, r4⟩ := hd.pool hg
  have cb := h1.row.cell 0
  simp at cb
  have hl := h1.look k hk
  rw [hg] at hl
  have hl2 : (Instr.lookup 72 (.map (some b)) (nm k) false).run Try.prog W1 = .ok (.pointer (some ⟨y.p, 0, none⟩)) W1 := hl
  obtain ⟨T, F, hT, hF, hG⟩ := class_of (fun v => Below W1.heap.size W1 v) W1.drew (Below.refl _ _).drew
  have f0 : ∀ n, (F n).cell? ⟨y.p, 0, none⟩ = some (.int .i64 s.size) := fun n => ((r1.over (hF n)).cell 0).trans rfl
  have f1 : ∀ n, (F n).cell? ⟨N, 0, none⟩ = some (.int .u64 x1) := fun n => ((hx0.over (hF n)).cell 0).trans rfl
  have f2 : ∀ n, (F n).cell? ⟨N, 1, none⟩ = some (.int .i64 x2) := fun n => ((hx0.over (hF n)).cell 1).trans rfl
  have HF := Lib.hid hF
  have HG := Lib.hid hG
  have HB := Lib.hid (show Below N w W1 by rw [← hN]; exact hb1)
  have hNs : N < W1.heap.size := hx0.lt
  clear hF hG hl h h1 hd hm r1 r2 r3 r4 hx0 hb1
  by_cases hx1 : x1 = 0
  · subst hx1
    go_enter Try.func12, Try.ntmps12
    go_upto_region 6 with fail
    try rw [hW1]
    try rw [hN]
    refine wp_region_class F (by kernel_rfl) (by kernel_rfl) (HG.out _ (Below.refl _ _).drew) ?_
    repeat (go_big_quiet_step (fail))
    refine wpQuiet_nil ?_
    rintro _ ⟨nq, rfl⟩
    go_wp2_with fail
    go_ret2
    first | exact ⟨rfl, HB.out.trans ((HF.out nq).mono (Nat.le_of_lt hNs))⟩ | (rw [hN]; exact ⟨rfl, HB.out.trans ((HF.out nq).mono (Nat.le_of_lt hNs))⟩)
  · have d1 : (x1 == 0) = false := by simpa using hx1
    by_cases hx2 : x2 < 1
    · go_enter Try.func12, Try.ntmps12
      go_upto_region 6 with fail
      try rw [hW1]
      try rw [hN]
      refine wp_region_class F (by kernel_rfl) (by kernel_rfl) (HG.out _ (Below.refl _ _).drew) ?_
      repeat (go_big_quiet_step (fail))
      refine wpQuiet_nil ?_
      rintro _ ⟨nq, rfl⟩
      go_wp2_with fail
      go_ret2
      first | exact ⟨rfl, HB.out.trans ((HF.out nq).mono (Nat.le_of_lt hNs))⟩ | (rw [hN]; exact ⟨rfl, HB.out.trans ((HF.out nq).mono (Nat.le_of_lt hNs))⟩)
    · have d2 : decide (x2 < 1) = false := decide_eq_false hx2
      have hx3 : s.size < x2 := by omega
      go_enter Try.func12, Try.ntmps12
      go_upto_region 6 with fail
      try rw [hW1]
      try rw [hN]
      refine wp_region_class F (by kernel_rfl) (by kernel_rfl) (HG.out _ (Below.refl _ _).drew) ?_
      repeat (go_big_quiet_step (fail))
      refine wpQuiet_nil ?_
      rintro _ ⟨nq, rfl⟩
      go_wp2_with fail
      go_ret2
      first | exact ⟨rfl, HB.out.trans ((HF.out nq).mono (Nat.le_of_lt hNs))⟩ | (rw [hN]; exact ⟨rfl, HB.out.trans ((HF.out nq).mono (Nat.le_of_lt hNs))⟩)
set_option maxHeartbeats 8000000 in
theorem ask_twice (g b : Nat) (st : Bk) (ys : List Wh) (k : Key) (s : Pst) (y : Wh) (x1 x2 : Int) (w : World) (h : BkAt w g b st ys) (hg : bkGet st ys k = some (s, y)) (hk : k.length ≤ 1000000) (ho : PoolOk s.size s.h s.l) (hx1 : ¬ x1 = 0) (hx2 : ¬ x2 < 1) (hx3 : ¬ s.size < x2) (hp : 0 ≤ placeV s.h x1 ∨ 0 ≤ placeV s.l x1) :
    Calls Try.prog 12 #[.pointer (some ⟨g, 0, none⟩), nm k, .agg #[.int .u64 x1, .int .i64 x2]] w fun e w' => e = .returned (.tuple #[.bool false, .int .i64 130]) ∧ Below w.heap.size w w' := by
  obtain ⟨W1, hW1⟩ : ∃ W1, w.alloc (.cells #[.int .u64 x1, .int .i64 x2] 38) = W1 := ⟨_, rfl⟩
  obtain ⟨N, hN⟩ : ∃ N, w.heap.size = N := ⟨_, rfl⟩
  have hb1 : Below w.heap.size w W1 := by rw [← hW1]; exact (Below.refl _ w).alloc (Nat.le_refl _) _
  have hx0 : Row W1 N 38 #[.int .u64 x1, .int .i64 x2] := by rw [← hW1, ← hN]; exact Row.new w _ _
  have h1 := h.over hb1
  obtain ⟨es, hm, hd⟩ := h1.map
  obtain ⟨c, c', r1, r2, r3, r4⟩ := hd.pool hg
  have cb := h1.row.cell 0
  simp at cb
  have hl := h1.look k hk
  rw [hg] at hl
  have hl2 : (Instr.lookup 72 (.map (some b)) (nm k) false).run Try.prog W1 = .ok (.pointer (some ⟨y.p, 0, none⟩)) W1 := hl
  obtain ⟨T, F, hT, hF, hG⟩ := class_of (fun v => Below W1.heap.size W1 v) W1.drew (Below.refl _ _).drew
  have f0 : ∀ n, (F n).cell? ⟨y.p, 0, none⟩ = some (.int .i64 s.size) := fun n => ((r1.over (hF n)).cell 0).trans rfl
  have f1 : ∀ n, (F n).cell? ⟨N, 0, none⟩ = some (.int .u64 x1) := fun n => ((hx0.over (hF n)).cell 0).trans rfl
  have f2 : ∀ n, (F n).cell? ⟨N, 1, none⟩ = some (.int .i64 x2) := fun n => ((hx0.over (hF n)).cell 1).trans rfl
  have f3 : ∀ n, (F n).cell? ⟨y.p, 1, none⟩ = some (.slice y.A s.h.length c) := fun n => ((r1.over (hF n)).cell 1).trans rfl
  have f4 : ∀ n, (F n).cell? ⟨y.p, 2, none⟩ = some (.slice y.A' s.l.length c') := fun n => ((r1.over (hF n)).cell 2).trans rfl
  have hfw := ho.few
  have P1 := Lib.hid (fun n => (place_val y.A c s.h x1 (F n) ((RkO.rks enP_len r2).over (hF n)) (by omega)).mono (R' := fun e w' => e = .returned (.int .i64 (placeV s.h x1)) ∧ ∃ m, w' = F m) fun e w' hh => ⟨hh.1, hG _ (nextC (hF n) hh.2)⟩)
  have P2 := Lib.hid (fun n => (place_val y.A' c' s.l x1 (F n) ((RkO.rks enP_len r3).over (hF n)) (by omega)).mono (R' := fun e w' => e = .returned (.int .i64 (placeV s.l x1)) ∧ ∃ m, w' = F m) fun e w' hh => ⟨hh.1, hG _ (nextC (hF n) hh.2)⟩)
  have HF := Lib.hid hF
  have HG := Lib.hid hG
  have HB := Lib.hid (show Below N w W1 by rw [← hN]; exact hb1)
  have hNs : N < W1.heap.size := hx0.lt
  clear hF hG hl h h1 hd hm r1 r2 r3 r4 hx0 hb1
  have d1 : (x1 == 0) = false := by simpa using hx1
  have d2 : decide (x2 < 1) = false := decide_eq_false hx2
  have d3 : decide (s.size < x2) = false := decide_eq_false hx3
  generalize placeV s.h x1 = i at *
  generalize placeV s.l x1 = j at *
  by_cases hi : 0 ≤ i
  · go_enter Try.func12, Try.ntmps12
    go_upto_region 6 with fail
    try rw [hW1]
    try rw [hN]
    refine wp_region_class F (by kernel_rfl) (by kernel_rfl) (HG.out _ (Below.refl _ _).drew) ?_
    repeat (go_big_quiet_step (fail))
    refine wpQuiet_nil ?_
    rintro _ ⟨nq, rfl⟩
    have sq := HG.out (F nq).drew (HF.out nq).drew
    go_upto_region 8 with fail
    refine wp_region_class F (by kernel_rfl) (by kernel_rfl) sq ?_
    repeat (go_big_quiet_step (first | (go_at_call 28; exact P1.out _) | (go_at_call 28; exact P2.out _)))
    refine wpQuiet_nil ?_
    rintro _ ⟨nr, rfl⟩
    go_wp2_with fail
    go_ret2
    first | exact ⟨rfl, HB.out.trans ((HF.out nr).mono (Nat.le_of_lt hNs))⟩ | (rw [hN]; exact ⟨rfl, HB.out.trans ((HF.out nr).mono (Nat.le_of_lt hNs))⟩)
  · have d4 : decide (0 ≤ i) = false := decide_eq_false hi
    have hj : 0 ≤ j := by omega
    go_enter Try.func12, Try.ntmps12
    go_upto_region 6 with fail
    try rw [hW1]
    try rw [hN]
    refine wp_region_class F (by kernel_rfl) (by kernel_rfl) (HG.out _ (Below.refl _ _).drew) ?_
    repeat (go_big_quiet_step (fail))
    refine wpQuiet_nil ?_
    rintro _ ⟨nq, rfl⟩
    have sq := HG.out (F nq).drew (HF.out nq).drew
    go_upto_region 8 with fail
    refine wp_region_class F (by kernel_rfl) (by kernel_rfl) sq ?_
    repeat (go_big_quiet_step (first | (go_at_call 28; exact P1.out _) | (go_at_call 28; exact P2.out _)))
    refine wpQuiet_nil ?_
    rintro _ ⟨nr, rfl⟩
    go_wp2_with fail
    go_ret2
    first | exact ⟨rfl, HB.out.trans ((HF.out nr).mono (Nat.le_of_lt hNs))⟩ | (rw [hN]; exact ⟨rfl, HB.out.trans ((HF.out nr).mono (Nat.le_of_lt hNs))⟩)
set_option maxHeartbeats 8000000 in
theorem ask_full (g b : Nat) (st : Bk) (ys : List Wh) (k : Key) (s : Pst) (y : Wh) (x1 x2 : Int) (w : World) (h : BkAt w g b st ys) (hg : bkGet st ys k = some (s, y)) (hk : k.length ≤ 1000000) (ho : PoolOk s.size s.h s.l) (hx1 : ¬ x1 = 0) (hx2 : ¬ x2 < 1) (hx3 : ¬ s.size < x2) (hp : ¬ (0 ≤ placeV s.h x1 ∨ 0 ≤ placeV s.l x1)) (hf : 1024 ≤ s.l.length) :
    Calls Try.prog 12 #[.pointer (some ⟨g, 0, none⟩), nm k, .agg #[.int .u64 x1, .int .i64 x2]] w fun e w' => e = .returned (.tuple #[.bool false, .int .i64 6]) ∧ Below w.heap.size w w' := by
  obtain ⟨W1, hW1⟩ : ∃ W1, w.alloc (.cells #[.int .u64 x1, .int .i64 x2] 38) = W1 := ⟨_, rfl⟩
  obtain ⟨N, hN⟩ : ∃ N, w.heap.size = N := ⟨_, rfl⟩
  have hb1 : Below w.heap.size w W1 := by rw [← hW1]; exact (Below.refl _ w).alloc (Nat.le_refl _) _
  have hx0 : Row W1 N 38 #[.int .u64 x1, .int .i64 x2] := by rw [← hW1, ← hN]; exact Row.new w _ _
  have h1 := h.over hb1
  obtain ⟨es, hm, hd⟩ := h1.map
  obtain ⟨c, c', r1, r2, r3, r4⟩ := hd.pool hg
  have cb := h1.row.cell 0
  simp at cb
  have hl := h1.look k hk
  rw [hg] at hl
  have hl2 : (Instr.lookup 72 (.map (some b)) (nm k) false).run Try.prog W1 = .ok (.pointer (some ⟨y.p, 0, none⟩)) W1 := hl
  obtain ⟨T, F, hT, hF, hG⟩ := class_of (fun v => Below W1.heap.size W1 v) W1.drew (Below.refl _ _).drew
  have f0 : ∀ n, (F n).cell? ⟨y.p, 0, none⟩ = some (.int .i64 s.size) := fun n => ((r1.over (hF n)).cell 0).trans rfl
  have f1 : ∀ n, (F n).cell? ⟨N, 0, none⟩ = some (.int .u64 x1) := fun n => ((hx0.over (hF n)).cell 0).trans rfl
  have f2 : ∀ n, (F n).cell? ⟨N, 1, none⟩ = some (.int .i64 x2) := fun n => ((hx0.over (hF n)).cell 1).trans rfl
  have f3 : ∀ n, (F n).cell? ⟨y.p, 1, none⟩ = some (.slice y.A s.h.length c) := fun n => ((r1.over (hF n)).cell 1).trans rfl
  have f4 : ∀ n, (F n).cell? ⟨y.p, 2, none⟩ = some (.slice y.A' s.l.length c') := fun n => ((r1.over (hF n)).cell 2).trans rfl
  have hfw := ho.few
  have P1 := Lib.hid (fun n => (place_val y.A c s.h x1 (F n) ((RkO.rks enP_len r2).over (hF n)) (by omega)).mono (R' := fun e w' => e = .returned (.int .i64 (placeV s.h x1)) ∧ ∃ m, w' = F m) fun e w' hh => ⟨hh.1, hG _ (nextC (hF n) hh.2)⟩)
  have P2 := Lib.hid (fun n => (place_val y.A' c' s.l x1 (F n) ((RkO.rks enP_len r3).over (hF n)) (by omega)).mono (R' := fun e w' => e = .returned (.int .i64 (placeV s.l x1)) ∧ ∃ m, w' = F m) fun e w' hh => ⟨hh.1, hG _ (nextC (hF n) hh.2)⟩)
  have HF := Lib.hid hF
  have HG := Lib.hid hG
  have HB := Lib.hid (show Below N w W1 by rw [← hN]; exact hb1)
  have hNs : N < W1.heap.size := hx0.lt
  clear hF hG hl h h1 hd hm r1 r2 r3 r4 hx0 hb1
  have d1 : (x1 == 0) = false := by simpa using hx1
  have d2 : decide (x2 < 1) = false := decide_eq_false hx2
  have d3 : decide (s.size < x2) = false := decide_eq_false hx3
  generalize placeV s.h x1 = i at *
  generalize placeV s.l x1 = j at *
  have d4 : decide (0 ≤ i) = false := decide_eq_false (by omega)
  have d5 : decide (0 ≤ j) = false := decide_eq_false (by omega)
  have d6 : (1024 : Int) ≤ (s.l.length : Int) := by omega
  go_enter Try.func12, Try.ntmps12
  go_upto_region 6 with fail
  try rw [hW1]
  try rw [hN]
  refine wp_region_class F (by kernel_rfl) (by kernel_rfl) (HG.out _ (Below.refl _ _).drew) ?_
  repeat (go_big_quiet_step (fail))
  refine wpQuiet_nil ?_
  rintro _ ⟨nq, rfl⟩
  have sq := HG.out (F nq).drew (HF.out nq).drew
  go_upto_region 8 with fail
  refine wp_region_class F (by kernel_rfl) (by kernel_rfl) sq ?_
  repeat (go_big_quiet_step (first | (go_at_call 28; exact P1.out _) | (go_at_call 28; exact P2.out _)))
  refine wpQuiet_nil ?_
  rintro _ ⟨nr, rfl⟩
  go_wp2_with fail
  go_ret2
  first | exact ⟨rfl, HB.out.trans ((HF.out nr).mono (Nat.le_of_lt hNs))⟩ | (rw [hN]; exact ⟨rfl, HB.out.trans ((HF.out nr).mono (Nat.le_of_lt hNs))⟩)
end Go.Proofs.Ytaikjobebbighaa
