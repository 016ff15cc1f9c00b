/- Slots: Free of a token that holds. -/
import Derived.Test.YtaikjobebbighaaSlU
namespace Go.Proofs.Ytaikjobebbighaa
set_option linter.unusedVariables false
set_option maxRecDepth 100000
open Go.RowKit
set_option maxHeartbeats 4000000 in
theorem free_hold (g b : Nat) (st : Bk) (ys : List Wh) (k : Key) (s : Pst) (y : Wh) (t : Int) (i : Nat) (w : World) (h : BkAt w g b st ys) (hg : bkGet st ys k = some (s, y)) (hk : k.length ≤ 1000000) (ho : PoolOk s.size s.h s.l) (h1 : placeV s.h t = i) (hi : i < s.h.length) :
    Calls Try.prog 13 #[.pointer (some ⟨g, 0, none⟩), nm k, .int .u64 t] w fun e w' => ∃ (B : Option Addr) (d : Nat) (ys' : List Wh), e = .returned (.tuple #[.slice B (servesF s.size (wo1 s.h i) s.l).2.2.length d, .int .i64 0]) ∧ Gave w w' g b ys' B d (servesF s.size (wo1 s.h i) s.l).2.2 ∧ Turn w w' g b ys (bkPut st k (serveP s.size (wo1 s.h i) s.l)) ys' := by
  obtain ⟨es, hm, hd⟩ := h.map
  have hpool := hd.pool hg
  obtain ⟨c, c', r1, r2, r3, r4⟩ := hpool
  obtain ⟨ga, hga, -, -, hgc⟩ : ∃ ga, y.A = some ⟨ga, 0, none⟩ ∧ 0 ≤ ga ∧ ga < w.heap.size ∧ s.h.length ≤ c := by
    rcases r2.form with ⟨-, -, e⟩ | h3
    · rw [e] at hi; simp at hi
    · exact h3
  have cb := h.row.cell 0
  simp at cb
  have hl := h.look k hk
  rw [hg] at hl
  have hl2 : (Instr.lookup 72 (.map (some b)) (nm k) false).run Try.prog w = .ok (.pointer (some ⟨y.p, 0, none⟩)) w := hl
  have hfw := ho.few
  obtain ⟨T, F, hT, hF, hG⟩ := class_of (fun v => Below w.heap.size w v) w.drew (Below.refl _ _).drew
  have f1 : ∀ n, (F n).cell? ⟨y.p, 1, none⟩ = some (.slice y.A s.h.length c) := fun n => ((r1.over (hF n)).cell 1).trans rfl
  have f2 : ∀ n, (F n).cell? ⟨y.p, 2, none⟩ = some (.slice y.A' s.l.length c') := fun n => ((r1.over (hF n)).cell 2).trans rfl
  have P1 := Lib.hid (fun n => (place_val y.A c s.h t (F n) ((RkO.rks enP_len r2).over (hF n)) (by omega)).mono (R' := fun e w' => e = .returned (.int .i64 (placeV s.h t)) ∧ ∃ m, w' = F m) fun e w' hh => ⟨hh.1, hG _ (nextC (hF n) hh.2)⟩)
  have P2 := Lib.hid (fun n => (place_val y.A' c' s.l t (F n) ((RkO.rks enP_len r3).over (hF n)) (by omega)).mono (R' := fun e w' => e = .returned (.int .i64 (placeV s.l t)) ∧ ∃ m, w' = F m) fun e w' hh => ⟨hh.1, hG _ (nextC (hF n) hh.2)⟩)
  have HF := Lib.hid hF
  have HG := Lib.hid hG
  rw [h1] at P1
  generalize placeV s.l t = j at *
  have hH := Lib.hid h
  have hi0 : (0 : Int) ≤ (i : Int) := by omega
  have HA := Lib.hid hga
  have R1 := Lib.hid r1
  have R2 := Lib.hid r2
  have R3 := Lib.hid r3
  have R4 := Lib.hid r4
  clear hF hG hl h hd hm r4 hga r1 r2 r3
  go_enter Try.func13, Try.ntmps13
  go_upto_region 6 with fail
  refine wp_region_class F (by kernel_rfl) (by kernel_rfl) (HG.out _ (Below.refl _ _).drew) ?_
  repeat (go_big_quiet_step (first | (go_at_call 28; exact P1.out _) | (go_at_call 28; exact P2.out _)))
  refine wpQuiet_nil ?_
  rintro _ ⟨nq, rfl⟩
  have hb0 := HF.out nq
  have a1 := f1 nq
  rw [HA.out] at a1
  have q1 := R1.out.over hb0
  have q2 := R2.out.over hb0
  have q3 := R3.out.over hb0
  rw [HA.out] at q2
  have hB0 := Lib.hid hb0
  generalize F nq = wq at *
  have D := Lib.hid (delete_any 0 ga c s.h i wq q2 hi (by omega))
  have hgp : ga ≠ y.p := fun e => q2.off q1 (by decide) (by rw [e])
  clear f1 f2 P1 P2 HF HG
  go_wp2_with (go_at_call 29; refine D.out.mono ?_; rintro e w2 ⟨rfl, ho2, hg2⟩; have q4 := (But.of_grown (F := fun k => k = ga) hg2 (fun j e => by injection e with e; exact e.symm)); have q5 := q1.but q4 (fun e => hgp e.symm); have n2 := q5.cell 1; have n3 := q5.free 1)
  have hsz := hB0.out.size
  have hwl : (wo1 s.h i).length = s.h.length - 1 := wo1_len hi
  have q3b : PlO 0 w2 y.A' c' s.l := q3.but q4 (fun g' e => by rintro rfl; exact R4.out _ HA.out e)
  have hb3 : But y.foot w (w2.setCell ⟨y.p, 1, none⟩ (.slice (some ⟨ga, 0, none⟩) (s.h.length - 1) c)) := ((But.of_below (F := y.foot) hB0.out (Nat.le_refl _)).trans (q4.mono fun j e => .inl (.inr (.inl (by rw [HA.out, e]))))).put (.inl (.inl rfl)) _
  have hk3 : PoolAt (w2.setCell ⟨y.p, 1, none⟩ (.slice (some ⟨ga, 0, none⟩) (s.h.length - 1) c)) y.p s.size (wo1 s.h i) s.l (some ⟨ga, 0, none⟩) y.A' :=
    ⟨c, c', by rw [hwl]; exact q5.put 1 _, ho2.store q5 (by decide) 1 _, q3b.store q5 (by decide) 1 _, by rw [← HA.out]; exact R4.out⟩
  have hn3 : ∀ j, Foot y.p (some ⟨ga, 0, none⟩) y.A' j → y.foot j ∨ w.heap.size ≤ j := fun j hj => .inl (by rw [← HA.out] at hj; exact hj)
  refine (serve_turn hH.out hg hb3 hk3 hn3 (ho.less (wo1_sub _ _) (List.Sublist.refl _))).mono ?_
  rintro e w4 ⟨B, d, ys', rfl, hga, htu⟩
  have HG := Lib.hid hga
  have HT := Lib.hid htu
  clear hga htu hk3 hb3 hn3
  go_wp2_with fail
  go_ret2
  exact ⟨B, d, ys', rfl, HG.out, HT.out⟩
end Go.Proofs.Ytaikjobebbighaa
