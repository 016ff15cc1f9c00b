/- Contracts: there, New, Ask. -/
import Derived.Test.YtklmabhjkdkjmaaSeW
namespace Go.Proofs.Ytklmabhjkdkjmaa
set_option linter.unusedVariables false
open Go.RowKit
theorem neq_map (b : Nat) (W : World) : (binOp .neq 46 (.map (some b)) (.map none)).run Try.prog W = .ok (.bool true) W := rfl
theorem neq_map0 (W : World) : (binOp .neq 46 (.map none) (.map none)).run Try.prog W = .ok (.bool false) W := rfl
theorem there_any (g : Nat) (w : World) (u : Value) (b : Nat) (h : Row w g 48 #[.map (some b), u]) :
    Calls Try.prog 18 #[.pointer (some ⟨g, 0, none⟩)] w fun e w' => e = .returned (.bool true) ∧ w' = w := by
  have c0 := h.cell 0
  simp at c0
  clear h
  have hE := neq_map b
  go_enter Try.func18, Try.ntmps18
  go_wp2_with fail
  go_ret
  exact ⟨rfl, rfl⟩
theorem there_nil (w : World) : Calls Try.prog 18 #[.pointer none] w fun e w' => e = .returned (.bool false) ∧ w' = w := by
  go_enter Try.func18, Try.ntmps18
  go_wp2_with fail
  go_ret
  exact ⟨rfl, rfl⟩
theorem there_zero (g : Nat) (w : World) (u : Value) (h : Row w g 48 #[.map none, u]) : Calls Try.prog 18 #[.pointer (some ⟨g, 0, none⟩)] w fun e w' => e = .returned (.bool false) ∧ w' = w := by
  have c := h.cell 0
  simp at c
  clear h
  have hE := neq_map0
  go_enter Try.func18, Try.ntmps18
  go_wp2_with fail
  go_ret
  exact ⟨rfl, rfl⟩
theorem new_any (w : World) : Calls Try.prog 6 #[] w fun e w' => e = .returned (.pointer (some ⟨w.heap.size + 1, 0, none⟩)) ∧ ClAt w' (w.heap.size + 1) w.heap.size 0 [] ∧ Below w.heap.size w w' := by
  have hmm := @run_makeMap Try.prog
  go_enter Try.func6, Try.ntmps6
  go_wp2_with fail
  go_ret
  refine ⟨rfl, ⟨GoodT.nil, by simp [cls], by simp, by simp, 0, fun _ => 0, ?_, ?_, ⟨List.Pairwise.nil, by simp, fun _ _ => rfl⟩, by omega, by omega⟩, nextB ((Below.refl _ w).alloc (Nat.le_refl _) _)⟩
  · have := Row.new (w.alloc (.map #[] 0)) 48 #[.map (some w.heap.size), .int .i64 0]
    simpa using this
  · exact (MpS.made w (atC [] fun _ => 0) (fun x => rfl)).below ((Below.refl _ _).alloc (Nat.le_refl _) _)
/-- What is asked, told apart. -/
theorem ask_cases (L : List Tk) (c s : Int) : (((c == 0) = true ∨ (c == 0) = false ∧ (s == 0) = true) ∧ askR L c s = (0, 0) ∧ askK L c s = false ∧ askE L c s = 2) ∨
    (((c == 0) = false ∧ (s == 0) = false) ∧ ((c ∉ cls L ∧ findT L c = none ∧ askR L c s = (0, 0) ∧ askK L c s = false ∧ askE L c s = 0) ∨
      (c ∈ cls L ∧ ∃ t, findT L c = some t ∧ ((s < t.sq ∧ askR L c s = (0, 0) ∧ askK L c s = false ∧ askE L c s = 180) ∨ (s = t.sq ∧ askR L c s = (t.e, t.n) ∧ askK L c s = true ∧ askE L c s = 0) ∨ (t.sq < s ∧ askR L c s = (0, 0) ∧ askK L c s = false ∧ askE L c s = 0))))) := by
  unfold askR askK askE
  by_cases h0 : c = 0 ∨ s = 0
  · left
    rw [if_pos h0, if_pos h0, if_pos h0]
    refine ⟨?_, rfl, rfl, rfl⟩
    by_cases hc : c = 0
    · exact .inl (by simpa using hc)
    · exact .inr ⟨by simpa using hc, by have : s = 0 := by omega
                                        simpa using this⟩
  · right
    rw [if_neg h0, if_neg h0, if_neg h0]
    refine ⟨⟨beq_eq_false_iff_ne.2 (by omega), beq_eq_false_iff_ne.2 (by omega)⟩, ?_⟩
    rcases hf : findT L c with _ | t
    · exact .inl ⟨findT_none.1 hf, rfl, rfl, rfl, rfl⟩
    · refine .inr ⟨?_, t, rfl, ?_⟩
      · apply Classical.byContradiction
        intro h
        rw [findT_none.2 h] at hf
        cases hf
      · simp only
        rcases Int.lt_trichotomy s t.sq with h | h | h
        · exact .inl ⟨h, by rw [if_neg (by omega)], decide_eq_false (by omega), by rw [if_pos h]⟩
        · exact .inr (.inl ⟨h, by rw [if_pos h], decide_eq_true h, by rw [if_neg (by omega)]⟩)
        · exact .inr (.inr ⟨h, by rw [if_neg (by omega)], decide_eq_false (by omega), by rw [if_neg (by omega)]⟩)
theorem reply_cells {w : World} {g : Nat} {T : TypeId} {a b : Value} (h : Row w g T #[a, b]) (x y : Value) (o : Obj) :
    (((w.setCell ⟨g, 0, none⟩ x).setCell ⟨g, 1, none⟩ y).alloc o).cell? ⟨g, 0, none⟩ = some x ∧ (((w.setCell ⟨g, 0, none⟩ x).setCell ⟨g, 1, none⟩ y).alloc o).cell? ⟨g, 1, none⟩ = some y := by
  have r := ((h.put 0 x).put 1 y).alloc o
  have c0 := r.cell 0
  have c1 := r.cell 1
  simp at c0 c1
  exact ⟨c0, c1⟩
theorem reply_cells2 {w : World} {g : Nat} {T : TypeId} {a b : Value} (h : Row w g T #[a, b]) (x y : Value) (o : Obj) :
    (((w.alloc o).setCell ⟨g, 0, none⟩ x).setCell ⟨g, 1, none⟩ y).cell? ⟨g, 0, none⟩ = some x ∧ (((w.alloc o).setCell ⟨g, 0, none⟩ x).setCell ⟨g, 1, none⟩ y).cell? ⟨g, 1, none⟩ = some y := by
  have r := (((h.alloc o).put 0 x).put 1 y)
  have c0 := r.cell 0
  have c1 := r.cell 1
  simp at c0 c1
  exact ⟨c0, c1⟩
set_option maxHeartbeats 1000000 in
theorem ask_core (g b : Nat) (c s s1 e1 n1 u1 : Int) (isin : Bool) (re rn rx : Int) (rk : Bool) (w W1 : World) (hW1 : w.alloc (.cells #[.int .i64 0, .int .u64 0] 30) = W1) (c0 : W1.cell? ⟨g, 0, none⟩ = some (.map (some b)))
    (hlk : (Instr.lookup 46 (.map (some b)) (.int .u64 c) true).run Try.prog W1 = .ok (.tuple #[.agg #[.int .u64 s1, .int .i64 e1, .int .u64 n1, .int .i64 u1], .bool isin]) W1)
    (C0 : Calls Try.prog 18 #[.pointer (some ⟨g, 0, none⟩)] W1 fun e w' => e = .returned (.bool true) ∧ w' = W1)
    (hcase : (((c == 0) = true ∨ (c == 0) = false ∧ (s == 0) = true) ∧ re = 0 ∧ rn = 0 ∧ rk = false ∧ rx = 2) ∨ ((c == 0) = false ∧ (s == 0) = false ∧ ((isin = false ∧ re = 0 ∧ rn = 0 ∧ rk = false ∧ rx = 0) ∨
      (isin = true ∧ ((s < s1 ∧ re = 0 ∧ rn = 0 ∧ rk = false ∧ rx = 180) ∨ (decide (s < s1) = false ∧ (s == s1) = true ∧ re = e1 ∧ rn = n1 ∧ rk = true ∧ rx = 0) ∨ (decide (s < s1) = false ∧ (s == s1) = false ∧ re = 0 ∧ rn = 0 ∧ rk = false ∧ rx = 0)))))) :
    Calls Try.prog 14 #[.pointer (some ⟨g, 0, none⟩), .int .u64 c, .int .u64 s] w fun e w' =>
      e = .returned (.tuple #[.agg #[.int .i64 re, .int .u64 rn], .bool rk, .int .i64 rx]) ∧ Below w.heap.size w w' := by
  have C1 := Lib.hid C0
  have r1 : Row W1 w.heap.size 30 #[.int .i64 0, .int .u64 0] := by rw [← hW1]; exact Row.new w _ _
  have hb1 : Below w.heap.size w W1 := by rw [← hW1]; exact (Below.refl _ w).alloc (Nat.le_refl _) _
  have hz : W1.heap.size = w.heap.size + 1 := by rw [← hW1]; simp
  have k0 := r1.cell 0
  have k1 := r1.cell 1
  have kf0 := r1.free 0
  have kf1 := r1.free 1
  have HB := Lib.hid hb1
  simp at k0 k1
  have rc0 := fun x y o => (reply_cells r1 x y o).1
  have rc1 := fun x y o => (reply_cells r1 x y o).2
  have RC0 := Lib.hid rc0
  have RC1 := Lib.hid rc1
  clear r1 C0 hb1 rc0 rc1
  rcases hcase with ⟨h1 | ⟨h1, h2⟩, rfl, rfl, rfl, rfl⟩ | ⟨h1, h2, ⟨rfl, rfl, rfl, rfl, rfl⟩ | ⟨rfl, ⟨h3, rfl, rfl, rfl, rfl⟩ | ⟨h3, h4, rfl, rfl, rfl, rfl⟩ | ⟨h3, h4, rfl, rfl, rfl, rfl⟩⟩⟩
  all_goals
    go_enter Try.func14, Try.ntmps14
    go_wp2_with fail
    refine C1.out.mono ?_
    rintro e w2 ⟨rfl, rfl⟩
    go_wp2_with fail
    refine bodyPost_ret ?h1 rfl ⟨rfl, ?h2⟩
    case h1 => simp [results, Try.results14, go_sem, RC0.out, RC1.out]
    case h2 => exact ((HB.out.setCell (p := ⟨w.heap.size, 0, none⟩) (Nat.le_refl _) _).setCell (p := ⟨w.heap.size, 1, none⟩) (Nat.le_refl _) _).alloc (by simp; omega) _
set_option maxHeartbeats 1000000 in
theorem ask_any (g b m : Nat) (L : List Tk) (c s : Int) (w : World) (h : ClAt w g b m L) (hc : (Lit.int .u64 c).wf = true) :
    Calls Try.prog 14 #[.pointer (some ⟨g, 0, none⟩), .int .u64 c, .int .u64 s] w fun e w' =>
      e = .returned (.tuple #[.agg #[.int .i64 (askR L c s).1, .int .u64 (askR L c s).2], .bool (askK L c s), .int .i64 (askE L c s)]) ∧ Below w.heap.size w w' := by
  obtain ⟨u, us, hr, hm, hu, -, -⟩ := h.w_.ex
  obtain ⟨W1, hW1⟩ : ∃ W1, w.alloc (.cells #[.int .i64 0, .int .u64 0] 30) = W1 := ⟨_, rfl⟩
  have hb1 : Below w.heap.size w W1 := by rw [← hW1]; exact (Below.refl _ w).alloc (Nat.le_refl _) _
  have hr1 := hr.over hb1
  have c0 := hr1.cell 0
  simp at c0
  have hlk := (hm.below hb1).look_ok hc
  have C1 := there_any g W1 _ b hr1
  rcases ask_cases L c s with ⟨h1, e1, e2, e3⟩ | ⟨⟨h1, h2⟩, ⟨hn, hf, e1, e2, e3⟩ | ⟨hn, t, hf, hs⟩⟩
  · obtain ⟨s1, e1', n1, u1, hfv⟩ : ∃ s1 e1 n1 u1, atC L us c = tkV s1 e1 n1 u1 := by
      unfold atC
      cases findT L c <;> exact ⟨_, _, _, _, rfl⟩
    rw [hfv] at hlk
    rw [e1, e2, e3]
    exact ask_core g b c s s1 e1' n1 u1 _ _ _ _ _ w W1 hW1 c0 hlk C1 (.inl ⟨h1, rfl, rfl, rfl, rfl⟩)
  · unfold atC at hlk
    rw [hf, decide_eq_false hn] at hlk
    rw [e1, e2, e3]
    exact ask_core g b c s 0 0 0 0 _ _ _ _ _ w W1 hW1 c0 hlk C1 (.inr ⟨h1, h2, .inl ⟨rfl, rfl, rfl, rfl, rfl⟩⟩)
  · unfold atC at hlk
    rw [hf, decide_eq_true hn] at hlk
    rcases hs with ⟨h3, e1, e2, e3⟩ | ⟨h3, e1, e2, e3⟩ | ⟨h3, e1, e2, e3⟩
    · rw [e1, e2, e3]
      exact ask_core g b c s t.sq t.e t.n (us c) _ _ _ _ _ w W1 hW1 c0 hlk C1 (.inr ⟨h1, h2, .inr ⟨rfl, .inl ⟨h3, rfl, rfl, rfl, rfl⟩⟩⟩)
    · rw [e1, e2, e3]
      exact ask_core g b c s t.sq t.e t.n (us c) _ _ _ _ _ w W1 hW1 c0 hlk C1 (.inr ⟨h1, h2, .inr ⟨rfl, .inr (.inl ⟨decide_eq_false (by omega), by simpa using h3, rfl, rfl, rfl, rfl⟩)⟩⟩)
    · rw [e1, e2, e3]
      exact ask_core g b c s t.sq t.e t.n (us c) _ _ _ _ _ w W1 hW1 c0 hlk C1 (.inr ⟨h1, h2, .inr ⟨rfl, .inr (.inr ⟨decide_eq_false (by omega), beq_eq_false_iff_ne.2 (by omega), rfl, rfl, rfl, rfl⟩)⟩⟩)
end Go.Proofs.Ytklmabhjkdkjmaa
