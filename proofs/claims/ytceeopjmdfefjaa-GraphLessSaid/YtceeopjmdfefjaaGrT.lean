/- The chapter's rows: known. -/
import Derived.Test.YtceeopjmdfefjaaGrV
import Derived.Test.YtceeopjmdfefjaaGrX
namespace Go.Proofs.Ytceeopjmdfefjaa
set_option linter.unusedVariables false
open Go.RowKit
theorem ndc_cons {w : World} {us : List Value} {ls : List Nd} (x : Int) (B : Option Addr) (c : Nat) (ds : List Int) (hs : Sl w .u64 B ds) (h0 : B = none → c = 0) (h1 : ds.length ≤ c) (h2 : c ≤ maxLen) (h : NdC w us ls) : NdC w (.int .u64 x :: .slice B ds.length c :: us) (⟨x, ds⟩ :: ls) := by
  refine ⟨by rw [List.length_cons, List.length_cons, h.len, List.length_cons]; omega, fun j hj => ?_⟩
  rcases j with _ | j
  · exact ⟨rfl, B, c, rfl, hs, h0, h1, h2⟩
  · rw [show (j + 1) * 2 = j * 2 + 1 + 1 by omega]
    simp only [List.getElem?_cons_succ, List.getElem_cons_succ]
    exact h.at_ j (by simpa using hj)
theorem sl_row {w : World} {g : Nat} {T : TypeId} {cs : Array Value} (xs : List Int) (h : Row w g T cs) (hc : cs = (xs.map (Value.int .u64)).toArray) : Sl w .u64 (some ⟨g, 0, none⟩) xs := fun j hj => by
  subst hc
  refine ⟨⟨g, 0, none⟩, rfl, h.lt, ?_⟩
  have := h.cell j
  simp [hj] at this
  by_cases h0 : j = 0
  · subst h0; simpa [Addr.add] using this
  · simpa [Addr.add, h0] using this
theorem le_max {n : Nat} (h : n ≤ 1000) : n ≤ maxLen := by unfold maxLen; omega
/-- One node of one Dep, made anew. -/
theorem one_nds (w : World) (x d : Int) : NdS ((w.alloc (.cells #[.int .u64 d] 23)).alloc (.cells #[.int .u64 x, .slice (some ⟨w.heap.size, 0, none⟩) 1 1] 35)) (some ⟨w.heap.size + 1, 0, none⟩) [⟨x, [d]⟩] := by
  have r1 : Row ((w.alloc (.cells #[.int .u64 d] 23)).alloc (.cells #[.int .u64 x, .slice (some ⟨w.heap.size, 0, none⟩) 1 1] 35)) w.heap.size 23 #[.int .u64 d] := (Row.new w _ _).alloc _
  have r2 : Row ((w.alloc (.cells #[.int .u64 d] 23)).alloc (.cells #[.int .u64 x, .slice (some ⟨w.heap.size, 0, none⟩) 1 1] 35)) (w.heap.size + 1) 35 #[.int .u64 x, .slice (some ⟨w.heap.size, 0, none⟩) 1 1] := by
    have := Row.new (w.alloc (.cells #[.int .u64 d] 23)) 35 #[.int .u64 x, .slice (some ⟨w.heap.size, 0, none⟩) 1 1]
    simpa using this
  exact (ndc_cons x (some ⟨w.heap.size, 0, none⟩) 1 [d] (sl_row [d] r1 rfl) (fun e => by cases e) (Nat.le_refl _) (le_max (by omega)) (NdC.nil _)).row r2
theorem known_one (w : World) (x d e0 : Int) (hx : (Lit.int .u64 x).wf = true) (he : mayE [⟨x, [d]⟩] = e0) :
    Calls Try.prog 10 #[.slice (some ⟨w.heap.size + 1, 0, none⟩) 1 1] ((w.alloc (.cells #[.int .u64 d] 23)).alloc (.cells #[.int .u64 x, .slice (some ⟨w.heap.size, 0, none⟩) 1 1] 35)) fun e w' => e = .returned (.int .i64 e0) ∧ Below w.heap.size w w' := by
  refine (mayG_all (some ⟨w.heap.size + 1, 0, none⟩) 1 [⟨x, [d]⟩] _ (one_nds w x d) (by simp) (fun n hn => by rw [List.mem_singleton] at hn; subst hn; exact hx)).mono ?_
  rintro e w' ⟨rfl, hb⟩
  exact ⟨by rw [he], nextC (nextB (nextB (Below.refl _ w))) hb⟩
theorem known_two (w : World) :
    Calls Try.prog 10 #[.slice (some ⟨w.heap.size + 1 + 1, 0, none⟩) 2 2] (((w.alloc (.cells #[.int .u64 2] 23)).alloc (.cells #[.int .u64 1] 23)).alloc
      (.cells #[.int .u64 1, .slice (some ⟨w.heap.size, 0, none⟩) 1 1, .int .u64 2, .slice (some ⟨w.heap.size + 1, 0, none⟩) 1 1] 35)) fun e w' => e = .returned (.int .i64 131) ∧ Below w.heap.size w w' := by
  obtain ⟨W1, hW1⟩ : ∃ W1, (((w.alloc (.cells #[.int .u64 2] 23)).alloc (.cells #[.int .u64 1] 23)).alloc
      (.cells #[.int .u64 1, .slice (some ⟨w.heap.size, 0, none⟩) 1 1, .int .u64 2, .slice (some ⟨w.heap.size + 1, 0, none⟩) 1 1] 35)) = W1 := ⟨_, rfl⟩
  have r1 : Row W1 w.heap.size 23 #[.int .u64 2] := by rw [← hW1]; exact ((Row.new w _ _).alloc _).alloc _
  have r2 : Row W1 (w.heap.size + 1) 23 #[.int .u64 1] := by
    have := (Row.new (w.alloc (.cells #[.int .u64 2] 23)) 23 #[.int .u64 1]).alloc (.cells #[.int .u64 1, .slice (some ⟨w.heap.size, 0, none⟩) 1 1, .int .u64 2, .slice (some ⟨w.heap.size + 1, 0, none⟩) 1 1] 35)
    rw [← hW1]; simpa using this
  have r3 : Row W1 (w.heap.size + 1 + 1) 35 #[.int .u64 1, .slice (some ⟨w.heap.size, 0, none⟩) 1 1, .int .u64 2, .slice (some ⟨w.heap.size + 1, 0, none⟩) 1 1] := by
    have := Row.new ((w.alloc (.cells #[.int .u64 2] 23)).alloc (.cells #[.int .u64 1] 23)) 35 #[.int .u64 1, .slice (some ⟨w.heap.size, 0, none⟩) 1 1, .int .u64 2, .slice (some ⟨w.heap.size + 1, 0, none⟩) 1 1]
    rw [← hW1]; simpa using this
  have hb : Below w.heap.size w W1 := by rw [← hW1]; exact nextB (nextB ((Below.refl _ w).alloc (Nat.le_refl _) _))
  have hn : NdS W1 (some ⟨w.heap.size + 1 + 1, 0, none⟩) [⟨1, [2]⟩, ⟨2, [1]⟩] :=
    (ndc_cons 1 (some ⟨w.heap.size, 0, none⟩) 1 [2] (sl_row [2] r1 rfl) (fun e => by cases e) (Nat.le_refl _) (le_max (by omega))
      (ndc_cons 2 (some ⟨w.heap.size + 1, 0, none⟩) 1 [1] (sl_row [1] r2 rfl) (fun e => by cases e) (Nat.le_refl _) (le_max (by omega)) (NdC.nil _))).row r3
  rw [hW1]
  refine (mayG_all (some ⟨w.heap.size + 1 + 1, 0, none⟩) 2 [⟨1, [2]⟩, ⟨2, [1]⟩] W1 hn (by simp) (fun n hn => by
    rcases List.mem_cons.1 hn with rfl | hn
    · exact (show (Lit.int .u64 1).wf = true by decide)
    · rw [List.mem_singleton] at hn; subst hn; exact (show (Lit.int .u64 2).wf = true by decide))).mono ?_
  rintro e w' ⟨rfl, hb2⟩
  exact ⟨by rw [kB_may], nextC hb hb2⟩
set_option maxHeartbeats 1000000 in
set_option maxRecDepth 100000 in
theorem known_any (w : World) : Calls Try.prog 6 #[] w fun e w' => e = .returned (.bool true) ∧ Below w.heap.size w w' := by
  obtain ⟨W1, hW1⟩ : ∃ W1, (((w.alloc (.cells #[.int .u64 1] 23)).alloc (.cells #[.int .u64 3] 23)).alloc
      (.cells #[.int .u64 3, .slice (some ⟨w.heap.size, 0, none⟩) 1 1, .int .u64 1, .slice none 0 0, .int .u64 2, .slice (some ⟨w.heap.size + 1, 0, none⟩) 1 1] 35)) = W1 := ⟨_, rfl⟩
  have r1 : Row W1 w.heap.size 23 #[.int .u64 1] := by rw [← hW1]; exact ((Row.new w _ _).alloc _).alloc _
  have r2 : Row W1 (w.heap.size + 1) 23 #[.int .u64 3] := by
    have := (Row.new (w.alloc (.cells #[.int .u64 1] 23)) 23 #[.int .u64 3]).alloc (.cells #[.int .u64 3, .slice (some ⟨w.heap.size, 0, none⟩) 1 1, .int .u64 1, .slice none 0 0, .int .u64 2, .slice (some ⟨w.heap.size + 1, 0, none⟩) 1 1] 35)
    rw [← hW1]; simpa using this
  have r3 : Row W1 (w.heap.size + 1 + 1) 35 #[.int .u64 3, .slice (some ⟨w.heap.size, 0, none⟩) 1 1, .int .u64 1, .slice none 0 0, .int .u64 2, .slice (some ⟨w.heap.size + 1, 0, none⟩) 1 1] := by
    have := Row.new ((w.alloc (.cells #[.int .u64 1] 23)).alloc (.cells #[.int .u64 3] 23)) 35 #[.int .u64 3, .slice (some ⟨w.heap.size, 0, none⟩) 1 1, .int .u64 1, .slice none 0 0, .int .u64 2, .slice (some ⟨w.heap.size + 1, 0, none⟩) 1 1]
    rw [← hW1]; simpa using this
  have hb : Below w.heap.size w W1 := by rw [← hW1]; exact nextB (nextB ((Below.refl _ w).alloc (Nat.le_refl _) _))
  have hn : NdS W1 (some ⟨w.heap.size + 1 + 1, 0, none⟩) kL :=
    (ndc_cons 3 (some ⟨w.heap.size, 0, none⟩) 1 [1] (sl_row [1] r1 rfl) (fun e => by cases e) (Nat.le_refl _) (le_max (by omega))
      (ndc_cons 1 none 0 [] (Sl.nil _ _ _) (fun _ => rfl) (Nat.le_refl _) (le_max (by omega))
        (ndc_cons 2 (some ⟨w.heap.size + 1, 0, none⟩) 1 [3] (sl_row [3] r2 rfl) (fun e => by cases e) (Nat.le_refl _) (le_max (by omega)) (NdC.nil _)))).row r3
  have hk12 : ∀ n ∈ kL, n.deps.length ≤ 12 := by simp [kL]
  have hkw : ∀ n ∈ kL, (Lit.int .u64 n.id).wf = true ∧ ∀ x ∈ n.deps, (Lit.int .u64 x).wf = true := fun n hn => by
    have h3 := (show (Lit.int .u64 3).wf = true by decide)
    have h2 := (show (Lit.int .u64 2).wf = true by decide)
    have h1 := (show (Lit.int .u64 1).wf = true by decide)
    rcases List.mem_cons.1 hn with rfl | hn
    · exact ⟨h3, by simpa using h1⟩
    rcases List.mem_cons.1 hn with rfl | hn
    · exact ⟨h1, by simp⟩
    rw [List.mem_singleton] at hn
    subst hn
    exact ⟨h2, by simpa using h3⟩
  have C1 := Lib.hid (show Calls Try.prog 8 #[.slice (some ⟨w.heap.size + 1 + 1, 0, none⟩) 3 3] W1 fun e w' => ∃ B d, e = .returned (.tuple #[.slice B 3 d, .int .i64 0]) ∧ Sl w' .u64 B [1, 3, 2] ∧ Below W1.heap.size W1 w' from
    (ordG_all (some ⟨w.heap.size + 1 + 1, 0, none⟩) 3 kL W1 hn hk12 (fun n hn => (hkw n hn).1)).mono fun e w' ⟨hb, B, d, out, he, hif, hown⟩ => by
      rw [kL_may] at he hif
      rw [if_pos rfl] at hif
      obtain rfl := hif.eq kL_ends
      exact ⟨B, d, he, hown.sl, hb⟩)
  have C5 := Lib.hid (fun W (hW : Below W1.heap.size W1 W) => show Calls Try.prog 13 #[.slice (some ⟨w.heap.size + 1 + 1, 0, none⟩) 3 3, .int .u64 3] W fun e w' => ∃ B d, e = .returned (.slice B 1 d) ∧ Sl w' .u64 B [2] ∧ Below W.heap.size W w' from
    (usersG_all (some ⟨w.heap.size + 1 + 1, 0, none⟩) 3 kL W 3 (hn.over hW) hk12).mono fun e w' ⟨B, d, us, he, hu, hown, hb⟩ => by
      obtain rfl := hu.eq (.inr ⟨by simp [kL], kL_usr⟩)
      exact ⟨B, d, he, hown.sl, hb⟩)
  have C6 := Lib.hid (fun W (hW : Below W1.heap.size W1 W) => show Calls Try.prog 15 #[.slice (some ⟨w.heap.size + 1 + 1, 0, none⟩) 3 3, .int .u64 2, .int .u64 1] W fun e w' => e = .returned (.bool true) ∧ Below W.heap.size W w' from
    (reachG_all (some ⟨w.heap.size + 1 + 1, 0, none⟩) 3 kL W 2 1 (hn.over hW) hk12 (fun n hn => (hkw n hn).2)).mono fun e w' ⟨he, hb⟩ => by
      rw [kL_rch] at he
      exact ⟨he, hb⟩)
  have HB := Lib.hid hb
  have HW := Lib.hid hW1
  clear hW1 r1 r2 r3 hb hn hk12 hkw
  go_enter Try.func6, Try.ntmps6
  go_wp2_with fail
  rw [HW.out]
  clear HW
  refine C1.out.mono ?_
  rintro e w1 ⟨B, d, rfl, hs, hb1⟩
  have HB1 := Lib.hid (nextC HB.out hb1)
  have K1 := Lib.hid hb1
  have S1 := Lib.hid hs
  clear hb1 hs C1
  go_wp2_with fail
  refine (same_any B (some ⟨w1.heap.size, 0, none⟩) d 3 [1, 3, 2] [1, 3, 2] (w1.alloc (.cells #[.int .u64 1, .int .u64 3, .int .u64 2] 23)) (S1.out.alloc _) (sl_row [1, 3, 2] (Row.new w1 _ _) rfl) (by decide)).mono ?_
  rintro e w2 ⟨rfl, q, rfl⟩
  rw [decide_eq_true (rfl : ([1, 3, 2] : List Int) = [1, 3, 2])]
  have K2 := Lib.hid (below_drewN (nextB (o := .cells #[.int .u64 1, .int .u64 3, .int .u64 2] 23) K1.out) q)
  obtain ⟨W2, hW2⟩ : ∃ W2, ((w1.alloc (.cells #[.int .u64 1, .int .u64 3, .int .u64 2] 23)).drewN q) = W2 := ⟨_, rfl⟩
  rw [hW2] at K2 ⊢
  clear hW2 K1 S1 HB1
  go_wp2_with fail
  refine (known_two _).mono ?_
  rintro e w3 ⟨rfl, hb3⟩
  have K3 := Lib.hid (nextC K2.out hb3)
  clear hb3 K2
  go_wp2_with fail
  refine (known_one _ 1 5 5 (by decide) kC_may).mono ?_
  rintro e w4 ⟨rfl, hb4⟩
  have K4 := Lib.hid (nextC K3.out hb4)
  clear hb4 K3
  go_wp2_with fail
  refine (known_one _ 1 1 131 (by decide) kD_may).mono ?_
  rintro e w5 ⟨rfl, hb5⟩
  have K5 := Lib.hid (nextC K4.out hb5)
  clear hb5 K4
  go_wp2_with fail
  refine (C5.out _ K5.out).mono ?_
  rintro e w6 ⟨B6, d6, rfl, hs6, hb6⟩
  have K6 := Lib.hid (nextC K5.out hb6)
  have S6 := Lib.hid hs6
  clear hb6 hs6 K5 C5
  go_wp2_with fail
  refine (same_any B6 (some ⟨w6.heap.size, 0, none⟩) d6 1 [2] [2] (w6.alloc (.cells #[.int .u64 2] 23)) (S6.out.alloc _) (sl_row [2] (Row.new w6 _ _) rfl) (by decide)).mono ?_
  rintro e w7 ⟨rfl, q7, rfl⟩
  rw [decide_eq_true (rfl : ([2] : List Int) = [2])]
  have K7 := Lib.hid (below_drewN (nextB (o := .cells #[.int .u64 2] 23) K6.out) q7)
  obtain ⟨W7, hW7⟩ : ∃ W7, ((w6.alloc (.cells #[.int .u64 2] 23)).drewN q7) = W7 := ⟨_, rfl⟩
  rw [hW7] at K7 ⊢
  clear hW7 K6 S6
  go_wp2_with fail
  refine (C6.out _ K7.out).mono ?_
  rintro e w8 ⟨rfl, hb8⟩
  have K8 := Lib.hid (nextC K7.out hb8)
  clear hb8 K7 C6
  go_wp2_with fail
  go_ret
  exact ⟨rfl, nextC HB.out K8.out⟩
end Go.Proofs.Ytceeopjmdfefjaa
