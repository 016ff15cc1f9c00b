/- The chapter's rows: known. -/
import Derived.Test.YtdbodnpfeiplgaaPeR
import Derived.Test.YtdbodnpfeiplgaaPeE
import Derived.Test.YtdbodnpfeiplgaaPeH
import Derived.Test.YtdbodnpfeiplgaaPeC
import Derived.Test.YtdbodnpfeiplgaaPeLM
namespace Go.Proofs.Ytdbodnpfeiplgaa
set_option linter.unusedVariables false
open Go.RowKit
theorem Sl.row {w : World} {g : Nat} {T : TypeId} {cs : Array Value} (xs : List Int) (h : Row w g T cs) (hc : cs = (xs.map (Value.int .u64)).toArray) : Sl w .u64 (some ⟨g, 0, none⟩) xs := fun j hj => by
  subst hc
  refine ⟨⟨g, 0, none⟩, rfl, h.lt, ?_⟩
  have := h.cell j
  simp [hj] at this
  by_cases h0 : j = 0
  · subst h0; simpa [Addr.add] using this
  · simpa [Addr.add, h0] using this
/-- What the closure answers. -/
def kn (id : Int) : Int := [5, 9, 2].getD (id - 1).toNat 0
theorem known1_any (p : Addr) (g : Nat) (w : World) (hp : w.cell? p = some (.slice (some ⟨g, 0, none⟩) 3 3)) (hr : Row w g 23 #[.int .u64 5, .int .u64 9, .int .u64 2]) (id : Int) (hid : id ∈ [(1 : Int), 2, 3]) :
    Calls Try.prog 27 #[.int .u64 id, .pointer (some p)] w fun e w' => e = .returned (.int .u64 (kn id)) ∧ ∃ q, w' = w.drewN q := by
  have c0 := hr.cell 0
  have c1 := hr.cell 1
  have c2 := hr.cell 2
  simp at c0 c1 c2
  clear hr
  simp only [List.mem_cons, List.not_mem_nil, or_false] at hid
  rcases hid with rfl | rfl | rfl
  all_goals
    go_enter Try.func27, Try.ntmps27
    go_wp2_with fail
    go_ret
    exact ⟨rfl, 0, by simp [World.drewN_zero]⟩
theorem mark_kn : markF kn [1, 2, 3] = 5 := by
  have h : mayP [1, 2, 3] = true := by decide
  unfold markF
  rw [if_pos h]
  exact (best_srt ([1, 2, 3].map kn) (by decide) (by decide)).symm.trans (by decide)
theorem kn_addE : addE [1, 3] 2 = 0 := by decide
theorem kn_addL : addL [1, 3] 2 = [1, 2, 3] := by
  have h := insF_srt 2 [1, 3] (by decide) (by decide)
  unfold addL
  rw [kn_addE, if_pos rfl, ← h]
  decide
theorem kn_remE1 : remE [1, 3] 2 = 5 := by decide
theorem kn_remE2 : remE [1] 1 = 2 := by decide
theorem known_add (w : World) : Calls Try.prog 13 #[.slice (some ⟨w.heap.size, 0, none⟩) 2 2, .int .u64 2] (w.alloc (.cells #[.int .u64 1, .int .u64 3] 23)) fun e w' =>
    ∃ B d, e = .returned (.tuple #[.slice B 3 d, .int .i64 0]) ∧ Sl w' .u64 B [1, 2, 3] ∧ Below w.heap.size w w' := by
  refine (add_any (some ⟨w.heap.size, 0, none⟩) 2 [1, 3] 2 _ (Sl.row [1, 3] (Row.new w _ _) rfl) (by decide)).mono ?_
  rintro e w' ⟨B, d, rfl, hown, hb⟩
  rw [kn_addL] at hown ⊢
  rw [kn_addE]
  exact ⟨B, d, rfl, hown.sl, nextA (Below.refl _ w) hb⟩
theorem known_rem1 (w : World) : Calls Try.prog 15 #[.slice (some ⟨w.heap.size, 0, none⟩) 2 2, .int .u64 2] (w.alloc (.cells #[.int .u64 1, .int .u64 3] 23)) fun e w' =>
    ∃ B n d, e = .returned (.tuple #[.slice B n d, .int .i64 5]) ∧ Below w.heap.size w w' := by
  refine (remove_any (some ⟨w.heap.size, 0, none⟩) 2 [1, 3] 2 _ (Sl.row [1, 3] (Row.new w _ _) rfl) (by decide) (by decide) (by decide)).mono ?_
  rintro e w' ⟨B, d, rfl, hown, hb⟩
  rw [kn_remE1]
  exact ⟨B, _, d, rfl, nextA (Below.refl _ w) hb⟩
theorem known_rem2 (w : World) : Calls Try.prog 15 #[.slice (some ⟨w.heap.size, 0, none⟩) 1 1, .int .u64 1] (w.alloc (.cells #[.int .u64 1] 23)) fun e w' =>
    ∃ B n d, e = .returned (.tuple #[.slice B n d, .int .i64 2]) ∧ Below w.heap.size w w' := by
  refine (remove_any (some ⟨w.heap.size, 0, none⟩) 1 [1] 1 _ (Sl.row [1] (Row.new w _ _) rfl) (by decide) (by decide) (by decide)).mono ?_
  rintro e w' ⟨B, d, rfl, hown, hb⟩
  rw [kn_remE2]
  exact ⟨B, _, d, rfl, nextA (Below.refl _ w) hb⟩
theorem known_major (w : World) (n : Nat) (hn : n ≤ 10) : Calls Try.prog 25 #[.int .i64 n] w fun e w' => e = .returned (.int .i64 (n / 2 + 1 : Nat)) ∧ w = w' := by
  have := major_any n w (by omega)
  rwa [show max 0 (n : Int) / 2 + 1 = ((n / 2 + 1 : Nat) : Int) by omega] at this
set_option maxHeartbeats 1000000 in
set_option maxRecDepth 100000 in
theorem known_any (w : World) : Calls Try.prog 6 #[] w fun e w' => e = .returned (.bool true) ∧ Below w.heap.size w w' := by
  obtain ⟨W1, hW1⟩ : ∃ W1, ((w.alloc (.cells #[.int .u64 1, .int .u64 2, .int .u64 3] 23)).alloc (.cells #[.int .u64 5, .int .u64 9, .int .u64 2] 23)).alloc (.cells #[.slice (some ⟨w.heap.size + 1, 0, none⟩) 3 3] 22) = W1 := ⟨_, rfl⟩
  have r1 : Row W1 w.heap.size 23 #[.int .u64 1, .int .u64 2, .int .u64 3] := by rw [← hW1]; exact ((Row.new w _ _).alloc _).alloc _
  have r2 : Row W1 (w.heap.size + 1) 23 #[.int .u64 5, .int .u64 9, .int .u64 2] := by
    have := (Row.new (w.alloc (.cells #[.int .u64 1, .int .u64 2, .int .u64 3] 23)) 23 #[.int .u64 5, .int .u64 9, .int .u64 2]).alloc (.cells #[.slice (some ⟨w.heap.size + 1, 0, none⟩) 3 3] 22)
    rw [← hW1]; simpa using this
  have r3 : Row W1 (w.heap.size + 1 + 1) 22 #[.slice (some ⟨w.heap.size + 1, 0, none⟩) 3 3] := by
    have := Row.new ((w.alloc (.cells #[.int .u64 1, .int .u64 2, .int .u64 3] 23)).alloc (.cells #[.int .u64 5, .int .u64 9, .int .u64 2] 23)) 22 #[.slice (some ⟨w.heap.size + 1, 0, none⟩) 3 3]
    rw [← hW1]; simpa using this
  have hb : Below w.heap.size w W1 := by rw [← hW1]; exact nextB (nextB ((Below.refl _ w).alloc (Nat.le_refl _) _))
  have CM := mark_any 27 #[.pointer (some ⟨w.heap.size + 1 + 1, 0, none⟩)] (fun _ _ => rfl) kn (some ⟨w.heap.size, 0, none⟩) 3 [1, 2, 3] W1 (Sl.row [1, 2, 3] r1 rfl) (by decide)
    (fun _ id hid W hW => known1_any _ _ W ((hW.cell r3.lt).trans (r3.cell 0)) (r2.over hW) id hid)
  rw [mark_kn] at CM
  have CM := Lib.hid CM
  have S1 := Lib.hid (Sl.row [1, 2, 3] r1 rfl)
  have HB := Lib.hid hb
  have HW := Lib.hid hW1
  clear hW1 r1 r2 r3 hb
  go_enter Try.func6, Try.ntmps6
  go_wp2_with fail
  rw [HW.out]
  clear HW
  refine CM.out.mono ?_
  rintro e w1 ⟨rfl, hb1⟩
  have HB1 := Lib.hid (nextC HB.out hb1)
  have S1' := Lib.hid (S1.out.over hb1)
  clear hb1 S1 HB CM
  go_wp2_with fail
  refine (known_add _).mono ?_
  rintro e w2 ⟨B, d, rfl, hs2, hb2⟩
  have HB2 := Lib.hid (nextC HB1.out hb2)
  have S2 := Lib.hid (S1'.out.over hb2)
  have T2 := Lib.hid hs2
  clear hb2 S1' HB1 hs2
  go_wp2_with fail
  refine (known_rem1 _).mono ?_
  rintro e w3 ⟨B3, n3, d3, rfl, hb3⟩
  have HB3 := Lib.hid (nextC HB2.out hb3)
  have S3 := Lib.hid (S2.out.over hb3)
  have T3 := Lib.hid (T2.out.over hb3)
  clear hb3 S2 HB2 T2
  go_wp2_with fail
  refine (known_rem2 _).mono ?_
  rintro e w4 ⟨B4, n4, d4, rfl, hb4⟩
  have HB4 := Lib.hid (nextC HB3.out hb4)
  have S4 := Lib.hid (S3.out.over hb4)
  have T4 := Lib.hid (T3.out.over hb4)
  clear hb4 S3 HB3 T3
  go_wp2_with fail
  refine (known_major _ 1 (by decide)).mono ?_
  rintro e w5 ⟨rfl, rfl⟩
  go_wp2_with fail
  refine (known_major _ 4 (by decide)).mono ?_
  rintro e w5 ⟨rfl, rfl⟩
  go_wp2_with fail
  refine (known_major _ 7 (by decide)).mono ?_
  rintro e w5 ⟨rfl, rfl⟩
  go_wp2_with fail
  refine (same_any B (some ⟨w.heap.size, 0, none⟩) d 3 [1, 2, 3] [1, 2, 3] _ T4.out S4.out (by decide) (by decide)).mono ?_
  rintro e w5 ⟨rfl, q, rfl⟩
  have hsame : sameL [1, 2, 3] [1, 2, 3] = true := by decide
  rw [hsame]
  clear hsame
  go_wp2_with fail
  go_ret
  exact ⟨rfl, below_drewN HB4.out q⟩
end Go.Proofs.Ytdbodnpfeiplgaa
