/- The chapter's rows: known. -/
import Derived.Test.YtklmabhjkdkjmaaSeD
namespace Go.Proofs.Ytklmabhjkdkjmaa
set_option linter.unusedVariables false
open Go.RowKit
def k1 : List Tk := [⟨7, 3, 0, 5⟩]
set_option maxHeartbeats 1000000 in
set_option maxRecDepth 100000 in
theorem known_any (w : World) : Calls Try.prog 5 #[] w fun e w' => e = .returned (.bool true) ∧ Below w.heap.size w w' := by
  go_enter Try.func5, Try.ntmps5
  go_wp2_with fail
  refine (new_any w).mono ?_
  rintro e w1 ⟨rfl, hcl, hb1⟩
  obtain ⟨g, hg⟩ : ∃ g, w.heap.size + 1 = g := ⟨_, rfl⟩
  obtain ⟨b, hb⟩ : ∃ b, w.heap.size = b := ⟨_, rfl⟩
  rw [hg] at hcl ⊢
  rw [show ClAt w1 g w.heap.size 0 [] = ClAt w1 g b 0 [] by rw [hb]] at hcl
  have HGB := Lib.hid (show w.heap.size ≤ g ∧ w.heap.size ≤ b by omega)
  have CL := Lib.hid hcl
  have K1 := Lib.hid hb1
  clear hcl hb1 hg hb
  have hw7 : (Lit.int .u64 7).wf = true := by decide
  have C1 := Lib.hid (show Calls Try.prog 14 #[.pointer (some ⟨g, 0, none⟩), .int .u64 7, .int .u64 3] w1 fun e w' => e = .returned (.tuple #[.agg #[.int .i64 0, .int .u64 0], .bool false, .int .i64 0]) ∧ Below w1.heap.size w1 w' from ask_any g b 0 [] 7 3 w1 CL.out hw7)
  go_wp2_with fail
  refine C1.out.mono ?_
  rintro e w2 ⟨rfl, hb2⟩
  obtain ⟨W2, hW2⟩ : ∃ W2, w2.alloc (.cells #[.int .i64 0, .int .u64 0] 30) = W2 := ⟨_, rfl⟩
  have b2 : Below w1.heap.size w1 W2 := by rw [← hW2]; exact nextB hb2
  have K2 := Lib.hid (nextC K1.out b2)
  have CL2 := Lib.hid (CL.out.below b2)
  have HW2 := Lib.hid hW2
  clear hb2 b2 C1 CL K1 hW2
  have C2 := Lib.hid (show Calls Try.prog 7 #[.pointer (some ⟨g, 0, none⟩), .int .u64 7, .int .u64 3, .agg #[.int .i64 0, .int .u64 5]] W2 fun ex w' => ex = .returned (.int .i64 0) ∧ ClAt w' g b 1 k1 ∧ Bes g b W2 w' from
    tell_ok g b 0 [] ⟨7, 3, 0, 5⟩ W2 CL2.out hw7 (by decide) (by omega))
  go_wp2_with fail
  rw [HW2.out]
  refine C2.out.mono ?_
  rintro e w3 ⟨rfl, hc3, hb3⟩
  have CL3 := Lib.hid hc3
  have K3 := Lib.hid (K2.out.trans (hb3.below HGB.out.1 HGB.out.2 K2.out.size))
  clear hc3 hb3 C2 CL2 K2 HW2
  have C3 := Lib.hid (show Calls Try.prog 14 #[.pointer (some ⟨g, 0, none⟩), .int .u64 7, .int .u64 3] w3 fun e w' => e = .returned (.tuple #[.agg #[.int .i64 0, .int .u64 5], .bool true, .int .i64 0]) ∧ Below w3.heap.size w3 w' from ask_any g b 1 k1 7 3 w3 CL3.out hw7)
  go_wp2_with fail
  refine C3.out.mono ?_
  rintro e w4 ⟨rfl, hb4⟩
  obtain ⟨W4, hW4⟩ : ∃ W4, w4.alloc (.cells #[.int .i64 0, .int .u64 5] 30) = W4 := ⟨_, rfl⟩
  have b4 : Below w3.heap.size w3 W4 := by rw [← hW4]; exact nextB hb4
  have r4 : Row W4 w4.heap.size 30 #[.int .i64 0, .int .u64 5] := by rw [← hW4]; exact Row.new w4 _ _
  obtain ⟨X, hX⟩ : ∃ X, w4.heap.size = X := ⟨_, rfl⟩
  rw [hX] at r4
  have HX := Lib.hid hX
  have HW4 := Lib.hid hW4
  have K4 := Lib.hid (nextC K3.out b4)
  have CL4 := Lib.hid (CL3.out.below b4)
  have R4 := Lib.hid r4
  clear hb4 b4 r4 C3 CL3 K3 hX hW4
  have C4 := Lib.hid (show Calls Try.prog 14 #[.pointer (some ⟨g, 0, none⟩), .int .u64 7, .int .u64 2] W4 fun e w' => e = .returned (.tuple #[.agg #[.int .i64 0, .int .u64 0], .bool false, .int .i64 180]) ∧ Below W4.heap.size W4 w' from ask_any g b 1 k1 7 2 W4 CL4.out hw7)
  go_wp2_with fail
  rw [HW4.out]
  simp only [HX.out]
  refine C4.out.mono ?_
  rintro e w5 ⟨rfl, hb5⟩
  obtain ⟨W5, hW5⟩ : ∃ W5, w5.alloc (.cells #[.int .i64 0, .int .u64 0] 30) = W5 := ⟨_, rfl⟩
  have b5 : Below W4.heap.size W4 W5 := by rw [← hW5]; exact nextB hb5
  have K5 := Lib.hid (nextC K4.out b5)
  have CL5 := Lib.hid (CL4.out.below b5)
  have r5 := R4.out.over hb5
  have r5W : Row W5 X _ _ := R4.out.over b5
  have y1 := r5.cell 1
  have z0 := r5W.cell 0
  have z1 := r5W.cell 1
  simp at y1 z0 z1
  rw [← hW5] at z0 z1
  have HW5 := Lib.hid hW5
  clear hb5 b5 r5 r5W C4 CL4 K4 R4 HW4 hW5
  have C5 := Lib.hid (show Calls Try.prog 7 #[.pointer (some ⟨g, 0, none⟩), .int .u64 7, .int .u64 3, .agg #[.int .i64 0, .int .u64 6]] W5 fun ex w' => ex = .returned (.int .i64 180) ∧ Below W5.heap.size W5 w' from
    tell_no g b 1 k1 7 3 0 6 W5 CL5.out hw7 (by decide))
  go_wp2_with fail
  rw [HW5.out]
  refine C5.out.mono ?_
  rintro e w6 ⟨rfl, hb6⟩
  have K6 := Lib.hid (nextC K5.out hb6)
  clear hb6 C5 K5
  go_wp2_with fail
  go_ret
  exact ⟨rfl, K6.out⟩
end Go.Proofs.Ytklmabhjkdkjmaa
