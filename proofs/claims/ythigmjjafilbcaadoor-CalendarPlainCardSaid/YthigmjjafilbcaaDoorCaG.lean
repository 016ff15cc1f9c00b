/- Contracts of package cron: May, DayFits, Fits (layer 7). -/
import Derived.Test.YthigmjjafilbcaaDoorCaF
namespace Go.Proofs.YthigmjjafilbcaaDoor
set_option linter.unusedVariables false
set_option maxRecDepth 100000
open Go.RowKit
/-- An expression's value. -/
def xpV (x : Xp) : Value := .agg #[.int .u64 x.b0, .bool x.s0, .int .u64 x.b1, .bool x.s1, .int .u64 x.b2, .bool x.s2, .int .u64 x.b3, .bool x.s3, .int .u64 x.b4, .bool x.s4]
theorem mayX_any (x : Xp) (hx : x.Ok) (w : World) :
    Calls Tryd.prog 32 #[xpV x] w fun e w' => e = .returned (.bool (mayX x)) ∧ Below w.heap.size w w' := by
  unfold xpV mayX
  have C0 := Lib.hid (fmay_any 0 x.b0 x.s0 · (by decide) (by decide) hx.h0)
  have C1 := Lib.hid (fmay_any 1 x.b1 x.s1 · (by decide) (by decide) hx.h1)
  have C2 := Lib.hid (fmay_any 2 x.b2 x.s2 · (by decide) (by decide) hx.h2)
  have C3 := Lib.hid (fmay_any 3 x.b3 x.s3 · (by decide) (by decide) hx.h3)
  have C4 := Lib.hid (fmay_any 4 x.b4 x.s4 · (by decide) (by decide) hx.h4)
  generalize mayF 0 x.b0 = m0 at *
  generalize mayF 1 x.b1 = m1 at *
  generalize mayF 2 x.b2 = m2 at *
  generalize mayF 3 x.b3 = m3 at *
  generalize mayF 4 x.b4 = m4 at *
  generalize x.b0 = b0 at *
  generalize x.b1 = b1 at *
  generalize x.b2 = b2 at *
  generalize x.b3 = b3 at *
  generalize x.b4 = b4 at *
  generalize x.s0 = s0 at *
  generalize x.s1 = s1 at *
  generalize x.s2 = s2 at *
  generalize x.s3 = s3 at *
  generalize x.s4 = s4 at *
  clear hx
  go_enter Tryd.func32, Tryd.ntmps32
  go_wp2_with fail
  go_loopw [6] (fun i wr => ∃ k : Nat, k ≤ 5 ∧ i = .int .i64 k ∧ (0 < k → m0 = true) ∧ (1 < k → m1 = true) ∧ (2 < k → m2 = true) ∧ (3 < k → m3 = true) ∧ (4 < k → m4 = true) ∧ Below (w.alloc (.cells #[.int .u64 b0, .bool s0, .int .u64 b1, .bool s1, .int .u64 b2, .bool s2, .int .u64 b3, .bool s3, .int .u64 b4, .bool s4] 29)).heap.size (w.alloc (.cells #[.int .u64 b0, .bool s0, .int .u64 b1, .bool s1, .int .u64 b2, .bool s2, .int .u64 b3, .bool s3, .int .u64 b4, .bool s4] 29)) wr) (fun i _ => 5 - (intOf i).toNat)
  case atStart => exact ⟨0, by omega, rfl, by omega, by omega, by omega, by omega, by omega, Below.refl _ _⟩
  case round =>
    obtain ⟨k, hk, rfl, g0, g1, g2, g3, g4, hb⟩ := hrel
    have hk6 : k = 0 ∨ k = 1 ∨ k = 2 ∨ k = 3 ∨ k = 4 ∨ k = 5 := by omega
    rcases hk6 with rfl | rfl | rfl | rfl | rfl | rfl
    · have ix : ∀ W : World, (Instr.index 29 (.agg #[.int .u64 b0, .bool s0, .int .u64 b1, .bool s1, .int .u64 b2, .bool s2, .int .u64 b3, .bool s3, .int .u64 b4, .bool s4]) (.int .i64 0)).run Tryd.prog W = .ok (.agg #[.int .u64 b0, .bool s0]) W := fun _ => by kernel_rfl
      cases m0
      · have G := Lib.hid (And.intro g0 (And.intro g1 (And.intro g2 (And.intro g3 g4))))
        have HB := Lib.hid hb
        clear g0 g1 g2 g3 g4 hb
        go_wp2_with fail
        refine (C0.out _).mono ?_
        rintro e w1 ⟨rfl, hb1⟩
        go_wp2_with fail
        go_ret
        exact ⟨ret_bool (by obtain ⟨g0, g1, g2, g3, g4⟩ := G.out; first | rfl | (skip; rfl)), nextA (Below.refl _ _) (nextA HB.out hb1)⟩
      · have G := Lib.hid (And.intro g0 (And.intro g1 (And.intro g2 (And.intro g3 g4))))
        have HB := Lib.hid hb
        clear g0 g1 g2 g3 g4 hb
        go_wp2_with fail
        refine (C0.out _).mono ?_
        rintro e w1 ⟨rfl, hb1⟩
        go_wp2_with fail
        go_roundw
        case rel => exact ⟨1, by omega, rfl, by simp, by omega, by omega, by omega, by omega, nextA HB.out hb1⟩
        case measure => simp [intOf]
    · have ix : ∀ W : World, (Instr.index 29 (.agg #[.int .u64 b0, .bool s0, .int .u64 b1, .bool s1, .int .u64 b2, .bool s2, .int .u64 b3, .bool s3, .int .u64 b4, .bool s4]) (.int .i64 1)).run Tryd.prog W = .ok (.agg #[.int .u64 b1, .bool s1]) W := fun _ => by kernel_rfl
      cases m1
      · have G := Lib.hid (And.intro g0 (And.intro g1 (And.intro g2 (And.intro g3 g4))))
        have HB := Lib.hid hb
        clear g0 g1 g2 g3 g4 hb
        go_wp2_with fail
        refine (C1.out _).mono ?_
        rintro e w1 ⟨rfl, hb1⟩
        go_wp2_with fail
        go_ret
        exact ⟨ret_bool (by obtain ⟨g0, g1, g2, g3, g4⟩ := G.out; first | rfl | (cases g0 (by decide); rfl)), nextA (Below.refl _ _) (nextA HB.out hb1)⟩
      · have G := Lib.hid (And.intro g0 (And.intro g1 (And.intro g2 (And.intro g3 g4))))
        have HB := Lib.hid hb
        clear g0 g1 g2 g3 g4 hb
        go_wp2_with fail
        refine (C1.out _).mono ?_
        rintro e w1 ⟨rfl, hb1⟩
        go_wp2_with fail
        go_roundw
        case rel => exact ⟨2, by omega, rfl, fun _ => G.out.1 (by decide), by simp, by omega, by omega, by omega, nextA HB.out hb1⟩
        case measure => simp [intOf]
    · have ix : ∀ W : World, (Instr.index 29 (.agg #[.int .u64 b0, .bool s0, .int .u64 b1, .bool s1, .int .u64 b2, .bool s2, .int .u64 b3, .bool s3, .int .u64 b4, .bool s4]) (.int .i64 2)).run Tryd.prog W = .ok (.agg #[.int .u64 b2, .bool s2]) W := fun _ => by kernel_rfl
      cases m2
      · have G := Lib.hid (And.intro g0 (And.intro g1 (And.intro g2 (And.intro g3 g4))))
        have HB := Lib.hid hb
        clear g0 g1 g2 g3 g4 hb
        go_wp2_with fail
        refine (C2.out _).mono ?_
        rintro e w1 ⟨rfl, hb1⟩
        go_wp2_with fail
        go_ret
        exact ⟨ret_bool (by obtain ⟨g0, g1, g2, g3, g4⟩ := G.out; first | rfl | (cases g0 (by decide); cases g1 (by decide); rfl)), nextA (Below.refl _ _) (nextA HB.out hb1)⟩
      · have G := Lib.hid (And.intro g0 (And.intro g1 (And.intro g2 (And.intro g3 g4))))
        have HB := Lib.hid hb
        clear g0 g1 g2 g3 g4 hb
        go_wp2_with fail
        refine (C2.out _).mono ?_
        rintro e w1 ⟨rfl, hb1⟩
        go_wp2_with fail
        go_roundw
        case rel => exact ⟨3, by omega, rfl, fun _ => G.out.1 (by decide), fun _ => G.out.2.1 (by decide), by simp, by omega, by omega, nextA HB.out hb1⟩
        case measure => simp [intOf]
    · have ix : ∀ W : World, (Instr.index 29 (.agg #[.int .u64 b0, .bool s0, .int .u64 b1, .bool s1, .int .u64 b2, .bool s2, .int .u64 b3, .bool s3, .int .u64 b4, .bool s4]) (.int .i64 3)).run Tryd.prog W = .ok (.agg #[.int .u64 b3, .bool s3]) W := fun _ => by kernel_rfl
      cases m3
      · have G := Lib.hid (And.intro g0 (And.intro g1 (And.intro g2 (And.intro g3 g4))))
        have HB := Lib.hid hb
        clear g0 g1 g2 g3 g4 hb
        go_wp2_with fail
        refine (C3.out _).mono ?_
        rintro e w1 ⟨rfl, hb1⟩
        go_wp2_with fail
        go_ret
        exact ⟨ret_bool (by obtain ⟨g0, g1, g2, g3, g4⟩ := G.out; first | rfl | (cases g0 (by decide); cases g1 (by decide); cases g2 (by decide); rfl)), nextA (Below.refl _ _) (nextA HB.out hb1)⟩
      · have G := Lib.hid (And.intro g0 (And.intro g1 (And.intro g2 (And.intro g3 g4))))
        have HB := Lib.hid hb
        clear g0 g1 g2 g3 g4 hb
        go_wp2_with fail
        refine (C3.out _).mono ?_
        rintro e w1 ⟨rfl, hb1⟩
        go_wp2_with fail
        go_roundw
        case rel => exact ⟨4, by omega, rfl, fun _ => G.out.1 (by decide), fun _ => G.out.2.1 (by decide), fun _ => G.out.2.2.1 (by decide), by simp, by omega, nextA HB.out hb1⟩
        case measure => simp [intOf]
    · have ix : ∀ W : World, (Instr.index 29 (.agg #[.int .u64 b0, .bool s0, .int .u64 b1, .bool s1, .int .u64 b2, .bool s2, .int .u64 b3, .bool s3, .int .u64 b4, .bool s4]) (.int .i64 4)).run Tryd.prog W = .ok (.agg #[.int .u64 b4, .bool s4]) W := fun _ => by kernel_rfl
      cases m4
      · have G := Lib.hid (And.intro g0 (And.intro g1 (And.intro g2 (And.intro g3 g4))))
        have HB := Lib.hid hb
        clear g0 g1 g2 g3 g4 hb
        go_wp2_with fail
        refine (C4.out _).mono ?_
        rintro e w1 ⟨rfl, hb1⟩
        go_wp2_with fail
        go_ret
        exact ⟨ret_bool (by obtain ⟨g0, g1, g2, g3, g4⟩ := G.out; first | rfl | (cases g0 (by decide); cases g1 (by decide); cases g2 (by decide); cases g3 (by decide); rfl)), nextA (Below.refl _ _) (nextA HB.out hb1)⟩
      · have G := Lib.hid (And.intro g0 (And.intro g1 (And.intro g2 (And.intro g3 g4))))
        have HB := Lib.hid hb
        clear g0 g1 g2 g3 g4 hb
        go_wp2_with fail
        refine (C4.out _).mono ?_
        rintro e w1 ⟨rfl, hb1⟩
        go_wp2_with fail
        go_roundw
        case rel => exact ⟨5, by omega, rfl, fun _ => G.out.1 (by decide), fun _ => G.out.2.1 (by decide), fun _ => G.out.2.2.1 (by decide), fun _ => G.out.2.2.2.1 (by decide), by simp, nextA HB.out hb1⟩
        case measure => simp [intOf]
    · cases g0 (by decide)
      cases g1 (by decide)
      cases g2 (by decide)
      cases g3 (by decide)
      cases g4 (by decide)
      go_wp2_with fail
      go_ret
      exact ⟨rfl, nextA (Below.refl _ _) hb⟩
end Go.Proofs.YthigmjjafilbcaaDoor
