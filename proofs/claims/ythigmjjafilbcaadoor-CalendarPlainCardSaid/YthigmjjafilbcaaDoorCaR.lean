/- Contracts of the references of layers 6 and 7: Has, May, DayFits, Fits. -/
import Derived.Test.YthigmjjafilbcaaDoorCaI
namespace Go.Proofs.YthigmjjafilbcaaDoor
set_option linter.unusedVariables false
set_option maxRecDepth 100000
open Go.RowKit
theorem odd_eq (c : Nat) : ((c : Int) % 2 == 1) = decide (c % 2 = 1) := by
  rw [Bool.eq_iff_iff]
  simp only [beq_iff_eq, decide_eq_true_eq]
  omega
theorem refHas_any (b : Nat) (s : Bool) (n : Int) (w : World) (hb : b < 18446744073709551616) :
    Calls Tryd.prog 31 #[.agg #[.int .u64 b, .bool s], .int .i64 n] w fun e w' => e = .returned (.bool (hasF b n)) ∧ Below w.heap.size w w' := by
  by_cases h0 : 0 ≤ n
  · by_cases h1 : n ≤ 63
    · obtain ⟨N, rfl⟩ : ∃ N : Nat, n = N := ⟨n.toNat, by omega⟩
      have hR : hasF b N = b.testBit N := by unfold hasF; simp [h1]
      rw [hR]
      clear hR
      have d0 : decide ((N : Int) < 0) = false := decide_eq_false (by omega)
      go_enter Tryd.func31, Tryd.ntmps31
      go_wp2_with fail
      go_loop [5, 6] (fun v i => ∃ k : Nat, k ≤ N ∧ i = .int .i64 k ∧ v = .int .u64 ((b / 2 ^ k : Nat) : Int)) (fun _ i => N - (intOf i).toNat)
      case atStart => exact ⟨0, by omega, rfl, by simp⟩
      case round =>
        obtain ⟨k, hk, rfl, rfl⟩ := hrel
        have hle : b / 2 ^ k ≤ b := Nat.div_le_self _ _
        have hstep := Lib.hid (show b / 2 ^ (k + 1) = b / 2 ^ k / 2 by rw [Nat.pow_succ, Nat.div_div_eq_div_mul])
        have hbit := Lib.hid (Nat.testBit_eq_decide_div_mod_eq (x := b) (i := k))
        generalize b / 2 ^ k = c at *
        by_cases hlt : k < N
        · go_wp2_with fail
          go_round
          case rel => exact ⟨k + 1, by omega, by go_num, by rw [hstep.out]; first | rfl | (simp; done)⟩
          case measure => simp [intOf]; omega
        · have e : k = N := by omega
          subst e
          go_wp2_with fail
          go_ret
          exact ⟨ret_bool (by rw [hbit.out]; exact odd_eq c), (Below.refl _ _).alloc (Nat.le_refl _) _⟩
    · have hR : hasF b n = false := by unfold hasF; rw [decide_eq_false h1]; simp
      rw [hR]
      clear hR
      go_enter Tryd.func31, Tryd.ntmps31
      go_wp2_with fail
      go_ret
      exact ⟨rfl, (Below.refl _ _).alloc (Nat.le_refl _) _⟩
  · have hR : hasF b n = false := by unfold hasF; rw [decide_eq_false h0]; rfl
    rw [hR]
    clear hR
    go_enter Tryd.func31, Tryd.ntmps31
    go_wp2_with fail
    go_ret
    exact ⟨rfl, (Below.refl _ _).alloc (Nat.le_refl _) _⟩
theorem refLow_any (k : Int) (w : World) : Calls Tryd.prog 54 #[.int .i64 k] w fun e w' => e = .returned (.int .i64 (lowK k)) ∧ w' = w := by
  go_enter Tryd.func54, Tryd.ntmps54
  by_cases h2 : k = 2
  · subst h2
    go_wp2_with fail
    go_ret
    exact ⟨rfl, rfl⟩
  · by_cases h3 : k = 3
    · subst h3
      go_wp2_with fail
      go_ret
      exact ⟨rfl, rfl⟩
    · have e : lowK k = 0 := by unfold lowK; rw [if_neg (by omega)]
      rw [e]
      have k2 : (k == 2) = false := by simpa using h2
      have k3 : (k == 3) = false := by simpa using h3
      go_wp2_with fail
      go_ret
      exact ⟨rfl, rfl⟩
theorem refHigh_any (k : Int) (w : World) (h0 : 0 ≤ k) (h4 : k ≤ 4) : Calls Tryd.prog 55 #[.int .i64 k] w fun e w' => e = .returned (.int .i64 (highK k)) ∧ w' = w := by
  rcases five h0 h4 with rfl | rfl | rfl | rfl | rfl
  · have ix : ∀ W : World, (Instr.index 93 (.agg #[.int .i64 59, .int .i64 23, .int .i64 31, .int .i64 12, .int .i64 6]) (.int .i64 0)).run Tryd.prog W = .ok (.int .i64 59) W := fun _ => by kernel_rfl
    go_enter Tryd.func55, Tryd.ntmps55
    go_wp2_with fail
    go_ret
    exact ⟨rfl, rfl⟩
  · have ix : ∀ W : World, (Instr.index 93 (.agg #[.int .i64 59, .int .i64 23, .int .i64 31, .int .i64 12, .int .i64 6]) (.int .i64 1)).run Tryd.prog W = .ok (.int .i64 23) W := fun _ => by kernel_rfl
    go_enter Tryd.func55, Tryd.ntmps55
    go_wp2_with fail
    go_ret
    exact ⟨rfl, rfl⟩
  · have ix : ∀ W : World, (Instr.index 93 (.agg #[.int .i64 59, .int .i64 23, .int .i64 31, .int .i64 12, .int .i64 6]) (.int .i64 2)).run Tryd.prog W = .ok (.int .i64 31) W := fun _ => by kernel_rfl
    go_enter Tryd.func55, Tryd.ntmps55
    go_wp2_with fail
    go_ret
    exact ⟨rfl, rfl⟩
  · have ix : ∀ W : World, (Instr.index 93 (.agg #[.int .i64 59, .int .i64 23, .int .i64 31, .int .i64 12, .int .i64 6]) (.int .i64 3)).run Tryd.prog W = .ok (.int .i64 12) W := fun _ => by kernel_rfl
    go_enter Tryd.func55, Tryd.ntmps55
    go_wp2_with fail
    go_ret
    exact ⟨rfl, rfl⟩
  · have ix : ∀ W : World, (Instr.index 93 (.agg #[.int .i64 59, .int .i64 23, .int .i64 31, .int .i64 12, .int .i64 6]) (.int .i64 4)).run Tryd.prog W = .ok (.int .i64 6) W := fun _ => by kernel_rfl
    go_enter Tryd.func55, Tryd.ntmps55
    go_wp2_with fail
    go_ret
    exact ⟨rfl, rfl⟩
theorem kind_true (k : Int) (h0 : 0 ≤ k) (h4 : k ≤ 4) : decide (k < 0) = false ∧ decide (4 < k) = false := ⟨decide_eq_false (by omega), decide_eq_false (by omega)⟩
theorem refFMay_any (k : Int) (b : Nat) (s : Bool) (w : World) (h0 : 0 ≤ k) (h4 : k ≤ 4) (hb : b < 18446744073709551616) :
    Calls Tryd.prog 25 #[.int .i64 k, .agg #[.int .u64 b, .bool s]] w fun e w' => e = .returned (.bool (mayF k b)) ∧ Below w.heap.size w w' := by
  have HI := Lib.hid (mayF_iff h0 h4 hb)
  have C0 := Lib.hid (fun n W => refHas_any b s n W hb)
  have C1 := Lib.hid (refLow_any k)
  have C2 := Lib.hid (refHigh_any k · h0 h4)
  by_cases hz : b = 0
  · subst hz
    have hR : mayF k 0 = false := rfl
    rw [hR]
    clear hR
    go_enter Tryd.func25, Tryd.ntmps25
    go_wp2_with fail
    go_ret
    exact ⟨rfl, (Below.refl _ _).alloc (Nat.le_refl _) _⟩
  · generalize hR : mayF k b = R at *
    have hz2 : ((b : Int) == 0) = false := by rw [beq0]; simpa using hz
    generalize lowK k = lo at *
    generalize highK k = hi at *
    have K0 := Lib.hid (Row.new w 27 #[.int .u64 b, .bool s])
    clear hR
    go_enter Tryd.func25, Tryd.ntmps25
    go_wp2_with fail
    go_loopw [5] (fun i wr => ∃ n : Nat, n ≤ 64 ∧ i = .int .i64 n ∧ (∀ j : Nat, j < n → hasF b j = true → lo ≤ (j : Int) ∧ (j : Int) ≤ hi) ∧ Below (w.alloc (.cells #[.int .u64 b, .bool s] 27)).heap.size (w.alloc (.cells #[.int .u64 b, .bool s] 27)) wr) (fun i _ => 64 - (intOf i).toNat)
    case atStart => exact ⟨0, by omega, rfl, fun j hj => absurd hj (by omega), Below.refl _ _⟩
    case round =>
      obtain ⟨n, hn, rfl, hall, hbw⟩ := hrel
      have HA := Lib.hid hall
      have HB := Lib.hid hbw
      have kc := fun o => (K0.out.below HB.out (by simp)).cell o
      clear hall hbw
      by_cases hlt : n < 64
      · go_wp2_with fail
        refine (C0.out _ _).mono ?_
        rintro e w1 ⟨rfl, hb1⟩
        cases hh : hasF b n
        · go_wp2_with fail
          go_roundw
          case rel =>
            refine ⟨n + 1, by omega, by go_num, fun j hj he => ?_, nextC HB.out hb1⟩
            by_cases e : j = n
            · subst e; rw [hh] at he; cases he
            · exact HA.out j (by omega) he
          case measure => simp [intOf]; omega
        · by_cases hl : (n : Int) < lo
          · have hf : R = false := by
              cases R with
              | false => rfl
              | true => have := ((HI.out.1 rfl).2 n hlt hh).1; omega
            subst hf
            go_wp2_with fail
            refine (C1.out _).mono ?_
            rintro e w2 ⟨rfl, rfl⟩
            go_wp2_with fail
            go_ret
            exact ⟨rfl, nextA (Below.refl _ _) (nextC HB.out hb1)⟩
          · have hl2 : decide ((n : Int) < lo) = false := decide_eq_false hl
            by_cases hg : hi < (n : Int)
            · have hf : R = false := by
                cases R with
                | false => rfl
                | true => have := ((HI.out.1 rfl).2 n hlt hh).2; omega
              subst hf
              go_wp2_with fail
              refine (C1.out _).mono ?_
              rintro e w2 ⟨rfl, rfl⟩
              go_wp2_with fail
              refine (C2.out _).mono ?_
              rintro e w2 ⟨rfl, rfl⟩
              go_wp2_with fail
              go_ret
              exact ⟨rfl, nextA (Below.refl _ _) (nextC HB.out hb1)⟩
            · go_wp2_with fail
              refine (C1.out _).mono ?_
              rintro e w2 ⟨rfl, rfl⟩
              go_wp2_with fail
              refine (C2.out _).mono ?_
              rintro e w2 ⟨rfl, rfl⟩
              go_wp2_with fail
              go_roundw
              case rel =>
                refine ⟨n + 1, by omega, by go_num, fun j hj he => ?_, nextC HB.out hb1⟩
                by_cases e : j = n
                · subst e; omega
                · exact HA.out j (by omega) he
              case measure => simp [intOf]; omega
      · have e : n = 64 := by omega
        subst e
        have ht : R = true := HI.out.2 ⟨hz, HA.out⟩
        subst ht
        go_wp2_with fail
        go_ret
        exact ⟨rfl, nextA (Below.refl _ _) HB.out⟩
theorem refMayX_any (x : Xp) (hx : x.Ok) (w : World) :
    Calls Tryd.prog 9 #[xpV x] w fun e w' => e = .returned (.bool (mayX x)) ∧ Below w.heap.size w w' := by
  unfold xpV mayX
  have C0 := Lib.hid (refFMay_any 0 x.b0 x.s0 · (by decide) (by decide) hx.h0)
  have C1 := Lib.hid (refFMay_any 1 x.b1 x.s1 · (by decide) (by decide) hx.h1)
  have C2 := Lib.hid (refFMay_any 2 x.b2 x.s2 · (by decide) (by decide) hx.h2)
  have C3 := Lib.hid (refFMay_any 3 x.b3 x.s3 · (by decide) (by decide) hx.h3)
  have C4 := Lib.hid (refFMay_any 4 x.b4 x.s4 · (by decide) (by decide) hx.h4)
  generalize mayF 0 x.b0 = m0 at *
  generalize mayF 1 x.b1 = m1 at *
  generalize mayF 2 x.b2 = m2 at *
  generalize mayF 3 x.b3 = m3 at *
  generalize mayF 4 x.b4 = m4 at *
  generalize x.b0 = b0 at *
  generalize x.b1 = b1 at *
  generalize x.b2 = b2 at *
  generalize x.b3 = b3 at *
  generalize x.b4 = b4 at *
  generalize x.s0 = s0 at *
  generalize x.s1 = s1 at *
  generalize x.s2 = s2 at *
  generalize x.s3 = s3 at *
  generalize x.s4 = s4 at *
  clear hx
  go_enter Tryd.func9, Tryd.ntmps9
  have R0 := Lib.hid (Row.new w 29 #[.int .u64 b0, .bool s0, .int .u64 b1, .bool s1, .int .u64 b2, .bool s2, .int .u64 b3, .bool s3, .int .u64 b4, .bool s4])
  go_wp2_with fail
  go_loopw [3] (fun i wr => ∃ k : Nat, k ≤ 5 ∧ i = .int .i64 k ∧ (0 < k → m0 = true) ∧ (1 < k → m1 = true) ∧ (2 < k → m2 = true) ∧ (3 < k → m3 = true) ∧ (4 < k → m4 = true) ∧ Below (w.alloc (.cells #[.int .u64 b0, .bool s0, .int .u64 b1, .bool s1, .int .u64 b2, .bool s2, .int .u64 b3, .bool s3, .int .u64 b4, .bool s4] 29)).heap.size (w.alloc (.cells #[.int .u64 b0, .bool s0, .int .u64 b1, .bool s1, .int .u64 b2, .bool s2, .int .u64 b3, .bool s3, .int .u64 b4, .bool s4] 29)) wr) (fun i _ => 5 - (intOf i).toNat)
  case atStart => exact ⟨0, by omega, rfl, by omega, by omega, by omega, by omega, by omega, Below.refl _ _⟩
  case round =>
    obtain ⟨k, hk, rfl, g0, g1, g2, g3, g4, hb⟩ := hrel
    have hk6 : k = 0 ∨ k = 1 ∨ k = 2 ∨ k = 3 ∨ k = 4 ∨ k = 5 := by omega
    rcases hk6 with rfl | rfl | rfl | rfl | rfl | rfl
    · have kr := fun o => (R0.out.below hb (by simp)).cell o
      cases m0
      · have G := Lib.hid (And.intro g0 (And.intro g1 (And.intro g2 (And.intro g3 g4))))
        have HB := Lib.hid hb
        clear g0 g1 g2 g3 g4 hb
        go_wp2_with fail
        refine (C0.out _).mono ?_
        rintro e w1 ⟨rfl, hb1⟩
        go_wp2_with fail
        go_ret
        exact ⟨ret_bool (by obtain ⟨g0, g1, g2, g3, g4⟩ := G.out; first | rfl | (skip; rfl)), nextA (Below.refl _ _) (nextC HB.out hb1)⟩
      · have G := Lib.hid (And.intro g0 (And.intro g1 (And.intro g2 (And.intro g3 g4))))
        have HB := Lib.hid hb
        clear g0 g1 g2 g3 g4 hb
        go_wp2_with fail
        refine (C0.out _).mono ?_
        rintro e w1 ⟨rfl, hb1⟩
        go_wp2_with fail
        go_roundw
        case rel => exact ⟨1, by omega, rfl, by simp, by omega, by omega, by omega, by omega, nextC HB.out hb1⟩
        case measure => simp [intOf]
    · have kr := fun o => (R0.out.below hb (by simp)).cell o
      cases m1
      · have G := Lib.hid (And.intro g0 (And.intro g1 (And.intro g2 (And.intro g3 g4))))
        have HB := Lib.hid hb
        clear g0 g1 g2 g3 g4 hb
        go_wp2_with fail
        refine (C1.out _).mono ?_
        rintro e w1 ⟨rfl, hb1⟩
        go_wp2_with fail
        go_ret
        exact ⟨ret_bool (by obtain ⟨g0, g1, g2, g3, g4⟩ := G.out; first | rfl | (cases g0 (by decide); rfl)), nextA (Below.refl _ _) (nextC HB.out hb1)⟩
      · have G := Lib.hid (And.intro g0 (And.intro g1 (And.intro g2 (And.intro g3 g4))))
        have HB := Lib.hid hb
        clear g0 g1 g2 g3 g4 hb
        go_wp2_with fail
        refine (C1.out _).mono ?_
        rintro e w1 ⟨rfl, hb1⟩
        go_wp2_with fail
        go_roundw
        case rel => exact ⟨2, by omega, rfl, fun _ => G.out.1 (by decide), by simp, by omega, by omega, by omega, nextC HB.out hb1⟩
        case measure => simp [intOf]
    · have kr := fun o => (R0.out.below hb (by simp)).cell o
      cases m2
      · have G := Lib.hid (And.intro g0 (And.intro g1 (And.intro g2 (And.intro g3 g4))))
        have HB := Lib.hid hb
        clear g0 g1 g2 g3 g4 hb
        go_wp2_with fail
        refine (C2.out _).mono ?_
        rintro e w1 ⟨rfl, hb1⟩
        go_wp2_with fail
        go_ret
        exact ⟨ret_bool (by obtain ⟨g0, g1, g2, g3, g4⟩ := G.out; first | rfl | (cases g0 (by decide); cases g1 (by decide); rfl)), nextA (Below.refl _ _) (nextC HB.out hb1)⟩
      · have G := Lib.hid (And.intro g0 (And.intro g1 (And.intro g2 (And.intro g3 g4))))
        have HB := Lib.hid hb
        clear g0 g1 g2 g3 g4 hb
        go_wp2_with fail
        refine (C2.out _).mono ?_
        rintro e w1 ⟨rfl, hb1⟩
        go_wp2_with fail
        go_roundw
        case rel => exact ⟨3, by omega, rfl, fun _ => G.out.1 (by decide), fun _ => G.out.2.1 (by decide), by simp, by omega, by omega, nextC HB.out hb1⟩
        case measure => simp [intOf]
    · have kr := fun o => (R0.out.below hb (by simp)).cell o
      cases m3
      · have G := Lib.hid (And.intro g0 (And.intro g1 (And.intro g2 (And.intro g3 g4))))
        have HB := Lib.hid hb
        clear g0 g1 g2 g3 g4 hb
        go_wp2_with fail
        refine (C3.out _).mono ?_
        rintro e w1 ⟨rfl, hb1⟩
        go_wp2_with fail
        go_ret
        exact ⟨ret_bool (by obtain ⟨g0, g1, g2, g3, g4⟩ := G.out; first | rfl | (cases g0 (by decide); cases g1 (by decide); cases g2 (by decide); rfl)), nextA (Below.refl _ _) (nextC HB.out hb1)⟩
      · have G := Lib.hid (And.intro g0 (And.intro g1 (And.intro g2 (And.intro g3 g4))))
        have HB := Lib.hid hb
        clear g0 g1 g2 g3 g4 hb
        go_wp2_with fail
        refine (C3.out _).mono ?_
        rintro e w1 ⟨rfl, hb1⟩
        go_wp2_with fail
        go_roundw
        case rel => exact ⟨4, by omega, rfl, fun _ => G.out.1 (by decide), fun _ => G.out.2.1 (by decide), fun _ => G.out.2.2.1 (by decide), by simp, by omega, nextC HB.out hb1⟩
        case measure => simp [intOf]
    · have kr := fun o => (R0.out.below hb (by simp)).cell o
      cases m4
      · have G := Lib.hid (And.intro g0 (And.intro g1 (And.intro g2 (And.intro g3 g4))))
        have HB := Lib.hid hb
        clear g0 g1 g2 g3 g4 hb
        go_wp2_with fail
        refine (C4.out _).mono ?_
        rintro e w1 ⟨rfl, hb1⟩
        go_wp2_with fail
        go_ret
        exact ⟨ret_bool (by obtain ⟨g0, g1, g2, g3, g4⟩ := G.out; first | rfl | (cases g0 (by decide); cases g1 (by decide); cases g2 (by decide); cases g3 (by decide); rfl)), nextA (Below.refl _ _) (nextC HB.out hb1)⟩
      · have G := Lib.hid (And.intro g0 (And.intro g1 (And.intro g2 (And.intro g3 g4))))
        have HB := Lib.hid hb
        clear g0 g1 g2 g3 g4 hb
        go_wp2_with fail
        refine (C4.out _).mono ?_
        rintro e w1 ⟨rfl, hb1⟩
        go_wp2_with fail
        go_roundw
        case rel => exact ⟨5, by omega, rfl, fun _ => G.out.1 (by decide), fun _ => G.out.2.1 (by decide), fun _ => G.out.2.2.1 (by decide), fun _ => G.out.2.2.2.1 (by decide), by simp, nextC HB.out hb1⟩
        case measure => simp [intOf]
    · cases g0 (by decide)
      cases g1 (by decide)
      cases g2 (by decide)
      cases g3 (by decide)
      cases g4 (by decide)
      go_wp2_with fail
      go_ret
      exact ⟨rfl, nextA (Below.refl _ _) hb⟩
end Go.Proofs.YthigmjjafilbcaaDoor
