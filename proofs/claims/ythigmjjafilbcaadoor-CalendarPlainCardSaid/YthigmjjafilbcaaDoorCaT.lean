/- Contracts of the reference of layer 41: day, May, Works. -/
import Derived.Test.YthigmjjafilbcaaDoorCaO
namespace Go.Proofs.YthigmjjafilbcaaDoor
set_option linter.unusedVariables false
set_option maxRecDepth 100000
open Go.RowKit
theorem even_eq (c : Nat) : ((c : Int) % 2 == 0) = !decide (c % 2 = 1) := by
  rw [Bool.eq_iff_iff]
  simp only [beq_iff_eq, Bool.not_eq_true', decide_eq_false_iff_not]
  omega
theorem refday_any (n : Int) (w : World) : Calls Tryd.prog 23 #[.int .i64 n] w fun e w' => e = .returned (.bool (inB n)) ∧ w' = w := by
  unfold inB
  go_enter Tryd.func23, Tryd.ntmps23
  by_cases h0 : 0 ≤ n
  · by_cases h1 : n < 157054
    · go_wp2_with fail
      go_ret
      exact ⟨ret_bool (by simp [h0, h1]), rfl⟩
    · go_wp2_with fail
      go_ret
      exact ⟨ret_bool (by rw [decide_eq_false (show ¬ n < 157054 by omega)]), rfl⟩
  · go_wp2_with fail
    go_ret
    exact ⟨ret_bool (by rw [decide_eq_false (show ¬ 0 ≤ n by omega)]; rfl), rfl⟩
/-- A day of the free ones that may be. -/
def good1 (off on : List Int) (j : Nat) : Prop := inB (off.getD j 0) = true ∧ ¬ off.getD j 0 ∈ on ∧ (j = 0 ∨ off.getD (j - 1) 0 < off.getD j 0)
def good2 (on : List Int) (j : Nat) : Prop := inB (on.getD j 0) = true ∧ (j = 0 ∨ on.getD (j - 1) 0 < on.getD j 0)
theorem mayC_goods {k : Nat} {off on : List Int} : mayC k off on = true ↔ k < 127 ∧ off.length ≤ 100 ∧ on.length ≤ 100 ∧ (∀ j, j < off.length → good1 off on j) ∧ (∀ j, j < on.length → good2 on j) := by
  constructor
  · intro h
    obtain ⟨h1, h2, h3, h4, h5, h6⟩ := mayC_parts h
    refine ⟨h1, h3, h5, fun j hj => ⟨(okL_iff.1 h2 j hj).1, ?_, (okL_iff.1 h2 j hj).2⟩, fun j hj => okL_iff.1 h4 j hj⟩
    exact h6 _ (by rw [getD_of hj]; exact List.getElem_mem _)
  · rintro ⟨h1, h2, h3, h4, h5⟩
    unfold mayC listB
    simp only [Bool.and_eq_true, decide_eq_true_eq, Bool.not_eq_true', List.any_eq_false]
    refine ⟨h1, ⟨okL_iff.2 fun j hj => ⟨(h4 j hj).1, (h4 j hj).2.2⟩, h2⟩, ⟨okL_iff.2 fun j hj => h5 j hj, h3⟩, fun x hx => ?_⟩
    obtain ⟨j, hj, rfl⟩ := List.mem_iff_getElem.1 hx
    have := (h4 j hj).2.1
    rwa [getD_of hj] at this
theorem mayC_bad {k : Nat} {off on : List Int} (h : ¬ (k < 127 ∧ off.length ≤ 100 ∧ on.length ≤ 100 ∧ (∀ j, j < off.length → good1 off on j) ∧ (∀ j, j < on.length → good2 on j))) : mayC k off on = false := by
  cases hm : mayC k off on with
  | false => rfl
  | true => exact absurd (mayC_goods.1 hm) h
/-- How the reference's three first tests come out. -/
def head3 (k : Nat) (off on : List Int) : Bool := decide (k < 127) && (decide (off.length ≤ 100) && decide (on.length ≤ 100))
set_option maxHeartbeats 1000000 in
theorem refCMay_any (v : Value) (k : Nat) (off on : List Int) (w : World) (h : CalAt w v k off on) :
    Calls Tryd.prog 7 #[v] w fun e w' => e = .returned (.bool (mayC k off on)) ∧ Below w.heap.size w w' := by
  obtain ⟨A, cA, B, cB, rfl, ha, hb⟩ := h.ex
  have ho := h.ho
  have hn := h.hn
  have HG := Lib.hid (@mayC_bad k off on)
  have HT := Lib.hid (@mayC_goods k off on).2
  have K := Lib.hid (Row.new w 33 #[.int .u8 k, .slice A off.length cA, .slice B on.length cB])
  obtain ⟨WB, hWB⟩ : ∃ WB, w.alloc (.cells #[.int .u8 k, .slice A off.length cA, .slice B on.length cB] 33) = WB := ⟨_, rfl⟩
  have Q0 := Lib.hid (show Below w.heap.size w WB by rw [← hWB]; exact nextB (Below.refl _ _))
  rw [hWB] at K
  have kc := fun o => K.out.cell o
  have HW := Lib.hid hWB
  have CD := Lib.hid refday_any
  have CH := Lib.hid (fun x W (hW : Below w.heap.size w W) => has_any B cB on x W (hb.over hW) (by omega))
  clear h hWB
  generalize mayC k off on = R at *
  by_cases g1 : k < 127
  · by_cases g2 : off.length ≤ 100
    · by_cases g3 : on.length ≤ 100
      · have i1 : (k : Int) < 127 := by omega
        have i2 : (off.length : Int) ≤ 100 := by omega
        have i3 : (on.length : Int) ≤ 100 := by omega
        go_enter Tryd.func7, Tryd.ntmps7
        go_wp2_with fail
        rw [HW.out]
        go_loopw [3, 4] (fun ok i wr => ∃ (q : Bool) (j : Nat), j ≤ off.length ∧ ok = .bool q ∧ i = .int .i64 j ∧ ((q = true ∧ ∀ l, l < j → good1 off on l) ∨ (q = false ∧ R = false)) ∧ Below WB.heap.size WB wr) (fun ok i _ => off.length - (intOf i).toNat)
        case atStart => exact ⟨true, 0, by omega, rfl, rfl, .inl ⟨rfl, fun l hl => absurd hl (by omega)⟩, Below.refl _ _⟩
        case round =>
          obtain ⟨q, j, hj, rfl, rfl, hq, hbw⟩ := hrel
          have HB := Lib.hid hbw
          have QW := Lib.hid (nextC Q0.out hbw)
          have kd := fun o => (K.out.over hbw).cell o
          clear hbw kc
          rcases hq with ⟨rfl, hall⟩ | ⟨rfl, hR⟩
          · have HA := Lib.hid hall
            clear hall
            by_cases hlt : j < off.length
            · obtain ⟨ad, rfl, hbl, hc⟩ := (ha.over QW.out) j hlt
              obtain ⟨x, hx⟩ : ∃ x, off[j] = x := ⟨_, rfl⟩
              rw [hx] at hc
              have HX := Lib.hid (show off.getD j 0 = x by rw [getD_of hlt]; exact hx)
              have HL := Lib.hid hlt
              clear hx
              have CD1 := Lib.hid (fun W => (CD.out x W).mono fun e w' (h : _ ∧ _) => h)
              cases hin : inB x
              · have HF := Lib.hid (HG.out (fun g => by have := (g.2.2.2.1 j HL.out).1; rw [HX.out, hin] at this; cases this))
                rw [hin] at CD1
                go_wp2_with fail
                go_big_quiet (first | (go_at_call 23; refine Calls.quiet_of_same (CD1.out _)) | (go_at_call 24; refine Calls.quiet_of_same (CH1.out _ (below_drewN QW.out _))))
                go_wp2_with fail
                go_roundw
                case rel => exact ⟨false, j + 1, by omega, by simp, by go_num, .inr ⟨rfl, HF.out⟩, below_drewN HB.out _⟩
                case measure => simp [intOf]; omega
              · rw [hin] at CD1
                have CH1 := Lib.hid (fun W hW => CH.out x W hW)
                cases hon : decide (x ∈ on)
                · rw [hon] at CH1
                  by_cases hj0 : j = 0
                  · have b0 : ((j : Int) == 0) = true := by rw [hj0]; rfl
                    have HG1 := Lib.hid (show good1 off on j from ⟨by rw [HX.out]; exact hin, by rw [HX.out]; exact of_decide_eq_false hon, .inl hj0⟩)
                    clear hj0
                    go_wp2_with fail
                    go_big_quiet (first | (go_at_call 23; refine Calls.quiet_of_same (CD1.out _)) | (go_at_call 24; refine Calls.quiet_of_same (CH1.out _ (below_drewN QW.out _))))
                    go_wp2_with fail
                    go_roundw
                    case rel => exact ⟨true, j + 1, by omega, by simp, by go_num, .inl ⟨rfl, fun l hl => by
                      by_cases e : l = j
                      · subst e; exact HG1.out
                      · exact HA.out l (by omega)⟩, below_drewN HB.out _⟩
                    case measure => simp [intOf]; omega
                  · have b0 : ((j : Int) == 0) = false := by simpa using hj0
                    obtain ⟨m, hm⟩ : ∃ m, j - 1 = m := ⟨_, rfl⟩
                    have hml : m < off.length := by omega
                    have hc2 := (ha.over QW.out).at_ hml
                    obtain ⟨y, hy⟩ : ∃ y, off[m] = y := ⟨_, rfl⟩
                    rw [hy] at hc2
                    have HY := Lib.hid (show off.getD (j - 1) 0 = y by rw [hm, getD_of hml]; exact hy)
                    have e1 : (j : Int) - 1 = (m : Int) := by omega
                    clear hy hm
                    have HJ0 := Lib.hid hj0
                    clear hj0
                    by_cases hyx : y < x
                    · have HG1 := Lib.hid (show good1 off on j from ⟨by rw [HX.out]; exact hin, by rw [HX.out]; exact of_decide_eq_false hon, .inr (by rw [HX.out, HY.out]; exact hyx)⟩)
                      go_wp2_with fail
                      go_big_quiet (first | (go_at_call 23; refine Calls.quiet_of_same (CD1.out _)) | (go_at_call 24; refine Calls.quiet_of_same (CH1.out _ (below_drewN QW.out _))))
                      go_wp2_with fail
                      go_roundw
                      case rel => exact ⟨true, j + 1, by omega, by simp, by go_num, .inl ⟨rfl, fun l hl => by
                        by_cases e : l = j
                        · subst e; exact HG1.out
                        · exact HA.out l (by omega)⟩, below_drewN HB.out _⟩
                      case measure => simp [intOf]; omega
                    · have HF := Lib.hid (HG.out (fun g => by have := (g.2.2.2.1 j HL.out).2.2; rw [HX.out, HY.out] at this; rcases this with h0 | h0; exact HJ0.out h0; exact hyx h0))
                      have hyx2 : decide (y < x) = false := decide_eq_false hyx
                      go_wp2_with fail
                      go_big_quiet (first | (go_at_call 23; refine Calls.quiet_of_same (CD1.out _)) | (go_at_call 24; refine Calls.quiet_of_same (CH1.out _ (below_drewN QW.out _))))
                      go_wp2_with fail
                      go_roundw
                      case rel => exact ⟨false, j + 1, by omega, by simp, by go_num, .inr ⟨rfl, HF.out⟩, below_drewN HB.out _⟩
                      case measure => simp [intOf]; omega
                · rw [hon] at CH1
                  have HF := Lib.hid (HG.out (fun g => by have := (g.2.2.2.1 j HL.out).2.1; rw [HX.out] at this; exact this (of_decide_eq_true hon)))
                  go_wp2_with fail
                  go_big_quiet (first | (go_at_call 23; refine Calls.quiet_of_same (CD1.out _)) | (go_at_call 24; refine Calls.quiet_of_same (CH1.out _ (below_drewN QW.out _))))
                  go_wp2_with fail
                  go_roundw
                  case rel => exact ⟨false, j + 1, by omega, by simp, by go_num, .inr ⟨rfl, HF.out⟩, below_drewN HB.out _⟩
                  case measure => simp [intOf]; omega
            · have e : j = off.length := by omega
              subst e
              go_wp2_with fail
              have G1 := Lib.hid HA.out
              clear HA hj hlt
              go_loopw [3, 5] (fun ok i wr' => ∃ (q : Bool) (j : Nat), j ≤ on.length ∧ ok = .bool q ∧ i = .int .i64 j ∧ ((q = true ∧ ∀ l, l < j → good2 on l) ∨ (q = false ∧ R = false)) ∧ Below WB.heap.size WB wr') (fun ok i _ => on.length - (intOf i).toNat)
              case atStart => exact ⟨true, 0, by omega, rfl, rfl, .inl ⟨rfl, fun l hl => absurd hl (by omega)⟩, HB.out⟩
              case round =>
                obtain ⟨q, j, hj, rfl, rfl, hq, hbw⟩ := hrel
                clear HB QW kd
                have HB := Lib.hid hbw
                have QW := Lib.hid (nextC Q0.out hbw)
                have kd := fun o => (K.out.over hbw).cell o
                clear hbw
                rcases hq with ⟨rfl, hall⟩ | ⟨rfl, hR⟩
                · have HA := Lib.hid hall
                  clear hall
                  by_cases hlt : j < on.length
                  · obtain ⟨ad, rfl, hbl, hc⟩ := (hb.over QW.out) j hlt
                    obtain ⟨x, hx⟩ : ∃ x, on[j] = x := ⟨_, rfl⟩
                    rw [hx] at hc
                    have HX := Lib.hid (show on.getD j 0 = x by rw [getD_of hlt]; exact hx)
                    have HL := Lib.hid hlt
                    clear hx
                    have CD1 := Lib.hid (fun W => (CD.out x W).mono fun e w' (h : _ ∧ _) => h)
                    cases hin : inB x
                    · have HF := Lib.hid (HG.out (fun g => by have := (g.2.2.2.2 j HL.out).1; rw [HX.out, hin] at this; cases this))
                      rw [hin] at CD1
                      go_wp2_with fail
                      go_big_quiet ((go_at_call 23; refine Calls.quiet_of_same (CD1.out _)))
                      go_wp2_with fail
                      go_roundw
                      case rel => exact ⟨false, j + 1, by omega, by simp, by go_num, .inr ⟨rfl, HF.out⟩, below_drewN HB.out _⟩
                      case measure => simp [intOf]; omega
                    · rw [hin] at CD1
                      by_cases hj0 : j = 0
                      · have b0 : ((j : Int) == 0) = true := by rw [hj0]; rfl
                        have HG1 := Lib.hid (show good2 on j from ⟨by rw [HX.out]; exact hin, .inl hj0⟩)
                        clear hj0
                        go_wp2_with fail
                        go_big_quiet ((go_at_call 23; refine Calls.quiet_of_same (CD1.out _)))
                        go_wp2_with fail
                        go_roundw
                        case rel => exact ⟨true, j + 1, by omega, by simp, by go_num, .inl ⟨rfl, fun l hl => by
                          by_cases e : l = j
                          · subst e; exact HG1.out
                          · exact HA.out l (by omega)⟩, below_drewN HB.out _⟩
                        case measure => simp [intOf]; omega
                      · have b0 : ((j : Int) == 0) = false := by simpa using hj0
                        obtain ⟨m, hm⟩ : ∃ m, j - 1 = m := ⟨_, rfl⟩
                        have hml : m < on.length := by omega
                        have hc2 := (hb.over QW.out).at_ hml
                        obtain ⟨y, hy⟩ : ∃ y, on[m] = y := ⟨_, rfl⟩
                        rw [hy] at hc2
                        have HY := Lib.hid (show on.getD (j - 1) 0 = y by rw [hm, getD_of hml]; exact hy)
                        have e1 : (j : Int) - 1 = (m : Int) := by omega
                        clear hy hm
                        have HJ0 := Lib.hid hj0
                        clear hj0
                        by_cases hyx : y < x
                        · have HG1 := Lib.hid (show good2 on j from ⟨by rw [HX.out]; exact hin, .inr (by rw [HX.out, HY.out]; exact hyx)⟩)
                          go_wp2_with fail
                          go_big_quiet ((go_at_call 23; refine Calls.quiet_of_same (CD1.out _)))
                          go_wp2_with fail
                          go_roundw
                          case rel => exact ⟨true, j + 1, by omega, by simp, by go_num, .inl ⟨rfl, fun l hl => by
                            by_cases e : l = j
                            · subst e; exact HG1.out
                            · exact HA.out l (by omega)⟩, below_drewN HB.out _⟩
                          case measure => simp [intOf]; omega
                        · have HF := Lib.hid (HG.out (fun g => by have := (g.2.2.2.2 j HL.out).2; rw [HX.out, HY.out] at this; rcases this with h0 | h0; exact HJ0.out h0; exact hyx h0))
                          have hyx2 : decide (y < x) = false := decide_eq_false hyx
                          go_wp2_with fail
                          go_big_quiet ((go_at_call 23; refine Calls.quiet_of_same (CD1.out _)))
                          go_wp2_with fail
                          go_roundw
                          case rel => exact ⟨false, j + 1, by omega, by simp, by go_num, .inr ⟨rfl, HF.out⟩, below_drewN HB.out _⟩
                          case measure => simp [intOf]; omega
                  · have e : j = on.length := by omega
                    subst e
                    have HR := Lib.hid (HT.out ⟨g1, g2, g3, G1.out, HA.out⟩)
                    go_wp2_with fail
                    go_ret
                    exact ⟨ret_bool HR.out.symm, QW.out⟩
                · have HR := Lib.hid hR
                  clear hR
                  by_cases hlt : j < on.length
                  · go_wp2_with fail
                    go_ret
                    exact ⟨ret_bool HR.out.symm, QW.out⟩
                  · go_wp2_with fail
                    go_ret
                    exact ⟨ret_bool HR.out.symm, QW.out⟩
          · have HR := Lib.hid hR
            clear hR
            by_cases hlt : j < off.length
            · go_wp2_with fail
              go_loopw [3, 5] (fun ok i wr' => ok = .bool false ∧ i = .int .i64 0 ∧ wr' = wr) (fun _ _ _ => 0)
              case atStart => exact ⟨rfl, rfl, rfl⟩
              case round =>
                obtain ⟨rfl, rfl, rfl⟩ := hrel
                by_cases hl2 : 0 < on.length
                · have hl3 : 0 < (on.length : Int) := by omega
                  go_wp2_with fail
                  go_ret
                  exact ⟨ret_bool HR.out.symm, QW.out⟩
                · have hl3 : ¬ 0 < (on.length : Int) := by omega
                  go_wp2_with fail
                  go_ret
                  exact ⟨ret_bool HR.out.symm, QW.out⟩
            · go_wp2_with fail
              go_loopw [3, 5] (fun ok i wr' => ok = .bool false ∧ i = .int .i64 0 ∧ wr' = wr) (fun _ _ _ => 0)
              case atStart => exact ⟨rfl, rfl, rfl⟩
              case round =>
                obtain ⟨rfl, rfl, rfl⟩ := hrel
                by_cases hl2 : 0 < on.length
                · have hl3 : 0 < (on.length : Int) := by omega
                  go_wp2_with fail
                  go_ret
                  exact ⟨ret_bool HR.out.symm, QW.out⟩
                · have hl3 : ¬ 0 < (on.length : Int) := by omega
                  go_wp2_with fail
                  go_ret
                  exact ⟨ret_bool HR.out.symm, QW.out⟩
      · have hR : R = false := HG.out (fun g => g3 g.2.2.1)
        have i1 : (k : Int) < 127 := by omega
        have i2 : (off.length : Int) ≤ 100 := by omega
        have i3 : ¬ (on.length : Int) ≤ 100 := by omega
        have HR := Lib.hid hR
        clear hR
        go_enter Tryd.func7, Tryd.ntmps7
        go_wp2_with fail
        rw [HW.out]
        go_loopw [3, 4] (fun ok i wr => ok = .bool false ∧ i = .int .i64 0 ∧ wr = WB) (fun _ _ _ => 0)
        case atStart => exact ⟨rfl, rfl, rfl⟩
        case round =>
          obtain ⟨rfl, rfl, rfl⟩ := hrel
          by_cases hl1 : 0 < (off.length : Int)
          · go_wp2_with fail
            go_loopw [3, 5] (fun ok i wr' => ok = .bool false ∧ i = .int .i64 0 ∧ wr' = wr) (fun _ _ _ => 0)
            case atStart => exact ⟨rfl, rfl, rfl⟩
            case round =>
              obtain ⟨rfl, rfl, rfl⟩ := hrel
              by_cases hl2 : 0 < (on.length : Int)
              · go_wp2_with fail
                go_ret
                exact ⟨ret_bool HR.out.symm, Q0.out⟩
              · exfalso; omega
          · go_wp2_with fail
            go_loopw [3, 5] (fun ok i wr' => ok = .bool false ∧ i = .int .i64 0 ∧ wr' = wr) (fun _ _ _ => 0)
            case atStart => exact ⟨rfl, rfl, rfl⟩
            case round =>
              obtain ⟨rfl, rfl, rfl⟩ := hrel
              by_cases hl2 : 0 < (on.length : Int)
              · go_wp2_with fail
                go_ret
                exact ⟨ret_bool HR.out.symm, Q0.out⟩
              · exfalso; omega
    · have hR : R = false := HG.out (fun g => g2 g.2.1)
      have i1 : (k : Int) < 127 := by omega
      have i2 : ¬ (off.length : Int) ≤ 100 := by omega
      have HR := Lib.hid hR
      clear hR
      go_enter Tryd.func7, Tryd.ntmps7
      go_wp2_with fail
      rw [HW.out]
      go_loopw [3, 4] (fun ok i wr => ok = .bool false ∧ i = .int .i64 0 ∧ wr = WB) (fun _ _ _ => 0)
      case atStart => exact ⟨rfl, rfl, rfl⟩
      case round =>
        obtain ⟨rfl, rfl, rfl⟩ := hrel
        by_cases hl1 : 0 < (off.length : Int)
        · go_wp2_with fail
          go_loopw [3, 5] (fun ok i wr' => ok = .bool false ∧ i = .int .i64 0 ∧ wr' = wr) (fun _ _ _ => 0)
          case atStart => exact ⟨rfl, rfl, rfl⟩
          case round =>
            obtain ⟨rfl, rfl, rfl⟩ := hrel
            by_cases hl2 : 0 < (on.length : Int)
            · go_wp2_with fail
              go_ret
              exact ⟨ret_bool HR.out.symm, Q0.out⟩
            · go_wp2_with fail
              go_ret
              exact ⟨ret_bool HR.out.symm, Q0.out⟩
        · exfalso; omega
  · have hR : R = false := HG.out (fun g => g1 g.1)
    have i1 : ¬ (k : Int) < 127 := by omega
    have HR := Lib.hid hR
    clear hR
    go_enter Tryd.func7, Tryd.ntmps7
    go_wp2_with fail
    rw [HW.out]
    go_loopw [3, 4] (fun ok i wr => ok = .bool false ∧ i = .int .i64 0 ∧ wr = WB) (fun _ _ _ => 0)
    case atStart => exact ⟨rfl, rfl, rfl⟩
    case round =>
      obtain ⟨rfl, rfl, rfl⟩ := hrel
      by_cases hl1 : 0 < (off.length : Int)
      · go_wp2_with fail
        go_loopw [3, 5] (fun ok i wr' => ok = .bool false ∧ i = .int .i64 0 ∧ wr' = wr) (fun _ _ _ => 0)
        case atStart => exact ⟨rfl, rfl, rfl⟩
        case round =>
          obtain ⟨rfl, rfl, rfl⟩ := hrel
          by_cases hl2 : 0 < (on.length : Int)
          · go_wp2_with fail
            go_ret
            exact ⟨ret_bool HR.out.symm, Q0.out⟩
          · go_wp2_with fail
            go_ret
            exact ⟨ret_bool HR.out.symm, Q0.out⟩
      · go_wp2_with fail
        go_loopw [3, 5] (fun ok i wr' => ok = .bool false ∧ i = .int .i64 0 ∧ wr' = wr) (fun _ _ _ => 0)
        case atStart => exact ⟨rfl, rfl, rfl⟩
        case round =>
          obtain ⟨rfl, rfl, rfl⟩ := hrel
          by_cases hl2 : 0 < (on.length : Int)
          · go_wp2_with fail
            go_ret
            exact ⟨ret_bool HR.out.symm, Q0.out⟩
          · go_wp2_with fail
            go_ret
            exact ⟨ret_bool HR.out.symm, Q0.out⟩
set_option maxHeartbeats 1000000 in
theorem refWorks_any (v : Value) (k : Nat) (off on : List Int) (n : Int) (w : World) (h : CalAt w v k off on) :
    Calls Tryd.prog 15 #[v, .int .i64 n] w fun e w' => e = .returned (.bool (mayC k off on && (inB n && worksC k off on n))) ∧ Below w.heap.size w w' := by
  have CM := Lib.hid (fun W (hW : Below w.heap.size w W) => refCMay_any v k off on W (h.over hW))
  have CD := Lib.hid refday_any
  obtain ⟨A, cA, B, cB, rfl, ha, hb⟩ := h.ex
  have hk := h.hk
  have hlo := h.ho
  have hln := h.hn
  have CA := Lib.hid (fun W (hW : Below w.heap.size w W) => has_any A cA off n W (ha.over hW) (by omega))
  have CB := Lib.hid (fun W (hW : Below w.heap.size w W) => has_any B cB on n W (hb.over hW) (by omega))
  have CW := Lib.hid (refWeekday_any n)
  have K := Lib.hid (Row.new w 33 #[.int .u8 k, .slice A off.length cA, .slice B on.length cB])
  have Q0 := Lib.hid (nextB (o := (.cells #[.int .u8 k, .slice A off.length cA, .slice B on.length cB] 33)) (Below.refl w.heap.size w))
  have kc := fun o => K.out.cell o
  clear h ha hb hlo hln
  cases hm : mayC k off on
  · rw [hm] at CM
    go_enter Tryd.func15, Tryd.ntmps15
    go_wp2_with fail
    refine (CM.out _ Q0.out).mono ?_
    rintro e w1 ⟨rfl, hb1⟩
    go_wp2_with fail
    go_ret
    exact ⟨rfl, nextC Q0.out hb1⟩
  rw [hm] at CM
  cases hi : inB n
  · have CD1 := Lib.hid (fun W => CD.out n W)
    rw [hi] at CD1
    go_enter Tryd.func15, Tryd.ntmps15
    go_wp2_with fail
    refine (CM.out _ Q0.out).mono ?_
    rintro e w1 ⟨rfl, hb1⟩
    go_wp2_with fail
    refine (CD1.out _).mono ?_
    rintro e w2 ⟨rfl, rfl⟩
    go_wp2_with fail
    go_ret
    exact ⟨rfl, nextC Q0.out hb1⟩
  have CD1 := Lib.hid (fun W => CD.out n W)
  rw [hi] at CD1
  have hn7 : 0 ≤ (n + 4) % 7 ∧ (n + 4) % 7 ≤ 6 := by omega
  obtain ⟨m, hmm⟩ : ∃ m : Nat, (n + 4) % 7 = m := ⟨((n + 4) % 7).toNat, by omega⟩
  have hm6 : m ≤ 6 := by omega
  have HR := Lib.hid (show worksC k off on n = (decide (n ∈ on) || (!decide (n ∈ off) && !k.testBit m)) by unfold worksC; rw [hmm]; rfl)
  rw [hmm] at CW
  clear hn7 hmm hm hi
  generalize worksC k off on n = R at *
  go_enter Tryd.func15, Tryd.ntmps15
  go_wp2_with fail
  refine (CM.out _ Q0.out).mono ?_
  rintro e w1 ⟨rfl, hb1⟩
  have K1 := Lib.hid (K.out.over hb1)
  have Q1 := Lib.hid (nextC Q0.out hb1)
  have kd := fun o => K1.out.cell o
  clear hb1 kc
  go_wp2_with fail
  refine (CD1.out _).mono ?_
  rintro e w2 ⟨rfl, rfl⟩
  go_wp2_with fail
  go_loop [5, 6] (fun f i => ∃ j : Nat, j ≤ m ∧ i = .int .i64 j ∧ f = .int .u8 ((k / 2 ^ j : Nat) : Int)) (fun _ i => m - (intOf i).toNat)
  case atStart => exact ⟨0, by omega, rfl, by simp⟩
  case round =>
    obtain ⟨j, hj, rfl, rfl⟩ := hrel
    have hle : k / 2 ^ j ≤ k := Nat.div_le_self _ _
    have hstep := Lib.hid (show k / 2 ^ (j + 1) = k / 2 ^ j / 2 by rw [Nat.pow_succ, Nat.div_div_eq_div_mul])
    have hbit := Lib.hid (Nat.testBit_eq_decide_div_mod_eq (x := k) (i := j))
    generalize k / 2 ^ j = c at *
    by_cases hlt : j < m
    · go_wp2_with fail
      refine (CW.out _).mono ?_
      rintro e w3 ⟨rfl, rfl⟩
      go_wp2_with fail
      go_round
      case rel => exact ⟨j + 1, by omega, by go_num, by rw [hstep.out]; first | rfl | (simp; done)⟩
      case measure => simp [intOf]; omega
    · have e : j = m := by omega
      subst e
      go_wp2_with fail
      refine (CW.out _).mono ?_
      rintro e w3 ⟨rfl, rfl⟩
      go_wp2_with fail
      refine (CB.out _ Q1.out).mono ?_
      rintro e w3 ⟨rfl, rfl⟩
      cases hon : decide (n ∈ on)
      · have CA1 := Lib.hid (fun W hW => CA.out W hW)
        have HON := Lib.hid hon
        clear hon
        go_wp2_with fail
        refine (CA.out _ Q1.out).mono ?_
        rintro e w3 ⟨rfl, rfl⟩
        cases hoff : decide (n ∈ off)
        · have HOFF := Lib.hid hoff
          clear hoff
          go_wp2_with fail
          go_ret
          exact ⟨ret_bool (by rw [HR.out, HON.out, HOFF.out, hbit.out, even_eq]; rfl), Q1.out⟩
        · have HOFF := Lib.hid hoff
          clear hoff
          go_wp2_with fail
          go_ret
          exact ⟨ret_bool (by rw [HR.out, HON.out, HOFF.out]; rfl), Q1.out⟩
      · have HON := Lib.hid hon
        clear hon
        go_wp2_with fail
        go_ret
        exact ⟨ret_bool (by rw [HR.out, HON.out]; rfl), Q1.out⟩
end Go.Proofs.YthigmjjafilbcaaDoor
