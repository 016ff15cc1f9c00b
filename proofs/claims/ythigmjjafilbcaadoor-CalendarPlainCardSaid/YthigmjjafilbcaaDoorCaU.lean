/- Contracts of the reference of layer 41: Near, Count; and of the law's of, heavy. -/
import Derived.Test.YthigmjjafilbcaaDoorCaT
import Derived.Test.YthigmjjafilbcaaDoorRgG
namespace Go.Proofs.YthigmjjafilbcaaDoor
set_option linter.unusedVariables false
set_option maxRecDepth 100000
open Go.RowKit
/-- The first day that works from one on, by steps; -1: there is none. -/
def NearIs (k : Nat) (off on : List Int) (n s r : Int) : Prop :=
  (∃ i : Nat, (∀ j : Nat, j < i → inB (n + s * j) = true ∧ worksC k off on (n + s * j) = false) ∧ inB (n + s * i) = true ∧ worksC k off on (n + s * i) = true ∧ r = n + s * i) ∨
  (∃ i : Nat, (∀ j : Nat, j < i → inB (n + s * j) = true ∧ worksC k off on (n + s * j) = false) ∧ inB (n + s * i) = false ∧ r = -1)
theorem near_any (v : Value) (k : Nat) (off on : List Int) (n s : Int) (hn : -1 ≤ n) (hn1 : n ≤ 157054) (hs : s = 1 ∨ s = -1) (w : World) (h : CalAt w v k off on) (hm : mayC k off on = true) :
    Calls Tryd.prog 13 #[v, .int .i64 n, .int .i64 s] w fun e w' => (∃ r, e = .returned (.int .i64 r) ∧ NearIs k off on n s r) ∧ Below w.heap.size w w' := by
  have CM := Lib.hid (fun x W (hW : Below w.heap.size w W) => refWorks_any v k off on x W (h.over hW))
  have CD := Lib.hid refday_any
  rw [hm] at CM
  obtain ⟨A, cA, B, cB, rfl, ha, hb⟩ := h.ex
  have K := Lib.hid (Row.new w 33 #[.int .u8 k, .slice A off.length cA, .slice B on.length cB])
  obtain ⟨WB, hWB⟩ : ∃ WB, w.alloc (.cells #[.int .u8 k, .slice A off.length cA, .slice B on.length cB] 33) = WB := ⟨_, rfl⟩
  have Q0 := Lib.hid (show Below w.heap.size w WB by rw [← hWB]; exact nextB (Below.refl _ _))
  rw [hWB] at K
  have HW := Lib.hid hWB
  clear h ha hb hm hWB
  go_enter Tryd.func13, Tryd.ntmps13
  go_wp2_with fail
  rw [HW.out]
  go_loopw [1] (fun c wr => ∃ i : Nat, c = .int .i64 (n + s * i) ∧ (∀ j : Nat, j < i → inB (n + s * j) = true ∧ worksC k off on (n + s * j) = false) ∧ -1 ≤ n + s * i ∧ n + s * i ≤ 157054 ∧ Below WB.heap.size WB wr) (fun c _ => (if s = 1 then 157055 - intOf c else intOf c + 2).toNat)
  case atStart => exact ⟨0, by simp, fun j hj => absurd hj (by omega), by simpa using hn, by simpa using hn1, Below.refl _ _⟩
  case round =>
    obtain ⟨i, rfl, hall, b0, b1, hbw⟩ := hrel
    have HA := Lib.hid hall
    have HB := Lib.hid hbw
    have kd := fun o => (K.out.over hbw).cell o
    have QW := Lib.hid (nextC Q0.out hbw)
    clear hall hbw
    obtain ⟨x, hx⟩ : ∃ x, n + s * (i : Int) = x := ⟨_, rfl⟩
    rw [hx] at b0 b1 ⊢
    have HX := Lib.hid hx
    clear hx
    cases hin : inB x
    · have CD1 := Lib.hid (fun W => CD.out x W)
      rw [hin] at CD1
      have HI := Lib.hid hin
      clear hin
      go_wp2_with fail
      refine (CD1.out _).mono ?_
      rintro e w2 ⟨rfl, rfl⟩
      go_wp2_with fail
      refine (CD1.out _).mono ?_
      rintro e w2 ⟨rfl, rfl⟩
      go_wp2_with fail
      go_ret
      exact ⟨⟨-1, rfl, .inr ⟨i, HA.out, by rw [HX.out]; exact HI.out, rfl⟩⟩, QW.out⟩
    · have CD1 := Lib.hid (fun W => CD.out x W)
      have CM1 := Lib.hid (fun W hW => CM.out x W hW)
      rw [hin] at CD1 CM1
      have HI := Lib.hid hin
      have hx2 := inB_iff.1 hin
      clear hin
      cases hwk : worksC k off on x
      · rw [hwk] at CM1
        have HWK := Lib.hid hwk
        have HN := Lib.hid (show n + s * ((i + 1 : Nat) : Int) = x + s by rw [Int.natCast_add, Int.mul_add, ← Int.add_assoc, HX.out]; simp)
        clear hwk
        have hr : -9223372036854775808 ≤ x + s ∧ x + s ≤ 9223372036854775807 := by omega
        go_wp2_with fail
        refine (CD1.out _).mono ?_
        rintro e w2 ⟨rfl, rfl⟩
        go_wp2_with fail
        refine (CM1.out _ QW.out).mono ?_
        rintro e w3 ⟨rfl, hb3⟩
        go_wp2_with fail
        go_roundw
        case rel =>
          refine ⟨i + 1, by rw [HN.out], fun j hj => ?_, by rw [HN.out]; omega, by rw [HN.out]; omega, nextC HB.out hb3⟩
          by_cases e : j = i
          · subst e; rw [HX.out]; exact ⟨HI.out, HWK.out⟩
          · exact HA.out j (by omega)
        case measure =>
          simp only [intOf]
          rcases hs with rfl | rfl
          · simp; omega
          · simp; omega
      · rw [hwk] at CM1
        have HWK := Lib.hid hwk
        clear hwk
        go_wp2_with fail
        refine (CD1.out _).mono ?_
        rintro e w2 ⟨rfl, rfl⟩
        go_wp2_with fail
        refine (CM1.out _ QW.out).mono ?_
        rintro e w3 ⟨rfl, hb3⟩
        go_wp2_with fail
        refine (CD1.out _).mono ?_
        rintro e w2 ⟨rfl, rfl⟩
        go_wp2_with fail
        go_ret
        exact ⟨⟨x, rfl, .inl ⟨i, HA.out, by rw [HX.out]; exact HI.out, by rw [HX.out]; exact HWK.out, HX.out.symm⟩⟩, nextC QW.out hb3⟩
/-- How many days work behind one, of the next m. -/
def cntC (k : Nat) (off on : List Int) (a : Int) (m : Nat) : Nat := (List.range m).countP fun (i : Nat) => worksC k off on (a + 1 + (i : Int))
theorem cntC_succ (k : Nat) (off on : List Int) (a : Int) (m : Nat) : cntC k off on a (m + 1) = cntC k off on a m + (if worksC k off on (a + 1 + (m : Int)) = true then 1 else 0) := by
  unfold cntC
  rw [List.range_succ, List.countP_append, List.countP_singleton]
theorem cntC_le (k : Nat) (off on : List Int) (a : Int) (m : Nat) : cntC k off on a m ≤ m := by
  unfold cntC
  have := List.countP_le_length (p := fun (i : Nat) => worksC k off on (a + 1 + (i : Int))) (l := List.range m)
  simpa using this
end Go.Proofs.YthigmjjafilbcaaDoor
