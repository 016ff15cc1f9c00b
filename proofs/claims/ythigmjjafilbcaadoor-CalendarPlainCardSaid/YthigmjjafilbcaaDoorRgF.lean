/- The iterator of calendar.from: days from one on, by steps of 1 or -1. -/
import Derived.Test.YthigmjjafilbcaaDoorMa
import Derived.Test.YthigmjjafilbcaaDoorCaO
namespace Go.Proofs.YthigmjjafilbcaaDoor
set_option linter.unusedVariables false
set_option maxRecDepth 100000
open Go.RowKit Go.Shelf
attribute [local go_sem] Oper.semAt_some
/-- The first k days. -/
def stepsL (n s : Int) (k : Nat) : List Int := (List.range k).map fun (i : Nat) => n + s * (i : Int)
theorem stepsL_succ (n s : Int) (k : Nat) : stepsL n s (k + 1) = stepsL n s k ++ [n + s * (k : Int)] := by unfold stepsL; rw [List.range_succ, List.map_append]; rfl
theorem stepsL_len (n s : Int) (k : Nat) : (stepsL n s k).length = k := by simp [stepsL]
/-- How many steps are left at most: read off the box. -/
def leftS (s : Int) (v : Option Value) : Nat := (if s = 1 then 157055 - intOf (v.getD undef) else intOf (v.getD undef) + 2).toNat
def FromKp (bn bs : Nat) (A B : World) : Prop := (B.cell? ⟨bn, 0, none⟩ = A.cell? ⟨bn, 0, none⟩ ∧ B.frozen? ⟨bn, 0, none⟩ = A.frozen? ⟨bn, 0, none⟩) ∧ B.cell? ⟨bs, 0, none⟩ = A.cell? ⟨bs, 0, none⟩
def FromS1 (n s : Int) (pre : List Int) (x : Int) : Prop := ∃ k : Nat, pre = stepsL n s k ∧ x = n + s * k ∧ ∀ j : Nat, j ≤ k → inB (n + s * j) = true
def FromS (n s : Int) (xs : List Int) : Prop := ∃ k : Nat, xs = stepsL n s k ∧ (∀ j : Nat, j < k → inB (n + s * j) = true) ∧ inB (n + s * k) = false
def FromSp (n s : Int) (pre : List Int) : Prop := ∃ k : Nat, pre = stepsL n s (k + 1) ∧ ∀ j : Nat, j ≤ k → inB (n + s * j) = true
def FromStart (bn bs : Nat) (n s : Int) (W : World) : Prop := (W.cell? ⟨bn, 0, none⟩ = some (.int .i64 n) ∧ W.frozen? ⟨bn, 0, none⟩ = false) ∧ W.cell? ⟨bs, 0, none⟩ = some (.int .i64 s)
theorem cell_far_set (V : World) (u : Value) {b b' : Nat} (h : b' ≠ b) : (V.setCell ⟨b, 0, none⟩ u).cell? ⟨b', 0, none⟩ = V.cell? ⟨b', 0, none⟩ := by
  have := Below.heap_setCell V ⟨b, 0, none⟩ u b' h
  simp only [World.cell?, this]
theorem from_box (m : Nat) (hm : 1 ≤ m) (bn bs : Nat) (hne : bs ≠ bn) (n s : Int) (hn : -1 ≤ n) (hn1 : n ≤ 157054) (hs : s = 1 ∨ s = -1) :
    SeqBox Fence.wide m Tryd.prog 63 #[.pointer (some ⟨bn, 0, none⟩), .pointer (some ⟨bs, 0, none⟩)] bn (FromKp bn bs) (FromS1 n s) (FromS n s) (FromSp n s) (FromStart bn bs n s) := fun l J Jx W hW hJs hY h0 => by
  have CD := Lib.hid day_any
  obtain ⟨⟨c1, f1⟩, c2⟩ := hW
  refine callsIn_of_wp Tryd.func63 rfl trivial ?_ rfl
  simp only [Tryd.ntmps63, List.size_toArray, List.length_cons, List.length_nil, Nat.reduceAdd, Nat.reduceSub, Array.replicate_succ, Array.replicate_zero, List.push_toArray, List.append_toArray, List.nil_append, List.cons_append]
  gi_wp2
  gi_loopw [4] (fun _ wr => ∃ k : Nat, wr.cell? ⟨bn, 0, none⟩ = some (.int .i64 (n + s * k)) ∧ wr.frozen? ⟨bn, 0, none⟩ = false ∧ wr.cell? ⟨bs, 0, none⟩ = some (.int .i64 s) ∧ (∀ j : Nat, j < k → inB (n + s * j) = true) ∧ J (stepsL n s k) wr) (fun _ wr => leftS s (wr.cell? ⟨bn, 0, none⟩))
  case atStart => exact ⟨0, by simpa using c1, f1, c2, fun j hj => absurd hj (by omega), h0⟩
  case round =>
    obtain ⟨k, d1, g1, d2, hall, hj⟩ := hrel
    have HA := Lib.hid hall
    clear hall
    obtain ⟨x, hx⟩ : ∃ x, n + s * (k : Int) = x := ⟨_, rfl⟩
    rw [hx] at d1
    have HX := Lib.hid hx
    clear hx
    cases hi : inB x
    · have HI := Lib.hid hi
      clear hi
      gi_wp2
      refine ⟨trivial, (callsIn_wide.2 (CD.out _ _)).mono ?_⟩
      rintro e w1 ⟨rfl, rfl⟩
      rw [HI.out]
      gi_wp2
      refine ⟨fun _ h => (by cases h), ?_⟩
      gi_wp2
      go_end0
      exact ⟨⟨_, rfl⟩, .inl ⟨_, ⟨k, rfl, HA.out, by rw [HX.out]; exact HI.out⟩, hj⟩⟩
    · have HI := Lib.hid hi
      have hx2 := inB_iff.1 hi
      clear hi
      obtain ⟨fn, tmps, assign, body, hy, hR⟩ := hY _ x wr hj ⟨k, rfl, HX.out.symm, fun j hjk => by
        by_cases e : j = k
        · subst e; rw [HX.out]; exact HI.out
        · exact HA.out j (by omega)⟩
      gi_wp2
      refine ⟨trivial, (callsIn_wide.2 (CD.out _ _)).mono ?_⟩
      rintro e w1 ⟨rfl, rfl⟩
      rw [HI.out]
      gi_wp2
      refine hR.mono ?_
      rintro e W3 (⟨rfl, hJ3, ⟨hk3, hk4⟩, hk5⟩ | ⟨rfl, hJx3⟩)
      · have d3 := hk3.trans d1
        have g3 := hk4.trans g1
        have d4 := hk5.trans d2
        have hr : -9223372036854775808 ≤ x + s ∧ x + s ≤ 9223372036854775807 := by omega
        gi_wp2
        have HN := Lib.hid (show n + s * ((k + 1 : Nat) : Int) = x + s by rw [Int.natCast_add, Int.mul_add, ← Int.add_assoc, HX.out]; simp)
        go_roundw
        case rel =>
          refine ⟨k + 1, ?_, ?_, ?_, fun j hj => ?_, ?_⟩
          · rw [HN.out]; exact World.cell?_setCell_same' _ _ _ (by rw [d3]; rfl)
          · rw [World.frozen?_setCell]; exact g3
          · rw [cell_far_set _ _ (show bs ≠ bn from hne)]; exact d4
          · by_cases e : j = k
            · subst e; rw [HX.out]; exact HI.out
            · exact HA.out j (by omega)
          · rw [stepsL_succ, HX.out]
            exact hJs _ _ _ hJ3
        case measure =>
          rw [World.cell?_setCell_same' _ _ _ (by rw [d3]; rfl), d1]
          unfold leftS
          simp only [Option.getD_some, intOf]
          rcases hs with rfl | rfl
          · simp; omega
          · simp; omega
      · gi_wp2
        go_end0
        exact ⟨⟨_, rfl⟩, .inr ⟨_, ⟨k, by rw [stepsL_succ, HX.out], fun j hj => by
          by_cases e : j = k
          · subst e; rw [HX.out]; exact HI.out
          · exact HA.out j (by omega)⟩, hJx3⟩⟩
end Go.Proofs.YthigmjjafilbcaaDoor
