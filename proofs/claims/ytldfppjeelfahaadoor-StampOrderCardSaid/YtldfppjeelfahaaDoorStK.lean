/- ringerlaw05.known answers true. -/
import Derived.Test.YtldfppjeelfahaaDoorTxB
namespace Go.Proofs.YtldfppjeelfahaaDoor
set_option linter.unusedVariables false
open Go.RowKit

theorem str_same (x : ByteArray) : Op.stringOp .eql x x = pure (.bool true) := by simp [Op.stringOp]

/-- Split, where the answer is known. -/
theorem split_at (t : Int) (v : Value) (e0 : Int) (hv : clockV t = v) (he : clockE t = e0) (w : World) :
    Calls Tryd.prog 6 #[.int .i64 t] w fun e w' => e = .returned (.tuple #[v, .int .i64 e0]) ∧ Below w.heap.size w w' := by
  have c := split_any t w
  rw [hv, he] at c
  exact c
theorem refSplit_at (t : Int) (v : Value) (e0 : Int) (hv : clockV t = v) (he : clockE t = e0) (w : World) :
    Calls Tryd.prog 7 #[.int .i64 t] w fun e w' => e = .returned (.tuple #[v, .int .i64 e0]) ∧ Below w.heap.size w w' := by
  have c := refSplit_any t w
  rw [hv, he] at c
  exact c
theorem add_at (t n v e0 : Int) (hn : -9223372036854775808 ≤ n) (hn' : n ≤ 9223372036854775807) (hv : addV t n = v) (he : addE t n = e0) (w : World) :
    Calls Tryd.prog 8 #[.int .i64 t, .int .i64 n] w fun e w' => e = .returned (.tuple #[.int .i64 v, .int .i64 e0]) ∧ w = w' := by
  have c := add_any t n w hn hn'
  rw [hv, he] at c
  exact c
theorem floor_at (t v e0 : Int) (hv : floorV t = v) (he : clockE t = e0) (w : World) :
    Calls Tryd.prog 10 #[.int .i64 t] w fun e w' => e = .returned (.tuple #[.int .i64 v, .int .i64 e0]) ∧ w = w' := by
  have c := floor_any t w
  rw [hv, he] at c
  exact c
theorem text_at (y m d h mi s wd : Int) (l : List UInt8) (hl : textL y m d h mi s wd = l) (w : World) (ht : Tab w) :
    Calls Tryd.prog 15 #[.agg #[.int .i64 y, .int .i64 m, .int .i64 d, .int .i64 h, .int .i64 mi, .int .i64 s, .int .i64 wd]] w fun e w' => e = .returned (.string ⟨l.toArray⟩) ∧ Below w.heap.size w w' := by
  have c := text_any y m d h mi s wd w ht
  rw [hl] at c
  exact c
def clk (y m d h mi s wd : Int) : Value := .agg #[.int .i64 y, .int .i64 m, .int .i64 d, .int .i64 h, .int .i64 mi, .int .i64 s, .int .i64 wd]

set_option maxHeartbeats 2000000 in
theorem known_any (w : World) (ht : Tab w) : Calls Tryd.prog 11 #[] w fun e w' => e = .returned (.bool true) ∧ Below w.heap.size w w' := by
  have C1 := Lib.hid fun W => split_at 0 (.agg #[.int .i64 1970, .int .i64 1, .int .i64 1, .int .i64 0, .int .i64 0, .int .i64 0, .int .i64 4]) 0 (by rfl) (by rfl) W
  have C2 := Lib.hid fun W => split_at (-1) (.agg #[.int .i64 0, .int .i64 0, .int .i64 0, .int .i64 0, .int .i64 0, .int .i64 0, .int .i64 0]) 50 (by rfl) (by rfl) W
  have C3 := Lib.hid fun W => split_at 13569465600 (.agg #[.int .i64 0, .int .i64 0, .int .i64 0, .int .i64 0, .int .i64 0, .int .i64 0, .int .i64 0]) 50 (by rfl) (by rfl) W
  have C4 := Lib.hid fun W => split_at 951782399 (.agg #[.int .i64 2000, .int .i64 2, .int .i64 28, .int .i64 23, .int .i64 59, .int .i64 59, .int .i64 1]) 0 (by rfl) (by rfl) W
  have C5 := Lib.hid fun W => add_at 5 (-6) 0 50 (by omega) (by omega) (by rfl) (by rfl) W
  have C6 := Lib.hid fun W => add_at 5 9 14 0 (by omega) (by omega) (by rfl) (by rfl) W
  have C7 := Lib.hid fun W => floor_at 125 120 0 (by rfl) (by rfl) W
  have C8 := Lib.hid fun W hW => text_at 2000 2 28 23 59 59 1 [50, 48, 48, 48, 45, 48, 50, 45, 50, 56, 84, 50, 51, 58, 53, 57, 58, 53, 57] (by decide +kernel) W hW
  have hs := str_same ⟨#[50, 48, 48, 48, 45, 48, 50, 45, 50, 56, 84, 50, 51, 58, 53, 57, 58, 53, 57]⟩
  go_enter Tryd.func11, Tryd.ntmps11
  go_wp2_with fail
  refine (C1.out _).mono ?_
  rintro e w1 ⟨rfl, hb1⟩
  go_wp2_with fail
  refine (C2.out _).mono ?_
  rintro e w2 ⟨rfl, hb2⟩
  have ka2 := newC hb2
  have q2 := nextA hb1 hb2
  go_wp2_with fail
  refine (C3.out _).mono ?_
  rintro e w3 ⟨rfl, hb3⟩
  have ka3 := (ka2.alloc _).over hb3
  have q3 := nextA q2 hb3
  clear ka2 hb1 hb2 hb3 q2
  go_wp2_with fail
  refine (C4.out _).mono ?_
  rintro e w4 ⟨rfl, hb4⟩
  have ka4 := (ka3.alloc _).over hb4
  have q4 := nextA q3 hb4
  clear ka3 hb4 q3
  have t4 := ht.stays q4 (Nat.le_refl _)
  go_wp2_with fail
  refine (C5.out _).mono ?_
  rintro e w5 ⟨rfl, rfl⟩
  go_wp2_with fail
  refine (C6.out _).mono ?_
  rintro e w6 ⟨rfl, rfl⟩
  go_wp2_with fail
  refine (C7.out _).mono ?_
  rintro e w7 ⟨rfl, rfl⟩
  have kc4 := fun o => ka4.cell o
  have kz4 := ka4.lt
  go_wp2_with fail
  refine (C8.out _ ?_).mono ?_
  · exact t4.alloc _
  rintro e w8 ⟨rfl, hb8⟩
  have q8 := nextA q4 hb8
  go_wp2_with fail
  go_ret
  exact ⟨rfl, q8⟩
end Go.Proofs.YtldfppjeelfahaaDoor
