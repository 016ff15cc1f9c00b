/- Contracts of the reference's Text, and both Texts in one form. -/
import Derived.Test.YtldfppjeelfahaaDoorTxA
namespace Go.Proofs.YtldfppjeelfahaaDoor
set_option linter.unusedVariables false
open Go.RowKit

theorem refJoin_of (y m d h mi s wd : Int) (w : World) (b : Bool) (hc : clkB y m d h mi s wd = b) :
    Calls Tryd.prog 13 #[.agg #[.int .i64 y, .int .i64 m, .int .i64 d, .int .i64 h, .int .i64 mi, .int .i64 s, .int .i64 wd]] w fun e w' => (∃ v : Int, e = .returned (.tuple #[.int .i64 v, .int .i64 (if b = true then 0 else 2)])) ∧ Below w.heap.size w w' := by
  have c := refJoin_any y m d h mi s wd w
  unfold joinE at c
  rw [hc] at c
  exact c.mono fun e w' ⟨he, hb⟩ => ⟨⟨_, he⟩, hb⟩

theorem refText_no (y m d h mi s wd : Int) (w : World) (hc : clkB y m d h mi s wd = false) :
    Calls Tryd.prog 16 #[.agg #[.int .i64 y, .int .i64 m, .int .i64 d, .int .i64 h, .int .i64 mi, .int .i64 s, .int .i64 wd]] w fun e w' => e = .returned (.string (bts [])) ∧ Below w.heap.size w w' := by
  have C := Lib.hid fun W => refJoin_of y m d h mi s wd W _ hc
  clear hc
  go_enter Tryd.func16, Tryd.ntmps16
  go_wp2_with fail
  refine (C.out _).mono ?_
  rintro e w1 ⟨⟨v, rfl⟩, hb1⟩
  have q1 := ((Below.refl w.heap.size w).alloc (Nat.le_refl _) _).trans (hb1.mono (by simp))
  go_wp2_with fail
  go_ret
  exact ⟨rfl, q1⟩

set_option maxHeartbeats 4000000 in
theorem refText_yes (y m d h mi s wd : Int) (w : World) (hc : clkB y m d h mi s wd = true) :
    Calls Tryd.prog 16 #[.agg #[.int .i64 y, .int .i64 m, .int .i64 d, .int .i64 h, .int .i64 mi, .int .i64 s, .int .i64 wd]] w fun e w' => e = .returned (.string (bts (txtL y m d h mi s))) ∧ Below w.heap.size w w' := by
  have C := Lib.hid fun W => refJoin_of y m d h mi s wd W _ hc
  obtain ⟨hm, hr, -⟩ := clkB_parts hc
  obtain ⟨r1, r2, r3, r4, r5, r6⟩ := rngB_iff.1 hr
  obtain ⟨b1, b2, b3, b4, b5, b6, -⟩ := mayB_bds hm
  clear hc hm hr
  obtain ⟨a1, a2, a3, a4, a5, a6, a7, a8, a9, aa, e1, e2, e3, e4, e5, e6, e7, e8, e9, ea, rfl⟩ := txt_steps y m d h mi s
  generalize txtL y m d h mi s = aa at *
  go_enter Tryd.func16, Tryd.ntmps16
  go_wp2_with fail
  refine (C.out _).mono ?_
  rintro e w1 ⟨⟨v, rfl⟩, hb1⟩
  obtain ⟨kc1, kz1⟩ := cells_of_new hb1
  have q1 := ((Below.refl w.heap.size w).alloc (Nat.le_refl _) _).trans (hb1.mono (by simp))
  go_wp2_with fail
  go_quiet ((go_at_call 27; exact Calls.quiet_of (by first | exact digits_any 2 _ _ _ (by omega) (by omega) (by omega) rfl | exact digits_any 4 _ _ _ (by omega) (by omega) (by omega) rfl)))
  go_wp2
  go_ret
  exact ⟨rfl, below_drewN q1 _⟩

theorem text_any (y m d h mi s wd : Int) (w : World) (ht : Tab w) :
    Calls Tryd.prog 15 #[.agg #[.int .i64 y, .int .i64 m, .int .i64 d, .int .i64 h, .int .i64 mi, .int .i64 s, .int .i64 wd]] w fun e w' => e = .returned (.string (bts (textL y m d h mi s wd))) ∧ Below w.heap.size w w' := by
  unfold textL
  cases hc : clkB y m d h mi s wd
  · exact text_no y m d h mi s wd w hc
  · exact text_yes y m d h mi s wd w ht hc
theorem refText_any (y m d h mi s wd : Int) (w : World) :
    Calls Tryd.prog 16 #[.agg #[.int .i64 y, .int .i64 m, .int .i64 d, .int .i64 h, .int .i64 mi, .int .i64 s, .int .i64 wd]] w fun e w' => e = .returned (.string (bts (textL y m d h mi s wd))) ∧ Below w.heap.size w w' := by
  unfold textL
  cases hc : clkB y m d h mi s wd
  · exact refText_no y m d h mi s wd w hc
  · exact refText_yes y m d h mi s wd w hc
end Go.Proofs.YtldfppjeelfahaaDoor
