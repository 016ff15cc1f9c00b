/- The reference's reading of the chapter's two expressions. -/
import Derived.Test.YthigmjjafilbcaaCaW
namespace Go.Proofs.Ythigmjjafilbcaa
set_option linter.unusedVariables false
set_option maxRecDepth 100000
open Go.RowKit Go.Maps
/-- A field's text is read: bits and star. -/
def ParS (k : Int) (s : ByteArray) (b : Nat) (st : Bool) : Prop := ∀ w : World, Calls Try.prog 63 #[.int .i64 k, .string s] w fun e w' => e = .returned (.tuple #[.agg #[.int .u64 b, .bool st], .int .i64 0]) ∧ Below w.heap.size w w'
theorem parStar {k : Int} (h0 : 0 ≤ k) (h4 : k ≤ 4) (a cnt : Nat) (ha : lowK k = a) (hc : (highK k - lowK k + 1).toNat = cnt) (hp : 0 < cnt) (hb : a + cnt ≤ 60) (h7 : k = 4 ∧ a + cnt ≤ 7 ∨ (k == 4) = false) : ParS k sStar (bv a cnt) true := fun w => by
  subst hc
  exact parseS k h0 h4 sStar (by decide) (by decide) 42 true rfl (fun _ => by kernel_rfl) (nsStar 44 rfl) a _ hp hb h7 (fun W => by have := itemStar k h0 h4 W; rw [ha] at this ⊢; exact this) w
theorem par0 : ParS 0 s0T (bv 0 1) false := fun w =>
  parseS 0 (by decide) (by decide) s0T (by decide) (by decide) 48 false rfl (fun _ => by kernel_rfl) (ns0 44 rfl) 0 1 (by decide) (by decide) (.inr rfl) (fun W => itemN0 0 (by decide) (by decide) (by decide) (by decide) W) w
theorem par12 : ParS 1 s12T (bv 12 1) false := fun w =>
  parseS 1 (by decide) (by decide) s12T (by decide) (by decide) 49 false rfl (fun _ => by kernel_rfl) (ns12 44 rfl rfl) 12 1 (by decide) (by decide) (.inr rfl) (fun W => itemN12 1 (by decide) (by decide) rfl (by decide) (by decide) W) w
theorem par6 : ParS 4 s6T (bv 6 1) false := fun w =>
  parseS 4 (by decide) (by decide) s6T (by decide) (by decide) 54 false rfl (fun _ => by kernel_rfl) (ns6 44 rfl) 6 1 (by decide) (by decide) (.inl ⟨rfl, by decide⟩) (fun W => itemN6 4 (by decide) (by decide) (by decide) (by decide) W) w
theorem par2 : ParS 2 sStar (bv 1 31) true := parStar (by decide) (by decide) 1 31 rfl rfl (by decide) (by decide) (.inr rfl)
theorem par3 : ParS 3 sStar (bv 1 12) true := parStar (by decide) (by decide) 1 12 rfl rfl (by decide) (by decide) (.inr rfl)
theorem par4 : ParS 4 sStar (bv 0 7) true := parStar (by decide) (by decide) 0 7 rfl rfl (by decide) (by decide) (.inl ⟨rfl, by decide⟩)
/-- The expression that is read. -/
def xpOf (b : Nat) (st : Bool) : Xp := ⟨bv 0 1, bv 12 1, bv 1 31, bv 1 12, b, false, false, true, true, st⟩
/-- A text of the chapter's: '0 12 * * ' and a last word. -/
structure TxtS (s : ByteArray) (c : Int) (l : ByteArray) : Prop where
  size : s.size = 10
  i0 : ∀ W, (Instr.index 9 (.string s) (.int .i64 0)).run Try.prog W = .ok (.int .u8 48) W
  i1 : ∀ W, (Instr.index 9 (.string s) (.int .i64 1)).run Try.prog W = .ok (.int .u8 32) W
  i2 : ∀ W, (Instr.index 9 (.string s) (.int .i64 2)).run Try.prog W = .ok (.int .u8 49) W
  i3 : ∀ W, (Instr.index 9 (.string s) (.int .i64 3)).run Try.prog W = .ok (.int .u8 50) W
  i4 : ∀ W, (Instr.index 9 (.string s) (.int .i64 4)).run Try.prog W = .ok (.int .u8 32) W
  i5 : ∀ W, (Instr.index 9 (.string s) (.int .i64 5)).run Try.prog W = .ok (.int .u8 42) W
  i6 : ∀ W, (Instr.index 9 (.string s) (.int .i64 6)).run Try.prog W = .ok (.int .u8 32) W
  i7 : ∀ W, (Instr.index 9 (.string s) (.int .i64 7)).run Try.prog W = .ok (.int .u8 42) W
  i8 : ∀ W, (Instr.index 9 (.string s) (.int .i64 8)).run Try.prog W = .ok (.int .u8 32) W
  i9 : ∀ W, (Instr.index 9 (.string s) (.int .i64 9)).run Try.prog W = .ok (.int .u8 c) W
  c1 : (c == 32) = false
  s0 : ∀ W, (Instr.slice 9 (.string s) (some (.int .i64 0)) (some (.int .i64 1)) none).run Try.prog W = .ok (.string s0T) W
  s2 : ∀ W, (Instr.slice 9 (.string s) (some (.int .i64 2)) (some (.int .i64 4)) none).run Try.prog W = .ok (.string s12T) W
  s5 : ∀ W, (Instr.slice 9 (.string s) (some (.int .i64 5)) (some (.int .i64 6)) none).run Try.prog W = .ok (.string sStar) W
  s7 : ∀ W, (Instr.slice 9 (.string s) (some (.int .i64 7)) (some (.int .i64 8)) none).run Try.prog W = .ok (.string sStar) W
  s9 : ∀ W, (Instr.slice 9 (.string s) (some (.int .i64 9)) (some (.int .i64 10)) none).run Try.prog W = .ok (.string l) W
def tStar : ByteArray := ⟨#[48, 32, 49, 50, 32, 42, 32, 42, 32, 42]⟩
def tSix : ByteArray := ⟨#[48, 32, 49, 50, 32, 42, 32, 42, 32, 54]⟩
theorem txtStar : TxtS tStar 42 sStar := ⟨rfl, fun _ => by kernel_rfl, fun _ => by kernel_rfl, fun _ => by kernel_rfl, fun _ => by kernel_rfl, fun _ => by kernel_rfl, fun _ => by kernel_rfl, fun _ => by kernel_rfl, fun _ => by kernel_rfl, fun _ => by kernel_rfl, fun _ => by kernel_rfl, rfl, fun _ => by kernel_rfl, fun _ => by kernel_rfl, fun _ => by kernel_rfl, fun _ => by kernel_rfl, fun _ => by kernel_rfl⟩
theorem txtSix : TxtS tSix 54 s6T := ⟨rfl, fun _ => by kernel_rfl, fun _ => by kernel_rfl, fun _ => by kernel_rfl, fun _ => by kernel_rfl, fun _ => by kernel_rfl, fun _ => by kernel_rfl, fun _ => by kernel_rfl, fun _ => by kernel_rfl, fun _ => by kernel_rfl, fun _ => by kernel_rfl, rfl, fun _ => by kernel_rfl, fun _ => by kernel_rfl, fun _ => by kernel_rfl, fun _ => by kernel_rfl, fun _ => by kernel_rfl⟩
/-- What the loop over the text's bytes has, at an index. -/
def At (i at_ : Value) (n : Nat) : Prop :=
  i = .int .i64 0 ∧ at_ = .int .i64 0 ∧ n = 0 ∨ i = .int .i64 1 ∧ at_ = .int .i64 0 ∧ n = 0 ∨ i = .int .i64 2 ∧ at_ = .int .i64 2 ∧ n = 1 ∨ i = .int .i64 3 ∧ at_ = .int .i64 2 ∧ n = 1 ∨ i = .int .i64 4 ∧ at_ = .int .i64 2 ∧ n = 1 ∨
  i = .int .i64 5 ∧ at_ = .int .i64 5 ∧ n = 2 ∨ i = .int .i64 6 ∧ at_ = .int .i64 5 ∧ n = 2 ∨ i = .int .i64 7 ∧ at_ = .int .i64 7 ∧ n = 3 ∨ i = .int .i64 8 ∧ at_ = .int .i64 7 ∧ n = 3 ∨ i = .int .i64 9 ∧ at_ = .int .i64 9 ∧ n = 4 ∨
  i = .int .i64 10 ∧ at_ = .int .i64 9 ∧ n = 4 ∨ i = .int .i64 11 ∧ at_ = .int .i64 11 ∧ n = 5
/-- What the loop over the five parts has, at an index. -/
def At5 (b : Nat) (st : Bool) (i : Value) (cs : Array Value) : Prop :=
  i = .int .i64 0 ∧ cs = #[.int .u64 0, .bool false, .int .u64 0, .bool false, .int .u64 0, .bool false, .int .u64 0, .bool false, .int .u64 0, .bool false] ∨ i = .int .i64 1 ∧ cs = #[.int .u64 (bv 0 1 : Nat), .bool false, .int .u64 0, .bool false, .int .u64 0, .bool false, .int .u64 0, .bool false, .int .u64 0, .bool false] ∨ i = .int .i64 2 ∧ cs = #[.int .u64 (bv 0 1 : Nat), .bool false, .int .u64 (bv 12 1 : Nat), .bool false, .int .u64 0, .bool false, .int .u64 0, .bool false, .int .u64 0, .bool false] ∨ i = .int .i64 3 ∧ cs = #[.int .u64 (bv 0 1 : Nat), .bool false, .int .u64 (bv 12 1 : Nat), .bool false, .int .u64 (bv 1 31 : Nat), .bool true, .int .u64 0, .bool false, .int .u64 0, .bool false] ∨ i = .int .i64 4 ∧ cs = #[.int .u64 (bv 0 1 : Nat), .bool false, .int .u64 (bv 12 1 : Nat), .bool false, .int .u64 (bv 1 31 : Nat), .bool true, .int .u64 (bv 1 12 : Nat), .bool true, .int .u64 0, .bool false] ∨ i = .int .i64 5 ∧ cs = #[.int .u64 (bv 0 1 : Nat), .bool false, .int .u64 (bv 12 1 : Nat), .bool false, .int .u64 (bv 1 31 : Nat), .bool true, .int .u64 (bv 1 12 : Nat), .bool true, .int .u64 b, .bool st]
set_option maxHeartbeats 2000000 in
theorem parseX (s : ByteArray) (c : Int) (l : ByteArray) (b : Nat) (st : Bool) (hs : TxtS s c l) (hb : b < 18446744073709551616) (hP : ParS 4 l b st) (w : World) :
    Calls Try.prog 46 #[.string s] w fun e w' => e = .returned (.tuple #[xpV (xpOf b st), .int .i64 0]) ∧ Below w.heap.size w w' := by
  obtain ⟨hsize, x0, x1, x2, x3, x4, x5, x6, x7, x8, x9, c1, y0, y2, y5, y7, y9⟩ := hs
  obtain ⟨i0, hinfo, hz0, hz1, hz2⟩ := info_parts infoS
  have P0 := Lib.hid par0
  have P1 := Lib.hid par12
  have P2 := Lib.hid par2
  have P3 := Lib.hid par3
  have P4 := Lib.hid hP
  clear hP
  go_enter Try.func46, Try.ntmps46
  go_wp2_with fail
  have qa := Row.new w 40 #[.int .u64 0, .bool false, .int .u64 0, .bool false, .int .u64 0, .bool false, .int .u64 0, .bool false, .int .u64 0, .bool false]
  have q0 : Below w.heap.size w (w.alloc (.cells #[.int .u64 0, .bool false, .int .u64 0, .bool false, .int .u64 0, .bool false, .int .u64 0, .bool false, .int .u64 0, .bool false] 40)) := nextB (Below.refl _ _)
  generalize w.alloc (.cells #[.int .u64 0, .bool false, .int .u64 0, .bool false, .int .u64 0, .bool false, .int .u64 0, .bool false, .int .u64 0, .bool false] 40) = w2 at *
  go_loopw [6, 7, 8] (fun p a i wr => ∃ (n : Nat) (u : Value), At i a n ∧ u = p ∧ wr.ownsRow w2.heap.size 9 1 u n ([s0T, s12T, sStar, sStar, l].take n |>.map Value.string) ∧ Below w2.heap.size w2 wr) (fun _ _ i _ => (11 - intOf i).toNat)
  case atStart => exact ⟨0, _, .inl ⟨rfl, rfl, rfl⟩, rfl, World.ownsRow_nil _ _ _ _, Below.refl _ _⟩
  case round =>
    obtain ⟨n, u, hat, rfl, hown, hbw⟩ := hrel
    have hzw := hbw.size
    rcases hat with ⟨rfl, rfl, rfl⟩ | ⟨rfl, rfl, rfl⟩ | ⟨rfl, rfl, rfl⟩ | ⟨rfl, rfl, rfl⟩ | ⟨rfl, rfl, rfl⟩ | ⟨rfl, rfl, rfl⟩ | ⟨rfl, rfl, rfl⟩ | ⟨rfl, rfl, rfl⟩ | ⟨rfl, rfl, rfl⟩ | ⟨rfl, rfl, rfl⟩ | ⟨rfl, rfl, rfl⟩ | ⟨rfl, rfl, rfl⟩
    · go_wp2_with fail
      go_roundw
      case rel => exact ⟨0, _, .inr (.inl ⟨rfl, rfl, rfl⟩), rfl, hown, hbw⟩
      case measure => simp [intOf]
    · go_wp2_with (at_builtin; refine wpList_append_own_at _ rfl _ _ 81 rfl w2.heap.size 9 i0 (.string ⟨#[]⟩) 1 16 Try.underlying81 hinfo hz0 hz1 hz2 rfl (by decide) u 0 _ rfl (hown.alloc _) ⟨wr.heap.size, 0, none⟩ 1 1 [.string s0T] rfl rfl (cell_one_new _ _ _) (by simp [Value.oneCell']) (by unfold maxLen; omega) (by omega) (by simp; omega) ?_; intro v' w1 hown' hgrow _ hat)
      have HB1 := Lib.hid ((hbw.alloc hzw _).grown hgrow (by simp; omega) (fun q e => (hown.lt q e).1) : Below w2.heap.size w2 w1)
      have HO1 := Lib.hid hown'
      clear hown' hgrow hat
      go_wp2_with fail
      go_roundw
      case rel => exact ⟨1, _, .inr (.inr (.inl ⟨rfl, rfl, rfl⟩)), rfl, HO1.out, HB1.out⟩
      case measure => simp [intOf]
    · go_wp2_with fail
      go_roundw
      case rel => exact ⟨1, _, .inr (.inr (.inr (.inl ⟨rfl, rfl, rfl⟩))), rfl, hown, hbw⟩
      case measure => simp [intOf]
    · go_wp2_with fail
      go_roundw
      case rel => exact ⟨1, _, .inr (.inr (.inr (.inr (.inl ⟨rfl, rfl, rfl⟩)))), rfl, hown, hbw⟩
      case measure => simp [intOf]
    · go_wp2_with (at_builtin; refine wpList_append_own_at _ rfl _ _ 81 rfl w2.heap.size 9 i0 (.string ⟨#[]⟩) 1 16 Try.underlying81 hinfo hz0 hz1 hz2 rfl (by decide) u 1 _ rfl (hown.alloc _) ⟨wr.heap.size, 0, none⟩ 1 1 [.string s12T] rfl rfl (cell_one_new _ _ _) (by simp [Value.oneCell']) (by unfold maxLen; omega) (by omega) (by simp; omega) ?_; intro v' w1 hown' hgrow _ hat)
      have HB1 := Lib.hid ((hbw.alloc hzw _).grown hgrow (by simp; omega) (fun q e => (hown.lt q e).1) : Below w2.heap.size w2 w1)
      have HO1 := Lib.hid hown'
      clear hown' hgrow hat
      go_wp2_with fail
      go_roundw
      case rel => exact ⟨2, _, .inr (.inr (.inr (.inr (.inr (.inl ⟨rfl, rfl, rfl⟩))))), rfl, HO1.out, HB1.out⟩
      case measure => simp [intOf]
    · go_wp2_with fail
      go_roundw
      case rel => exact ⟨2, _, .inr (.inr (.inr (.inr (.inr (.inr (.inl ⟨rfl, rfl, rfl⟩)))))), rfl, hown, hbw⟩
      case measure => simp [intOf]
    · go_wp2_with (at_builtin; refine wpList_append_own_at _ rfl _ _ 81 rfl w2.heap.size 9 i0 (.string ⟨#[]⟩) 1 16 Try.underlying81 hinfo hz0 hz1 hz2 rfl (by decide) u 2 _ rfl (hown.alloc _) ⟨wr.heap.size, 0, none⟩ 1 1 [.string sStar] rfl rfl (cell_one_new _ _ _) (by simp [Value.oneCell']) (by unfold maxLen; omega) (by omega) (by simp; omega) ?_; intro v' w1 hown' hgrow _ hat)
      have HB1 := Lib.hid ((hbw.alloc hzw _).grown hgrow (by simp; omega) (fun q e => (hown.lt q e).1) : Below w2.heap.size w2 w1)
      have HO1 := Lib.hid hown'
      clear hown' hgrow hat
      go_wp2_with fail
      go_roundw
      case rel => exact ⟨3, _, .inr (.inr (.inr (.inr (.inr (.inr (.inr (.inl ⟨rfl, rfl, rfl⟩))))))), rfl, HO1.out, HB1.out⟩
      case measure => simp [intOf]
    · go_wp2_with fail
      go_roundw
      case rel => exact ⟨3, _, .inr (.inr (.inr (.inr (.inr (.inr (.inr (.inr (.inl ⟨rfl, rfl, rfl⟩)))))))), rfl, hown, hbw⟩
      case measure => simp [intOf]
    · go_wp2_with (at_builtin; refine wpList_append_own_at _ rfl _ _ 81 rfl w2.heap.size 9 i0 (.string ⟨#[]⟩) 1 16 Try.underlying81 hinfo hz0 hz1 hz2 rfl (by decide) u 3 _ rfl (hown.alloc _) ⟨wr.heap.size, 0, none⟩ 1 1 [.string sStar] rfl rfl (cell_one_new _ _ _) (by simp [Value.oneCell']) (by unfold maxLen; omega) (by omega) (by simp; omega) ?_; intro v' w1 hown' hgrow _ hat)
      have HB1 := Lib.hid ((hbw.alloc hzw _).grown hgrow (by simp; omega) (fun q e => (hown.lt q e).1) : Below w2.heap.size w2 w1)
      have HO1 := Lib.hid hown'
      clear hown' hgrow hat
      go_wp2_with fail
      go_roundw
      case rel => exact ⟨4, _, .inr (.inr (.inr (.inr (.inr (.inr (.inr (.inr (.inr (.inl ⟨rfl, rfl, rfl⟩))))))))), rfl, HO1.out, HB1.out⟩
      case measure => simp [intOf]
    · go_wp2_with fail
      go_roundw
      case rel => exact ⟨4, _, .inr (.inr (.inr (.inr (.inr (.inr (.inr (.inr (.inr (.inr (.inl ⟨rfl, rfl, rfl⟩)))))))))), rfl, hown, hbw⟩
      case measure => simp [intOf]
    · go_wp2_with (at_builtin; refine wpList_append_own_at _ rfl _ _ 81 rfl w2.heap.size 9 i0 (.string ⟨#[]⟩) 1 16 Try.underlying81 hinfo hz0 hz1 hz2 rfl (by decide) u 4 _ rfl (hown.alloc _) ⟨wr.heap.size, 0, none⟩ 1 1 [.string l] rfl rfl (cell_one_new _ _ _) (by simp [Value.oneCell']) (by unfold maxLen; omega) (by omega) (by simp; omega) ?_; intro v' w1 hown' hgrow _ hat)
      have HB1 := Lib.hid ((hbw.alloc hzw _).grown hgrow (by simp; omega) (fun q e => (hown.lt q e).1) : Below w2.heap.size w2 w1)
      have HO1 := Lib.hid hown'
      clear hown' hgrow hat
      go_wp2_with fail
      go_roundw
      case rel => exact ⟨5, _, .inr (.inr (.inr (.inr (.inr (.inr (.inr (.inr (.inr (.inr (.inr (⟨rfl, rfl, rfl⟩))))))))))), rfl, HO1.out, HB1.out⟩
      case measure => simp [intOf]
    · obtain ⟨g', cap', rfl⟩ := ownsRow_succ hown
      have z0 : wr.cell? ⟨g', 0, none⟩ = some (.string s0T) := by have := hown.cellAt 0 (by omega); simpa using this
      have z1 : wr.cell? ⟨g', 1, none⟩ = some (.string s12T) := by have := hown.cellAt 1 (by omega); simpa using this
      have z2 : wr.cell? ⟨g', 2, none⟩ = some (.string sStar) := by have := hown.cellAt 2 (by omega); simpa using this
      have z3 : wr.cell? ⟨g', 3, none⟩ = some (.string sStar) := by have := hown.cellAt 3 (by omega); simpa using this
      have z4 : wr.cell? ⟨g', 4, none⟩ = some (.string l) := by have := hown.cellAt 4 (by omega); simpa using this
      have hgl := World.block_lt_of_cell? _ _ z0
      have qb : Row wr w.heap.size 40 #[.int .u64 0, .bool false, .int .u64 0, .bool false, .int .u64 0, .bool false, .int .u64 0, .bool false, .int .u64 0, .bool false] := qa.below hbw qa.lt
      have qw : Below w.heap.size w wr := nextC q0 hbw
      clear hown hbw x0 x1 x2 x3 x4 x5 x6 x7 x8 x9 c1 y0 y2 y5 y7 y9
      go_wp2_with fail
      go_loopw [10] (fun i wy => ∃ cs : Array Value, At5 b st i cs ∧ Row wy wr.heap.size 40 cs ∧ Below wr.heap.size wr wy) (fun i _ => (5 - intOf i).toNat)
      case atStart => exact ⟨_, .inl ⟨rfl, rfl⟩, Row.new _ _ _, nextB (Below.refl _ _)⟩
      case round =>
        obtain ⟨cs, hat, rc, rq⟩ := hrel
        have u0 := (rq.cell (p := ⟨g', 0, none⟩) hgl).trans z0
        have u1 := (rq.cell (p := ⟨g', 1, none⟩) hgl).trans z1
        have u2 := (rq.cell (p := ⟨g', 2, none⟩) hgl).trans z2
        have u3 := (rq.cell (p := ⟨g', 3, none⟩) hgl).trans z3
        have u4 := (rq.cell (p := ⟨g', 4, none⟩) hgl).trans z4
        rcases hat with ⟨rfl, rfl⟩ | ⟨rfl, rfl⟩ | ⟨rfl, rfl⟩ | ⟨rfl, rfl⟩ | ⟨rfl, rfl⟩ | ⟨rfl, rfl⟩
        · go_wp2_with fail
          refine (P0.out _).mono ?_
          rintro e w5 ⟨rfl, hb5⟩
          have rd := rc.over hb5
          have rq5 := nextC rq hb5
          clear hb5
          go_upto_region 30 with fail
          have rd1 := rd.alloc (.cells #[.int .u64 (bv 0 1 : Nat), .bool false] 38)
          have rl := Row.new w5 38 #[.int .u64 (bv 0 1 : Nat), .bool false]
          have rq6 := nextB (o := .cells #[.int .u64 (bv 0 1 : Nat), .bool false] 38) rq5
          generalize w5.alloc _ = w6 at rd1 rl rq6 ⊢
          have kd := fun o => rd1.cell o
          have fd := fun o => rd1.free o
          have kl := fun o => rl.cell o
          go_wp2_with fail
          go_roundw
          case rel => exact ⟨_, .inr (.inl ⟨rfl, rfl⟩), ((rd1.put 0 _).put 1 _).eq rfl, (rq6.setCell (by simp) _).setCell (by simp) _⟩
          case measure => simp [intOf]
        · go_wp2_with fail
          refine (P1.out _).mono ?_
          rintro e w5 ⟨rfl, hb5⟩
          have rd := rc.over hb5
          have rq5 := nextC rq hb5
          clear hb5
          go_upto_region 30 with fail
          have rd1 := rd.alloc (.cells #[.int .u64 (bv 12 1 : Nat), .bool false] 38)
          have rl := Row.new w5 38 #[.int .u64 (bv 12 1 : Nat), .bool false]
          have rq6 := nextB (o := .cells #[.int .u64 (bv 12 1 : Nat), .bool false] 38) rq5
          generalize w5.alloc _ = w6 at rd1 rl rq6 ⊢
          have kd := fun o => rd1.cell o
          have fd := fun o => rd1.free o
          have kl := fun o => rl.cell o
          go_wp2_with fail
          go_roundw
          case rel => exact ⟨_, .inr (.inr (.inl ⟨rfl, rfl⟩)), ((rd1.put 2 _).put 3 _).eq rfl, (rq6.setCell (by simp) _).setCell (by simp) _⟩
          case measure => simp [intOf]
        · go_wp2_with fail
          refine (P2.out _).mono ?_
          rintro e w5 ⟨rfl, hb5⟩
          have rd := rc.over hb5
          have rq5 := nextC rq hb5
          clear hb5
          go_upto_region 30 with fail
          have rd1 := rd.alloc (.cells #[.int .u64 (bv 1 31 : Nat), .bool true] 38)
          have rl := Row.new w5 38 #[.int .u64 (bv 1 31 : Nat), .bool true]
          have rq6 := nextB (o := .cells #[.int .u64 (bv 1 31 : Nat), .bool true] 38) rq5
          generalize w5.alloc _ = w6 at rd1 rl rq6 ⊢
          have kd := fun o => rd1.cell o
          have fd := fun o => rd1.free o
          have kl := fun o => rl.cell o
          go_wp2_with fail
          go_roundw
          case rel => exact ⟨_, .inr (.inr (.inr (.inl ⟨rfl, rfl⟩))), ((rd1.put 4 _).put 5 _).eq rfl, (rq6.setCell (by simp) _).setCell (by simp) _⟩
          case measure => simp [intOf]
        · go_wp2_with fail
          refine (P3.out _).mono ?_
          rintro e w5 ⟨rfl, hb5⟩
          have rd := rc.over hb5
          have rq5 := nextC rq hb5
          clear hb5
          go_upto_region 30 with fail
          have rd1 := rd.alloc (.cells #[.int .u64 (bv 1 12 : Nat), .bool true] 38)
          have rl := Row.new w5 38 #[.int .u64 (bv 1 12 : Nat), .bool true]
          have rq6 := nextB (o := .cells #[.int .u64 (bv 1 12 : Nat), .bool true] 38) rq5
          generalize w5.alloc _ = w6 at rd1 rl rq6 ⊢
          have kd := fun o => rd1.cell o
          have fd := fun o => rd1.free o
          have kl := fun o => rl.cell o
          go_wp2_with fail
          go_roundw
          case rel => exact ⟨_, .inr (.inr (.inr (.inr (.inl ⟨rfl, rfl⟩)))), ((rd1.put 6 _).put 7 _).eq rfl, (rq6.setCell (by simp) _).setCell (by simp) _⟩
          case measure => simp [intOf]
        · go_wp2_with fail
          refine (P4.out _).mono ?_
          rintro e w5 ⟨rfl, hb5⟩
          have rd := rc.over hb5
          have rq5 := nextC rq hb5
          clear hb5
          go_upto_region 30 with fail
          have rd1 := rd.alloc (.cells #[.int .u64 b, .bool st] 38)
          have rl := Row.new w5 38 #[.int .u64 b, .bool st]
          have rq6 := nextB (o := .cells #[.int .u64 b, .bool st] 38) rq5
          generalize w5.alloc _ = w6 at rd1 rl rq6 ⊢
          have kd := fun o => rd1.cell o
          have fd := fun o => rd1.free o
          have kl := fun o => rl.cell o
          go_wp2_with fail
          go_roundw
          case rel => exact ⟨_, .inr (.inr (.inr (.inr (.inr (⟨rfl, rfl⟩))))), ((rd1.put 8 _).put 9 _).eq rfl, (rq6.setCell (by simp) _).setCell (by simp) _⟩
          case measure => simp [intOf]
        · have k1 := fun o => rc.cell o
          have qb2 := qb.over rq
          have f1 := fun o => qb2.free o
          have k2 := fun o => qb2.cell o
          go_wp2_with fail
          refine bodyPost_ret (results_row_tmp Try.results46 _ _ w.heap.size 40 (xpC (xpOf b st)) (0, 0) _ (.int .i64 0) rfl ?_ Try.underlying40 rfl (by kernel_rfl) rfl) rfl ⟨rfl, ?_⟩
          · exact ((((((((((qb2.put 0 _).put 1 _).put 2 _).put 3 _).put 4 _).put 5 _).put 6 _).put 7 _).put 8 _).put 9 _).eq rfl
          · exact (((((((((((nextC qw rq).setCell (by simp) _).setCell (by simp) _).setCell (by simp) _).setCell (by simp) _).setCell (by simp) _).setCell (by simp) _).setCell (by simp) _).setCell (by simp) _).setCell (by simp) _).setCell (by simp) _)
theorem put10 (a0 a1 a2 a3 a4 a5 a6 a7 a8 a9 b0 b1 b2 b3 b4 b5 b6 b7 b8 b9 : Value) : (((((((((((#[a0, a1, a2, a3, a4, a5, a6, a7, a8, a9] : Array Value).setIfInBounds 0 b0).setIfInBounds 1 b1).setIfInBounds 2 b2).setIfInBounds 3 b3).setIfInBounds 4 b4).setIfInBounds 5 b5).setIfInBounds 6 b6).setIfInBounds 7 b7).setIfInBounds 8 b8).setIfInBounds 9 b9) = #[b0, b1, b2, b3, b4, b5, b6, b7, b8, b9] := by kernel_rfl
set_option maxHeartbeats 1000000 in
theorem expr_of (s : ByteArray) (x : Xp) (H : ∀ w, Calls Try.prog 46 #[.string s] w fun e w' => e = .returned (.tuple #[xpV x, .int .i64 0]) ∧ Below w.heap.size w w') (w : World) :
    Calls Try.prog 22 #[.string s] w fun e w' => e = .returned (xpV x) ∧ Below w.heap.size w w' := by
  obtain ⟨b0, b1, b2, b3, b4, s0, s1, s2, s3, s4⟩ := x
  have C := Lib.hid H
  clear H
  unfold xpV at *
  dsimp only at *
  go_enter Try.func22, Try.ntmps22
  go_wp2_with fail
  refine (C.out _).mono ?_
  rintro e w1 ⟨rfl, hb1⟩
  have kr := newC hb1
  have q1 := nextA (Below.refl w.heap.size w) hb1
  go_upto_region 2 with fail
  have a1 := Row.alloc kr (.cells #[.int .u64 b0, .bool s0, .int .u64 b1, .bool s1, .int .u64 b2, .bool s2, .int .u64 b3, .bool s3, .int .u64 b4, .bool s4] 40)
  have a2 := Row.new w1 40 #[.int .u64 b0, .bool s0, .int .u64 b1, .bool s1, .int .u64 b2, .bool s2, .int .u64 b3, .bool s3, .int .u64 b4, .bool s4]
  have q2 := nextB (o := .cells #[.int .u64 b0, .bool s0, .int .u64 b1, .bool s1, .int .u64 b2, .bool s2, .int .u64 b3, .bool s3, .int .u64 b4, .bool s4] 40) q1
  have hz := kr.lt
  generalize w1.alloc _ = V at a1 a2 q2 ⊢
  have k1 := fun o => a1.cell o
  have f1 := fun o => a1.free o
  have k2 := fun o => a2.cell o
  go_wp2_with fail
  refine bodyPost_ret (results_row1 Try.results22 _ _ w.heap.size 40 #[.int .u64 b0, .bool s0, .int .u64 b1, .bool s1, .int .u64 b2, .bool s2, .int .u64 b3, .bool s3, .int .u64 b4, .bool s4] (0, 0) _ rfl ?_ Try.underlying40 rfl (by kernel_rfl)) rfl ⟨rfl, ?_⟩
  · refine ((((((((((a1.put 0 _).put 1 _).put 2 _).put 3 _).put 4 _).put 5 _).put 6 _).put 7 _).put 8 _).put 9 _).eq ?_
    exact put10 _ _ _ _ _ _ _ _ _ _ _ _ _ _ _ _ _ _ _ _
  · exact ((((((((((q2.setCell (by simp) _).setCell (by simp) _).setCell (by simp) _).setCell (by simp) _).setCell (by simp) _).setCell (by simp) _).setCell (by simp) _).setCell (by simp) _).setCell (by simp) _).setCell (by simp) _)
theorem exprStar (w : World) : Calls Try.prog 22 #[.string tStar] w fun e w' => e = .returned (xpV (xpOf (bv 0 7) true)) ∧ Below w.heap.size w w' :=
  expr_of _ _ (fun W => parseX tStar 42 sStar (bv 0 7) true txtStar (by decide) par4 W) w
theorem exprSix (w : World) : Calls Try.prog 22 #[.string tSix] w fun e w' => e = .returned (xpV (xpOf (bv 6 1) false)) ∧ Below w.heap.size w w' :=
  expr_of _ _ (fun W => parseX tSix 54 s6T (bv 6 1) false txtSix (by decide) par6 W) w
end Go.Proofs.Ythigmjjafilbcaa
