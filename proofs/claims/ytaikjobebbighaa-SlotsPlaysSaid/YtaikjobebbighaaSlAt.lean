/- Slots: a book in a law's own worlds: calls, one behind the other. -/
import Derived.Test.YtaikjobebbighaaSlL
namespace Go.Proofs.Ytaikjobebbighaa
set_option linter.unusedVariables false
set_option maxRecDepth 100000
open Go.RowKit
theorem Turn.old {w w' : World} {g b : Nat} {ys ys' : List Wh} {st' : Bk} {n : Nat} (h : Turn w w' g b ys st' ys') (hn : ∀ j, Mine g b ys j → n ≤ j) (hw : n ≤ w.heap.size) : ∀ j, Mine g b ys' j → n ≤ j := fun j hj => by
  rcases h.mine j hj with h1 | h1
  · exact hn j h1
  · omega
theorem But.below {F : Nat → Prop} {a b : World} {n : Nat} (h : But F a b) (hF : ∀ j, F j → n ≤ j) (hn : n ≤ a.heap.size) : Below n a b :=
  ⟨h.os, h.tape, h.output, h.size, fun j hj => h.block j (by omega) (fun hf => by have := hF j hf; omega)⟩
/-- A book in a world, all of it from n on. -/
structure At (n : Nat) (w0 w : World) (g b : Nat) (st : Bk) (ys : List Wh) : Prop where
  bk : BkAt w g b st ys
  mine : ∀ j, Mine g b ys j → n ≤ j
  low : Below n w0 w
theorem At.turn {n : Nat} {w0 w w' : World} {g b : Nat} {st st' : Bk} {ys ys' : List Wh} (h : At n w0 w g b st ys) (hn : n ≤ w0.heap.size) (t : Turn w w' g b ys st' ys') : At n w0 w' g b st' ys' := by
  have hz := h.low.size
  exact ⟨t.at_, t.old h.mine (by omega), h.low.trans (t.but.below h.mine (by omega))⟩
theorem At.over {n : Nat} {w0 w w' : World} {g b : Nat} {st : Bk} {ys : List Wh} (h : At n w0 w g b st ys) (hn : n ≤ w0.heap.size) (hb : Below w.heap.size w w') : At n w0 w' g b st ys := by
  have hz := h.low.size
  exact ⟨h.bk.over hb, h.mine, h.low.trans (hb.mono (by omega))⟩
/-- A row of the law's own, beside the book. -/
structure Side (w : World) (g b : Nat) (ys : List Wh) (B : Option Addr) (d : Nat) (l : List Pl) : Prop where
  row : PlO 0 w B d l
  off : ∀ q, B = some ⟨q, 0, none⟩ → ¬ Mine g b ys q
theorem Side.turn {w w' : World} {g b : Nat} {st' : Bk} {ys ys' : List Wh} {B : Option Addr} {d : Nat} {l : List Pl} (h : Side w g b ys B d l) (t : Turn w w' g b ys st' ys') : Side w' g b ys' B d l :=
  ⟨h.row.but t.but h.off, fun q e hm => by
    rcases t.mine q hm with h1 | h1
    · exact h.off q e h1
    · have := h.row.lt_ e; omega⟩
theorem Side.over {w w' : World} {g b : Nat} {ys : List Wh} {B : Option Addr} {d : Nat} {l : List Pl} (h : Side w g b ys B d l) (hb : Below w.heap.size w w') : Side w' g b ys B d l := ⟨h.row.over hb, h.off⟩
theorem Gave.side {w w' : World} {g b : Nat} {ys' : List Wh} {B : Option Addr} {d : Nat} {l : List Pl} (h : Gave w w' g b ys' B d l) : Side w' g b ys' B d l := ⟨h.row.low (Nat.zero_le _), h.off⟩
theorem Side.new {w w' : World} {g b : Nat} {st : Bk} {ys : List Wh} {B : Option Addr} {d : Nat} {l : List Pl} (h : BkAt w g b st ys) (ho : PlO w.heap.size w' B d l) : Side w' g b ys B d l :=
  ⟨ho.low (Nat.zero_le _), fun q e hm => by
    have h1 := h.mine_lt hm
    rcases ho.fresh none q e with h2 | h2
    · cases h2
    · omega⟩
section
variable {N n : Nat} {w0 w : World} {g b : Nat} {st st' : Bk} {ys : List Wh} {k : Key}
theorem At.set (h : At n w0 w g b st ys) (hn : n ≤ w0.heap.size) (ok : BkOk N st) (hk : k.length ≤ 1000000) {x : Int} {out : List Pl} {er : Int} (eq : setB st k x = (st', out, er)) :
    Calls Try.prog 11 #[.pointer (some ⟨g, 0, none⟩), nm k, .int .i64 x] w fun e w' => ∃ (B : Option Addr) (d : Nat) (ys' : List Wh), e = .returned (.tuple #[.slice B out.length d, .int .i64 er]) ∧ Side w' g b ys' B d out ∧ Turn w w' g b ys st' ys' ∧ At n w0 w' g b st' ys' :=
  (set_any N g b st ys k x w h.bk ok hk).mono fun e w' ⟨B, d, ys', h1, h2, h3⟩ => by
    rw [eq] at h1 h2 h3
    exact ⟨B, d, ys', h1, h2.side, h3, h.turn hn h3⟩
theorem At.free (h : At n w0 w g b st ys) (hn : n ≤ w0.heap.size) (ok : BkOk N st) (hk : k.length ≤ 1000000) {x : Int} {out : List Pl} {er : Int} (eq : freeB st k x = (st', out, er)) :
    Calls Try.prog 13 #[.pointer (some ⟨g, 0, none⟩), nm k, .int .u64 x] w fun e w' => ∃ (B : Option Addr) (d : Nat) (ys' : List Wh), e = .returned (.tuple #[.slice B out.length d, .int .i64 er]) ∧ Side w' g b ys' B d out ∧ Turn w w' g b ys st' ys' ∧ At n w0 w' g b st' ys' :=
  (free_any N g b st ys k x w h.bk ok hk).mono fun e w' ⟨B, d, ys', h1, h2, h3⟩ => by
    rw [eq] at h1 h2 h3
    exact ⟨B, d, ys', h1, h2.side, h3, h.turn hn h3⟩
theorem At.ask (h : At n w0 w g b st ys) (hn : n ≤ w0.heap.size) (ok : BkOk N st) (hN : N + 1 ≤ 100000) (hk : k.length ≤ 1000000) {x1 x2 : Int} {held : Bool} {er : Int} (eq : askB st k (x1, x2) = (st', held, er)) :
    Calls Try.prog 12 #[.pointer (some ⟨g, 0, none⟩), nm k, .agg #[.int .u64 x1, .int .i64 x2]] w fun e w' => ∃ (ys' : List Wh), e = .returned (.tuple #[.bool held, .int .i64 er]) ∧ Turn w w' g b ys st' ys' ∧ At n w0 w' g b st' ys' :=
  (ask_any N g b st ys k x1 x2 w h.bk ok hN hk).mono fun e w' ⟨ys', h1, h3⟩ => by
    rw [eq] at h1 h3
    exact ⟨ys', h1, h3, h.turn hn h3⟩
theorem At.holders (h : At n w0 w g b st ys) (hn : n ≤ w0.heap.size) (ok : BkOk N st) (hk : k.length ≤ 1000000) {s : Pst} (eq : getZ st k = s) :
    Calls Try.prog 14 #[.pointer (some ⟨g, 0, none⟩), nm k] w fun e w' => ∃ (B : Option Addr) (d : Nat), e = .returned (.slice B s.h.length d) ∧ PlO w.heap.size w' B d s.h ∧ Below w.heap.size w w' :=
  (holders_any N g b st ys k w h.bk ok hk).mono fun e w' ⟨⟨B, d, h1, h2⟩, h3⟩ => by
    rw [eq] at h1 h2
    exact ⟨B, d, h1, h2, h3⟩
theorem At.line (h : At n w0 w g b st ys) (hn : n ≤ w0.heap.size) (ok : BkOk N st) (hk : k.length ≤ 1000000) {s : Pst} (eq : getZ st k = s) :
    Calls Try.prog 15 #[.pointer (some ⟨g, 0, none⟩), nm k] w fun e w' => ∃ (B : Option Addr) (d : Nat), e = .returned (.slice B s.l.length d) ∧ PlO w.heap.size w' B d s.l ∧ Below w.heap.size w w' :=
  (line_any N g b st ys k w h.bk ok hk).mono fun e w' ⟨⟨B, d, h1, h2⟩, h3⟩ => by
    rw [eq] at h1 h2
    exact ⟨B, d, h1, h2, h3⟩
theorem At.left (h : At n w0 w g b st ys) (hn : n ≤ w0.heap.size) (ok : BkOk N st) (hk : k.length ≤ 1000000) {q : Int} (eq : leftI (getZ st k).size (getZ st k).h = q) :
    Calls Try.prog 16 #[.pointer (some ⟨g, 0, none⟩), nm k] w fun e w' => e = .returned (.int .i64 q) ∧ Below w.heap.size w w' :=
  (left_book N g b st ys k w h.bk ok hk).mono fun e w' ⟨h1, h3⟩ => by
    rw [eq] at h1
    exact ⟨h1, h3⟩
end
theorem new_at (n : Nat) (w0 w : World) (hb : Below n w0 w) (hn : n ≤ w0.heap.size) : Calls Try.prog 10 #[] w fun e w' => ∃ g b, e = .returned (.pointer (some ⟨g, 0, none⟩)) ∧ w.heap.size ≤ g ∧ w.heap.size ≤ b ∧ At n w0 w' g b [] [] ∧ Below w.heap.size w w' :=
  (new_any w).mono fun e w' ⟨g, b, h1, h2, h3, h4, h5⟩ => by
    have hz := hb.size
    refine ⟨g, b, h1, h2, h3, ⟨h4, fun j hj => ?_, hb.trans (h5.mono (by omega))⟩, h5⟩
    rcases hj with rfl | rfl | ⟨y, hy, _⟩
    · omega
    · omega
    · cases hy
end Go.Proofs.Ytaikjobebbighaa
