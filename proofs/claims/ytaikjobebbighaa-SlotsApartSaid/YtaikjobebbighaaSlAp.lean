/- Slots: two books, apart. -/
import Derived.Test.YtaikjobebbighaaSlPm
namespace Go.Proofs.Ytaikjobebbighaa
set_option linter.unusedVariables false
set_option maxRecDepth 100000
open Go.RowKit
def Far (g b : Nat) (ys : List Wh) (g2 b2 : Nat) (ys2 : List Wh) : Prop := ∀ j, Mine g b ys j → ¬ Mine g2 b2 ys2 j
theorem Far.symm {g b : Nat} {ys : List Wh} {g2 b2 : Nat} {ys2 : List Wh} (h : Far g b ys g2 b2 ys2) : Far g2 b2 ys2 g b ys := fun j h1 h2 => h j h2 h1
theorem Far.turn {w w' : World} {g b : Nat} {ys ys' : List Wh} {st' st2 : Bk} {g2 b2 : Nat} {ys2 : List Wh} (h : Far g b ys g2 b2 ys2) (t : Turn w w' g b ys st' ys') (h2 : BkAt w g2 b2 st2 ys2) : Far g b ys' g2 b2 ys2 := fun j hj hm => by
  rcases t.mine j hj with h1 | h1
  · exact h j h1 hm
  · have := h2.mine_lt hm; omega
structure Two (n : Nat) (w0 w : World) (g b : Nat) (st : Bk) (ys : List Wh) (g2 b2 : Nat) (st2 : Bk) (ys2 : List Wh) : Prop where
  a : At n w0 w g b st ys
  a2 : At n w0 w g2 b2 st2 ys2
  far : Far g b ys g2 b2 ys2
section
variable {n : Nat} {w0 w w' : World} {g b : Nat} {st st' : Bk} {ys ys' : List Wh} {g2 b2 : Nat} {st2 st2' : Bk} {ys2 ys2' : List Wh}
theorem Two.swap (h : Two n w0 w g b st ys g2 b2 st2 ys2) : Two n w0 w g2 b2 st2 ys2 g b st ys := ⟨h.a2, h.a, h.far.symm⟩
theorem Two.one (h : Two n w0 w g b st ys g2 b2 st2 ys2) (hn : n ≤ w0.heap.size) (t : Turn w w' g b ys st' ys') : Two n w0 w' g b st' ys' g2 b2 st2 ys2 :=
  ⟨h.a.turn hn t, h.a2.but hn t.but (fun j hm hF => h.far j hF hm) h.a.mine, h.far.turn t h.a2.bk⟩
theorem Two.two (h : Two n w0 w g b st ys g2 b2 st2 ys2) (hn : n ≤ w0.heap.size) (t : Turn w w' g2 b2 ys2 st2' ys2') : Two n w0 w' g b st ys g2 b2 st2' ys2' := (h.swap.one hn t).swap
theorem Two.over (h : Two n w0 w g b st ys g2 b2 st2 ys2) (hn : n ≤ w0.heap.size) (hb : Below w.heap.size w w') : Two n w0 w' g b st ys g2 b2 st2 ys2 := ⟨h.a.over hn hb, h.a2.over hn hb, h.far⟩
theorem Gave.side2 {B : Option Addr} {d : Nat} {l : List Pl} (h : Gave w w' g b ys' B d l) (h2 : BkAt w g2 b2 st2 ys2) : Side w' g2 b2 ys2 B d l :=
  ⟨h.row.low (Nat.zero_le _), fun q e hm => by
    have h1 := h2.mine_lt hm
    rcases h.row.fresh none q e with h3 | h3
    · cases h3
    · omega⟩
theorem At.freeG {N : Nat} {k : Key} (h : At n w0 w g b st ys) (hn : n ≤ w0.heap.size) (ok : BkOk N st) (hk : k.length ≤ 1000000) {x : Int} {out : List Pl} {er : Int} (eq : freeB st k x = (st', out, er)) :
    Calls Try.prog 13 #[.pointer (some ⟨g, 0, none⟩), nm k, .int .u64 x] w fun e w' => ∃ (B : Option Addr) (d : Nat) (ys' : List Wh), e = .returned (.tuple #[.slice B out.length d, .int .i64 er]) ∧ Gave w w' g b ys' B d out ∧ Turn w w' g b ys st' ys' :=
  (free_any N g b st ys k x w h.bk ok hk).mono fun e w' ⟨B, d, ys', h1, h2, h3⟩ => by
    rw [eq] at h1 h2 h3
    exact ⟨B, d, ys', h1, h2, h3⟩
end
end Go.Proofs.Ytaikjobebbighaa
