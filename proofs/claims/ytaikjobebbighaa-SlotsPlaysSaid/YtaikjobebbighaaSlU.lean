/- Slots: what a call at a book leaves; the serving that ends it. -/
import Derived.Test.YtaikjobebbighaaSlT
import Derived.Test.YtaikjobebbighaaSlR
namespace Go.Proofs.Ytaikjobebbighaa
set_option linter.unusedVariables false
set_option maxRecDepth 100000
open Go.RowKit
/-- A book's blocks. -/
def Mine (g b : Nat) (ys : List Wh) (j : Nat) : Prop := j = g ∨ j = b ∨ ∃ y ∈ ys, y.foot j
/-- A call at a book: what is then. -/
structure Turn (w w' : World) (g b : Nat) (ys : List Wh) (st' : Bk) (ys' : List Wh) : Prop where
  at_ : BkAt w' g b st' ys'
  but : But (Mine g b ys) w w'
  mine : ∀ j, Mine g b ys' j → Mine g b ys j ∨ w.heap.size ≤ j
/-- A row that the call made, beside the book. -/
structure Gave (w w' : World) (g b : Nat) (ys' : List Wh) (B : Option Addr) (d : Nat) (out : List Pl) : Prop where
  row : PlO w.heap.size w' B d out
  off : ∀ q, B = some ⟨q, 0, none⟩ → ¬ Mine g b ys' q
theorem Gave.nil (w w' : World) (g b : Nat) (ys' : List Wh) : Gave w w' g b ys' none 0 [] := ⟨RkO.nil _ _, fun q e => by cases e⟩
theorem BkAt.mine_lt {w : World} {g b : Nat} {st : Bk} {ys : List Wh} (h : BkAt w g b st ys) {j : Nat} (hj : Mine g b ys j) : j < w.heap.size := by
  obtain ⟨es, hm, he⟩ := h.map
  rcases hj with rfl | rfl | ⟨y, hy, hj⟩
  · exact h.row.lt
  · exact hm.lt
  · exact he.lt y hy j hj
theorem Turn.stay {w w' : World} {g b : Nat} {st : Bk} {ys : List Wh} (h : BkAt w g b st ys) (hb : Below w.heap.size w w') : Turn w w' g b ys st ys := ⟨h.over hb, But.of_below hb (Nat.le_refl _), fun j hj => .inl hj⟩
theorem RkO.up {α : Type} {en : α → List Value} {k : Nat} {e : TypeId} {base m : Nat} {B : Option Addr} {d : Nat} {ts : List α} {w : World} (h : RkO en k e base w B d ts) (hB : ∀ g, B = some ⟨g, 0, none⟩ → m ≤ g) : RkO en k e m w B d ts := by
  rcases h.2 with h1 | ⟨g, cap, cur, ev, h1, h2⟩
  · exact ⟨h.1, .inl h1⟩
  · refine ⟨h.1, .inr ⟨g, cap, cur, ev, hB g ?_, h2⟩⟩
    injection ev
/-- The serving at a pool that the call has changed. -/
theorem serve_turn {w w3 : World} {g b : Nat} {st : Bk} {ys : List Wh} {k : Key} {s : Pst} {y : Wh} {size : Int} {h2 l2 : List Pl} {A2 A2' : Option Addr} (h : BkAt w g b st ys) (hg : bkGet st ys k = some (s, y)) (hb3 : But y.foot w w3) (hk3 : PoolAt w3 y.p size h2 l2 A2 A2')
    (hn : ∀ j, Foot y.p A2 A2' j → y.foot j ∨ w.heap.size ≤ j) (ok : PoolOk size h2 l2) :
    Calls Try.prog 27 #[.pointer (some ⟨y.p, 0, none⟩)] w3 fun e w' => ∃ (B : Option Addr) (d : Nat) (ys' : List Wh), e = .returned (.slice B (servesF size h2 l2).2.2.length d) ∧ Gave w w' g b ys' B d (servesF size h2 l2).2.2 ∧ Turn w w' g b ys (bkPut st k (serveP size h2 l2)) ys' := by
  obtain ⟨es, hm, he⟩ := h.map
  refine (serves_at y.p size h2 l2 A2 A2' w3 hk3 ok).mono ?_
  rintro e w' ⟨A3, A3', B, d, rfl, hp', hB, n1, n2, hBf, hb⟩
  obtain ⟨z, hz⟩ : ∃ z : Wh, z = ⟨y.p, A3, A3'⟩ := ⟨_, rfl⟩
  have hzf : ∀ j, z.foot j ↔ Foot y.p A3 A3' j := fun j => by rw [hz]
  have hsz := hb3.size
  have hzn : ∀ j, z.foot j → y.foot j ∨ w.heap.size ≤ j := fun j hj => by
    rcases Foot.near n1 n2 ((hzf j).1 hj) with h1 | h1
    · exact hn j h1
    · exact .inr (by omega)
  have hbw : But y.foot w w' := hb3.next hb hn
  have ht := h.turn (s' := serveP size h2 l2) (z := z) hg hbw (by rw [hz]; exact hp') (by rw [hz]) hzn
  have hy := bkGet_mem hg
  refine ⟨B, d, whPut st ys k z, rfl, ⟨hB.up fun q e => by have := (hBf q e).1; omega, fun q e => ?_⟩, ⟨ht, hbw.mono fun j hj => .inl (.inr (.inr ⟨y, hy, hj⟩)), fun j hj => ?_⟩⟩
  · have hq := (hBf q e).1
    have hf := (hBf q e).2
    rintro (rfl | rfl | ⟨v, hv, hj⟩)
    · have := h.row.lt; omega
    · have := hm.lt; omega
    · rcases whPut_mem hv with rfl | hv
      · exact hf ((hzf q).1 hj)
      · have := he.lt v hv q hj; omega
  · rcases hj with hj | hj | ⟨v, hv, hj⟩
    · exact .inl (.inl hj)
    · exact .inl (.inr (.inl hj))
    · rcases whPut_mem hv with rfl | hv
      · rcases hzn j hj with h1 | h1
        · exact .inl (.inr (.inr ⟨y, hy, h1⟩))
        · exact .inr h1
      · exact .inl (.inr (.inr ⟨v, hv, hj⟩))
end Go.Proofs.Ytaikjobebbighaa
