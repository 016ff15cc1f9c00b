/- Slots: a pool as it lies; its footprint. -/
import Derived.Test.YtaikjobebbighaaSlF
namespace Go.Proofs.Ytaikjobebbighaa
set_option linter.unusedVariables false
set_option maxRecDepth 100000
open Go.RowKit
/-- A pool as it lies: its block p, the row A of its holders, the row A' of its line. -/
def PoolAt (w : World) (p : Nat) (size : Int) (h l : List Pl) (A A' : Option Addr) : Prop :=
  ∃ c c' : Nat, Row w p 77 #[.int .i64 size, .slice A h.length c, .slice A' l.length c'] ∧ PlO 0 w A c h ∧ PlO 0 w A' c' l ∧ Apt A A'
/-- The blocks in which it lies. -/
def Foot (p : Nat) (A A' : Option Addr) (k : Nat) : Prop := k = p ∨ A = some ⟨k, 0, none⟩ ∨ A' = some ⟨k, 0, none⟩
theorem Foot.near {p n k : Nat} {A A' A2 A2' : Option Addr} (h1 : NearB n A A2) (h2 : NearB n A' A2') (h : Foot p A2 A2' k) : Foot p A A' k ∨ n ≤ k := by
  rcases h with h | h | h
  · exact .inl (.inl h)
  · rcases h1 k h with h3 | h3
    · exact .inl (.inr (.inl h3))
    · exact .inr h3
  · rcases h2 k h with h3 | h3
    · exact .inl (.inr (.inr h3))
    · exact .inr h3
section
variable {w w' : World} {p : Nat} {size : Int} {h l : List Pl} {A A' : Option Addr}
theorem PoolAt.but {F : Nat → Prop} (k : PoolAt w p size h l A A') (hb : But F w w') (hn : ∀ j, Foot p A A' j → ¬ F j) : PoolAt w' p size h l A A' := by
  obtain ⟨c, c', h1, h2, h3, h4⟩ := k
  exact ⟨c, c', h1.but hb (hn p (.inl rfl)), h2.but hb (fun g e => hn g (.inr (.inl e))), h3.but hb (fun g e => hn g (.inr (.inr e))), h4⟩
theorem PoolAt.over (k : PoolAt w p size h l A A') (hb : Below w.heap.size w w') : PoolAt w' p size h l A A' := by
  obtain ⟨c, c', h1, h2, h3, h4⟩ := k
  exact ⟨c, c', h1.over hb, h2.over hb, h3.over hb, h4⟩
theorem PoolAt.lt (k : PoolAt w p size h l A A') {j : Nat} (hj : Foot p A A' j) : j < w.heap.size := by
  obtain ⟨c, c', h1, h2, h3, h4⟩ := k
  rcases hj with rfl | e | e
  · exact h1.lt
  · exact h2.lt_ e
  · exact h3.lt_ e
/-- Its size set. -/
theorem PoolAt.resize (k : PoolAt w p size h l A A') (s : Int) : PoolAt (w.setCell ⟨p, 0, none⟩ (.int .i64 s)) p s h l A A' := by
  obtain ⟨c, c', h1, h2, h3, h4⟩ := k
  exact ⟨c, c', h1.put 0 _, h2.store h1 (by decide) 0 _, h3.store h1 (by decide) 0 _, h4⟩
/-- Its holders' row made anew. -/
theorem PoolAt.rehold (k : PoolAt w p size h l A A') {h2 : List Pl} {A2 : Option Addr} {c2 : Nat} (hn : PlO 0 w A2 c2 h2) (ha : Apt A2 A') : PoolAt (w.setCell ⟨p, 1, none⟩ (.slice A2 h2.length c2)) p size h2 l A2 A' := by
  obtain ⟨c, c', h1, _, h3, h4⟩ := k
  exact ⟨c2, c', h1.put 1 _, hn.store h1 (by decide) 1 _, h3.store h1 (by decide) 1 _, ha⟩
/-- Its line's row made anew. -/
theorem PoolAt.reline (k : PoolAt w p size h l A A') {l2 : List Pl} {A2 : Option Addr} {c2 : Nat} (hn : PlO 0 w A2 c2 l2) (ha : Apt A A2) : PoolAt (w.setCell ⟨p, 2, none⟩ (.slice A2 l2.length c2)) p size h l2 A A2 := by
  obtain ⟨c, c', h1, h3, _, h4⟩ := k
  exact ⟨c, c2, h1.put 2 _, h3.store h1 (by decide) 2 _, hn.store h1 (by decide) 2 _, ha⟩
end
/-- pool.serves, of a pool as it lies. -/
theorem serves_at (p : Nat) (size : Int) (h l : List Pl) (A A' : Option Addr) (w : World) (k : PoolAt w p size h l A A') (hk : PoolOk size h l) :
    Calls Try.prog 27 #[.pointer (some ⟨p, 0, none⟩)] w fun e w' => ∃ (A2 A2' B : Option Addr) (d : Nat), e = .returned (.slice B (servesF size h l).2.2.length d) ∧ PoolAt w' p size (servesF size h l).1 (servesF size h l).2.1 A2 A2' ∧ PlO 0 w' B d (servesF size h l).2.2 ∧
      NearB w.heap.size A A2 ∧ NearB w.heap.size A' A2' ∧ (∀ g, B = some ⟨g, 0, none⟩ → w.heap.size ≤ g ∧ ¬ Foot p A2 A2' g) ∧ But (Foot p A A') w w' := by
  obtain ⟨c, c', h1, h2, h3, h4⟩ := k
  have hp := h1.lt
  refine (serves_any p size A c h A' c' l w h1 h2 h3 h4 hk).mono ?_
  rintro e w' ⟨A2, c2, A2', c2', B, d, he, r1, r2, r3, r4, n1, n2, n3, a1, a2, a3, hb⟩
  refine ⟨A2, A2', B, d, he, ⟨c2, c2', r1, r2, r3, a1⟩, r4, n1, n2, fun g eg => ?_, hb.mono fun j e => .inl ?_⟩
  · have hg : w.heap.size ≤ g := by
      rcases n3 g eg with h5 | h5
      · cases h5
      · exact h5
    refine ⟨hg, ?_⟩
    rintro (e | e | e)
    · omega
    · exact a2 g e eg
    · exact a3 g e eg
  · rcases e with e | e
    · exact .inl e
    · exact .inr (.inl e)
end Go.Proofs.Ytaikjobebbighaa
