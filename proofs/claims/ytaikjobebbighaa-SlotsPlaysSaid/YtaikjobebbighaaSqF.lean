/- Slots: both books in a law's worlds; a range over a book's names. -/
import Derived.Test.YtaikjobebbighaaSqE
import Derived.Test.YtaikjobebbighaaSqB
import Derived.Test.YtaikjobebbighaaSlHo
import Derived.Test.YtaikjobebbighaaSpZ
namespace Go.Proofs.Ytaikjobebbighaa
set_option linter.unusedVariables false
set_option maxRecDepth 100000
open Go.RowKit
theorem RfAt.lt_ {w : World} {p : Nat} {r : Rb} {z : Za} (h : RfZ w p r z) {j : Nat} (hj : Zm p z j) : j < w.heap.size := by
  rcases hj with rfl | e | e | e
  · exact h.row.lt
  · exact h.nms.lt_ e
  · exact h.szs.lt_ e
  · exact h.ens.lt_ e
theorem RfAt.but {F : Nat → Prop} {w w' : World} {p : Nat} {r : Rb} {z : Za} (h : RfZ w p r z) (hb : But F w w') (hn : ∀ j, Zm p z j → ¬ F j) : RfZ w' p r z :=
  ⟨h.row.but hb (hn p (.inl rfl)), h.nms.but hb (fun q e => hn q (.inr (.inl e))), h.szs.but hb (fun q e => hn q (.inr (.inr (.inl e)))), h.ens.but hb (fun q e => hn q (.inr (.inr (.inr e))))⟩
/-- Both books, all of them from N on, apart. -/
structure Plays (N : Nat) (w0 w : World) (g b : Nat) (st : Bk) (ys : List Wh) (p : Nat) (z : Za) (r : Rb) : Prop where
  a : At N w0 w g b st ys
  d : RfZ w p r z
  own : ∀ j, Zm p z j → N ≤ j
  far : ∀ j, Mine g b ys j → ¬ Zm p z j
section
variable {N : Nat} {w0 w w' : World} {g b : Nat} {st st' : Bk} {ys ys' : List Wh} {p : Nat} {z z' : Za} {r r' : Rb}
theorem Plays.turn (h : Plays N w0 w g b st ys p z r) (hn : N ≤ w0.heap.size) (t : Turn w w' g b ys st' ys') : Plays N w0 w' g b st' ys' p z r :=
  ⟨h.a.turn hn t, RfAt.but h.d t.but (fun j hj hm => h.far j hm hj), h.own, fun j hj hz => by
    rcases t.mine j hj with h1 | h1
    · exact h.far j h1 hz
    · have := RfAt.lt_ h.d hz; omega⟩
theorem Plays.rturn (h : Plays N w0 w g b st ys p z r) (hn : N ≤ w0.heap.size) (t : RTurn w w' p z r' z') : Plays N w0 w' g b st ys p z' r' :=
  ⟨h.a.but hn t.but h.far h.own, t.at_, fun j hj => by
    rcases t.mine j hj with h1 | h1
    · exact h.own j h1
    · have := h.a.low.size; omega, fun j hj hz => by
    rcases t.mine j hz with h1 | h1
    · exact h.far j hj h1
    · have := h.a.bk.mine_lt hj; omega⟩
theorem Plays.over (h : Plays N w0 w g b st ys p z r) (hn : N ≤ w0.heap.size) (hb : Below w.heap.size w w') : Plays N w0 w' g b st ys p z r := ⟨h.a.over hn hb, RfAt.over h.d hb, h.own, h.far⟩
theorem Plays.but {F : Nat → Prop} (h : Plays N w0 w g b st ys p z r) (hn : N ≤ w0.heap.size) (hb : But F w w') (h1 : ∀ j, Mine g b ys j → ¬ F j) (h2 : ∀ j, Zm p z j → ¬ F j) (h3 : ∀ j, F j → N ≤ j) : Plays N w0 w' g b st ys p z r :=
  ⟨h.a.but hn hb h1 h3, RfAt.but h.d hb h2, h.own, h.far⟩
/-- A row of the law's own beside both. -/
structure PSide (w : World) (g b : Nat) (ys : List Wh) (p : Nat) (z : Za) (x : Nat) (t : TypeId) (cs : Array Value) : Prop where
  row : Row w x t cs
  off : ¬ Mine g b ys x
  offZ : ¬ Zm p z x
variable {x : Nat} {t : TypeId} {cs : Array Value}
theorem PSide.turn (h : PSide w g b ys p z x t cs) (k : Turn w w' g b ys st' ys') : PSide w' g b ys' p z x t cs :=
  ⟨h.row.but k.but h.off, fun hm => by
    rcases k.mine x hm with h1 | h1
    · exact h.off h1
    · have := h.row.lt; omega, h.offZ⟩
theorem PSide.rturn (h : PSide w g b ys p z x t cs) (k : RTurn w w' p z r' z') : PSide w' g b ys p z' x t cs :=
  ⟨h.row.but k.but h.offZ, h.off, fun hm => by
    rcases k.mine x hm with h1 | h1
    · exact h.offZ h1
    · have := h.row.lt; omega⟩
theorem PSide.over (h : PSide w g b ys p z x t cs) (hb : Below w.heap.size w w') : PSide w' g b ys p z x t cs := ⟨h.row.over hb, h.off, h.offZ⟩
theorem Plays.side (h : Plays N w0 w g b st ys p z r) (hr : Row w' x t cs) (hx : w.heap.size ≤ x) : PSide w' g b ys p z x t cs :=
  ⟨hr, fun hm => by have := h.a.bk.mine_lt hm; omega, fun hm => by have := RfAt.lt_ h.d hm; omega⟩
theorem RkO.rturn {α : Type} {en : α → List Value} {k : Nat} {e : TypeId} {base : Nat} {B : Option Addr} {d : Nat} {l : List α} (ho : RkO en k e base w B d l) (k2 : RTurn w w' p z r' z') (hb : ∀ j, Zm p z j → j < base) : RkO en k e base w' B d l :=
  ho.but k2.but fun q e hz => by
    rcases ho.form with ⟨e2, -, -⟩ | ⟨q2, e2, h2, -, -⟩
    · rw [e2] at e; cases e
    · rw [e2] at e; injection e with e; injection e with e; have := hb q hz; omega
end
/-- A range over the names: the law in plain walks. -/
theorem range_names {g : Operand} {p : Tmp} {assign body : Code} {Q : Exit → Act → World → Prop} {a : Act} {w : World} {gf : Nat} {lb : Array Value} {X : Nat → Prop} {ns : List Key} {M : Nat} (q : Tmp) (hg : a.eval g = .func (.func gf) #[] lb) (eg : ∀ args w, (callFunc gf args).run Try.prog w = .ok (.enter gf args) w)
    (hseq : SeqStopsK Fence.wide 4 Try.prog gf lb (fun k : Key => #[nm k]) (CBut X) (fun xs => xs = ns) (fun pre => pre <+: ns) M w)
    (I : List Key → World → Prop) (Ix : Code → List Key → World → Prop) (hI : OwnFrom w.heap.size I) (hIx : ∀ c, OwnFrom w.heap.size (Ix c)) (h0 : I [] w)
    (hassign : ∀ (l : Nat) (x : Key) (W : World) (K : Act → World → Prop), K { tmps := (((#[p] : Array Tmp).zip (#[nm x] : Array Value)).foldl (fun t (p, v) => t.setIfInBounds p v) a.tmps).setIfInBounds q (nm x), defers := [] } W →
      assign.wpIn (Fence.wide.inRound l) (5 - 1 - 1) Try.prog (Exit.then K (fun _ _ _ => False)) { tmps := ((#[p] : Array Tmp).zip (#[nm x] : Array Value)).foldl (fun t (p, v) => t.setIfInBounds p v) a.tmps, defers := [] } W)
    (hbody : ∀ (l : Nat) (pre : List Key) (x : Key) (W : World), I pre W → pre.length < M → body.wpIn (Fence.wide.inRound l) (5 - 1 - 1) Try.prog (ownPostK (CBut X) I Ix (pre ++ [x]) W) { tmps := (((#[p] : Array Tmp).zip (#[nm x] : Array Value)).foldl (fun t (p, v) => t.setIfInBounds p v) a.tmps).setIfInBounds q (nm x), defers := [] } W)
    (hdone : ∀ (D : Nat) (W : World), w.heap.size ≤ D → I ns W → W.heap[D]? = some (.deferred (some [])) → Q .normal { a with defers := { target := .collected D, args := #[] } :: a.defers } W)
    (hstop : ∀ (D : Nat) (c : Code) (pre : List Key) (W : World), w.heap.size ≤ D → pre <+: ns → Ix c pre W → W.heap[D]? = some (.deferred (some [])) → c.wp Try.prog Q { a with defers := { target := .collected D, args := #[] } :: a.defers } W) :
    (Code.rangeFunc g #[p] assign body).wp Try.prog Q a w := by
  refine (wpIn_wide (n := 5)).1 ?_
  refine wpIn_rangeFunc_ownF (α := Key) rfl (by omega) hg trivial eg hseq CBut.trans (fun W l o o' h1 h2 h3 h4 => CBut.b W l o o' h1 h2 h3 h4) (Below.refl _ _) (fun _ => rfl) I Ix hI hIx h0
    (fun x => { tmps := (((#[p] : Array Tmp).zip (#[nm x] : Array Value)).foldl (fun t (p, v) => t.setIfInBounds p v) a.tmps).setIfInBounds q (nm x), defers := [] }) hassign hbody ?_ ?_
  · rintro D xs W hD rfl hi hK
    exact hdone D W hD hi hK
  · rintro D c pre W hD hs hi hK
    exact wpIn_wide.2 (hstop D c pre W hD hs hi hK)
end Go.Proofs.Ytaikjobebbighaa
