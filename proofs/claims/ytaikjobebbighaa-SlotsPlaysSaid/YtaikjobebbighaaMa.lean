/- Words on memory: a block that is known whole, through draws, new blocks, stores and calls that leave it alone. Words on slices of integers: a slice that reads as a list (nil and empty let in), through draws, new blocks, calls and cuts. Rows of elements of k cells (structs): as they lie, and of the call's own; append. Over whatever element. Rows of the call's own through stores in their midst; append, copy, clear as steps whose run is known. append onto a row of the call's own, as a run; where the new row lies. -/
import Derived.Below
import Derived.Laws.OwnMore
import Derived.Laws.Rows
import Derived.Deep.Draws
import Derived.WalkSmall
import Derived.Lib.Hide
import Derived.Deep.AppendLies
import Derived.OwnWalk
import Derived.Maps.AppendAt
import Derived.Laws.AppendOwn
import Derived.WalkKit
import Derived.Laws.AppendOwnNone
import Derived.Lib.SliceRun
import Derived.Laws.IdiomCopy
import Derived.Deep.RegionLaw
namespace Go.Proofs.Ytaikjobebbighaa
set_option linter.unusedVariables false
open Go.RowKit
/-- In w, block g is just the cells cs, of element type t, none of them frozen. -/
def Row (w : World) (g : Nat) (t : TypeId) (cs : Array Value) : Prop := w.heap[g]? = some (.cells cs t (0, 0))
section
variable {w w' : World} {g : Nat} {t : TypeId} {cs : Array Value}
theorem Row.lt (h : Row w g t cs) : g < w.heap.size := by
  unfold Row at h
  by_cases hl : g < w.heap.size
  · exact hl
  · rw [Array.getElem?_eq_none (by omega)] at h; cases h
theorem Row.cell (h : Row w g t cs) (i : Nat) : w.cell? ⟨g, i, none⟩ = cs[i]? := cell_of_row w g i cs t (0, 0) h
theorem Row.free (h : Row w g t cs) (i : Nat) : w.frozen? ⟨g, i, none⟩ = false := by unfold Row at h; simp [World.frozen?, h]
theorem Row.new (w : World) (t : TypeId) (cs : Array Value) : Row (w.alloc (.cells cs t)) w.heap.size t cs := heap_alloc_new w _
theorem Row.drew (h : Row w g t cs) : Row w.drew g t cs := h
theorem Row.drewN (h : Row w g t cs) (n : Nat) : Row (w.drewN n) g t cs := h
theorem Row.alloc (h : Row w g t cs) (o : Obj) : Row (w.alloc o) g t cs := (Below.heap_alloc w o g h.lt).trans h
theorem Row.put (h : Row w g t cs) (i : Nat) (u : Value) : Row (w.setCell ⟨g, i, none⟩ u) g t (cs.setIfInBounds i u) := by
  unfold Row at h ⊢
  simp [World.setCell, Array.getElem?_modify, h]
theorem Row.far (h : Row w g t cs) {p : Addr} (hp : g ≠ p.block) (u : Value) : Row (w.setCell p u) g t cs := (Below.heap_setCell w p u g hp).trans h
theorem Row.below {B : Nat} (h : Row w g t cs) (hb : Below B w w') (hg : g < B) : Row w' g t cs := (hb.block g hg).trans h
/-- Over a call that leaves all that was as it was. -/
theorem Row.over (h : Row w g t cs) (hb : Below w.heap.size w w') : Row w' g t cs := h.below hb h.lt
theorem Row.eq {ds : Array Value} (h : Row w g t cs) (e : cs = ds) : Row w g t ds := e ▸ h
theorem Row.ne {g' : Nat} {t' : TypeId} {cs' : Array Value} (h : Row w g t cs) (h' : Row w g' t' cs') (hne : t ≠ t') : g ≠ g' := by
  rintro rfl
  unfold Row at h h'
  rw [h] at h'
  injection h' with h'
  injection h' with _ ht
  exact hne ht
/-- Calls, one behind the other: all that was when the first began is as it was. -/
theorem nextC {a b c : World} (h : Below a.heap.size a b) (k : Below b.heap.size b c) : Below a.heap.size a c := h.trans (k.mono h.size)
theorem nextA {a b c : World} {o : Obj} (h : Below a.heap.size a b) (k : Below (b.alloc o).heap.size (b.alloc o) c) : Below a.heap.size a c := nextC (h.alloc h.size o) k
theorem nextB {a b : World} {o : Obj} (h : Below a.heap.size a b) : Below a.heap.size a (b.alloc o) := h.alloc h.size o
theorem newC {w w' : World} {X : Array Value} {T : TypeId} (hb : Below (w.alloc (.cells X T)).heap.size (w.alloc (.cells X T)) w') : Row w' w.heap.size T X := (Row.new w T X).over hb
end
end Go.Proofs.Ytaikjobebbighaa
namespace Go.Proofs.Ytaikjobebbighaa
set_option linter.unusedVariables false
open Go.RowKit
theorem add_block (a : Addr) (n : Nat) : (a.add n).block = a.block := by unfold Addr.add; split <;> rfl
theorem add_add (a : Addr) (i j : Nat) : (a.add i).add j = a.add (i + j) := by
  unfold Addr.add
  by_cases hi : i = 0 <;> by_cases hj : j = 0 <;> simp [hi, hj, Nat.add_assoc]
/-- The slice at A, as far as xs goes, holds the integers xs. -/
def Sl (w : World) (k : IntKind) (A : Option Addr) (xs : List Int) : Prop :=
  ∀ (j : Nat) (hj : j < xs.length), ∃ ad, A = some ad ∧ ad.block < w.heap.size ∧ w.cell? (ad.add j) = some (.int k xs[j])
section
variable {w w' : World} {k : IntKind} {A : Option Addr} {xs : List Int}
theorem Sl.nil (w : World) (k : IntKind) (A : Option Addr) : Sl w k A [] := fun j hj => absurd hj (by simp)
theorem Sl.at_ {ad : Addr} (h : Sl w k (some ad) xs) {j : Nat} (hj : j < xs.length) : w.cell? (ad.add j) = some (.int k xs[j]) := by
  obtain ⟨ad', e, _, hc⟩ := h j hj
  injection e with e
  subst e
  exact hc
theorem Sl.keep (h : Sl w k A xs) (hz : w.heap.size ≤ w'.heap.size) (hk : ∀ p : Addr, p.block < w.heap.size → w'.cell? p = w.cell? p) : Sl w' k A xs := fun j hj => by
  obtain ⟨ad, e, hb, hc⟩ := h j hj
  exact ⟨ad, e, Nat.lt_of_lt_of_le hb hz, (hk _ (by rw [add_block]; exact hb)).trans hc⟩
theorem Sl.over (h : Sl w k A xs) (hb : Below w.heap.size w w') : Sl w' k A xs := h.keep hb.size fun _ hp => hb.cell hp
theorem Sl.drew (h : Sl w k A xs) : Sl w.drew k A xs := h
theorem Sl.drewN (h : Sl w k A xs) (n : Nat) : Sl (w.drewN n) k A xs := h
theorem Sl.alloc (h : Sl w k A xs) (o : Obj) : Sl (w.alloc o) k A xs := h.keep (by simp) fun p hp => World.cell?_alloc_lt w o p hp
theorem Sl.cut (h : Sl w k A xs) {n cap : Nat} (hc : xs.length ≤ cap) : Sl w k (if cap = n then A else A.map (·.add n)) (xs.drop n) := fun j hj => by
  rw [List.length_drop] at hj
  obtain ⟨ad, rfl, hb, hcell⟩ := h (n + j) (by omega)
  rw [if_neg (by omega)]
  refine ⟨ad.add n, rfl, by rw [add_block]; exact hb, ?_⟩
  rw [add_add, hcell, List.getElem_drop]
theorem Sl.take (h : Sl w k A xs) (n : Nat) : Sl w k A (xs.take n) := fun j hj => by
  rw [List.length_take] at hj
  obtain ⟨ad, e, hb, hcell⟩ := h j (by omega)
  exact ⟨ad, e, hb, by rw [hcell, List.getElem_take]⟩
theorem Sl.of_own {base : Nat} {e : TypeId} {n c : Nat} (h : w.ownsRow base e 1 (.slice A n c) n (xs.map (Value.int k))) : Sl w k A xs := fun j hj => by
  have hn : n = xs.length := by have := h.1; simp at this; omega
  obtain ⟨g, cap, hv, _, hlt⟩ := h.form (by omega)
  have hA : A = some ⟨g, 0, none⟩ := by injection hv
  subst hA
  refine ⟨_, rfl, hlt, ?_⟩
  exact h.cells (g := g) rfl j _ (by simp [hj])
/-- What a row of the call's own is. -/
theorem own_form {base : Nat} {e : TypeId} {v : Value} {n : Nat} {ys : List Value} (h : w.ownsRow base e 1 v n ys) : ∃ B d, v = .slice B n d ∧ n ≤ d ∧ d ≤ maxLen := by
  rcases h.2 with ⟨rfl, rfl⟩ | ⟨g, cap, cur, rfl, _, _, h1, h2, _⟩
  · exact ⟨none, 0, rfl, Nat.le_refl _, Nat.zero_le _⟩
  · exact ⟨_, _, rfl, h1, h2⟩
theorem Sl.of_own' {base : Nat} {e : TypeId} {B : Option Addr} {d : Nat} (h : w.ownsRow base e 1 (.slice B xs.length d) xs.length (xs.map (Value.int k))) : Sl w k B xs := Sl.of_own h
/-- A slice that holds something has an address. -/
theorem Sl.some_ (h : Sl w k A xs) (hx : xs ≠ []) : ∃ ad, A = some ad := by
  obtain ⟨ad, e, _⟩ := h 0 (List.length_pos_iff.2 hx)
  exact ⟨ad, e⟩
theorem Sl.cells {ad : Addr} (h : Sl w k (some ad) xs) : ∀ j u, (xs.map (Value.int k))[j]? = some u → w.cell? (ad.add j) = some u := fun j u hu => by
  have hj : j < xs.length := by
    have := (List.getElem?_eq_some_iff.1 hu).1
    simpa using this
  rw [h.at_ hj, ← hu]
  simp [List.getElem?_eq_getElem hj]
end
end Go.Proofs.Ytaikjobebbighaa
namespace Go.Proofs.Ytaikjobebbighaa
set_option linter.unusedVariables false
open Go.RowKit
section
variable {α : Type} {en : α → List Value} {k : Nat}
/-- The cells of a row. -/
def rkCs (en : α → List Value) (ts : List α) : List Value := ts.flatMap en
theorem rkCs_len (hk : ∀ x, (en x).length = k) (ts : List α) : (rkCs en ts).length = ts.length * k := by
  induction ts with
  | nil => simp [rkCs]
  | cons t ts ih => unfold rkCs at *; rw [List.flatMap_cons, List.length_append, ih, List.length_cons, hk, Nat.add_mul]; omega
theorem rkCs_get (hk : ∀ x, (en x).length = k) : ∀ (ts : List α) (j : Nat) (hj : j < ts.length) (i : Nat), i < k → (rkCs en ts)[j * k + i]? = (en ts[j])[i]?
  | [], j, hj, _, _ => absurd hj (by simp)
  | t :: ts, 0, hj, i, hi => by
    show (en t ++ rkCs en ts)[0 * k + i]? = _
    rw [Nat.zero_mul, Nat.zero_add, List.getElem?_append_left (by rw [hk]; exact hi)]
    rfl
  | t :: ts, j + 1, hj, i, hi => by
    have ih := rkCs_get hk ts j (by simpa using hj) i hi
    show (en t ++ rkCs en ts)[(j + 1) * k + i]? = _
    rw [List.getElem?_append_right (by rw [hk, Nat.add_mul]; omega), show (j + 1) * k + i - (en t).length = j * k + i by rw [hk, Nat.add_mul]; omega, ih]
    rfl
theorem rkCs_append (a b : List α) : rkCs en (a ++ b) = rkCs en a ++ rkCs en b := by unfold rkCs; rw [List.flatMap_append]
theorem rkCs_one (h1 : ∀ x, ∀ v ∈ en x, v.oneCell' = true) (ts : List α) : ∀ u ∈ rkCs en ts, u.oneCell' = true := fun u hu => by
  obtain ⟨t, _, h⟩ := List.mem_flatMap.1 hu
  exact h1 t u h
/-- A row as it lies. -/
def RkS (en : α → List Value) (k : Nat) (w : World) (A : Option Addr) (ts : List α) : Prop :=
  ∀ j (hj : j < ts.length), ∃ ad, A = some ad ∧ ad.block < w.heap.size ∧ ∀ i v, (en ts[j])[i]? = some v → w.cell? (ad.add (j * k + i)) = some v
theorem RkS.nil (w : World) (A : Option Addr) : RkS en k w A [] := fun j hj => absurd hj (by simp)
theorem RkS.keep {w w' : World} {A : Option Addr} {ts : List α} (h : RkS en k w A ts) (hz : w.heap.size ≤ w'.heap.size) (hk : ∀ ad, A = some ad → ad.block < w.heap.size → ∀ p : Addr, p.block = ad.block → w'.cell? p = w.cell? p) : RkS en k w' A ts := fun j hj => by
  obtain ⟨ad, e, hb, h1⟩ := h j hj
  have hc := hk ad e hb
  exact ⟨ad, e, by omega, fun i v hv => (hc _ (add_block _ _)).trans (h1 i v hv)⟩
theorem RkS.over {w w' : World} {A : Option Addr} {ts : List α} (h : RkS en k w A ts) (hb : Below w.heap.size w w') : RkS en k w' A ts := h.keep hb.size fun ad _ hl p hp => hb.cell (by rw [hp]; exact hl)
theorem RkS.low {w w' : World} {A : Option Addr} {ts : List α} {base : Nat} (h : RkS en k w A ts) (hA : ∀ ad, A = some ad → ad.block < base) (hb : Below base w w') : RkS en k w' A ts := h.keep hb.size fun ad e _ p hp => hb.cell (by rw [hp]; exact hA ad e)
theorem RkS.drew {w : World} {A : Option Addr} {ts : List α} (h : RkS en k w A ts) : RkS en k w.drew A ts := h
theorem RkS.drewN {w : World} {A : Option Addr} {ts : List α} (h : RkS en k w A ts) (n : Nat) : RkS en k (w.drewN n) A ts := h
theorem RkS.alloc {w : World} {A : Option Addr} {ts : List α} (h : RkS en k w A ts) (o : Obj) : RkS en k (w.alloc o) A ts := h.over ((Below.refl _ _).alloc (Nat.le_refl _) o)
theorem RkS.some_ {w : World} {A : Option Addr} {ts : List α} (h : RkS en k w A ts) (hx : ts ≠ []) : ∃ ad, A = some ad := by
  obtain ⟨ad, e, _⟩ := h 0 (List.length_pos_iff.2 hx)
  exact ⟨ad, e⟩
theorem RkS.lt_ {w : World} {A : Option Addr} {ts : List α} (h : RkS en k w A ts) (hx : ts ≠ []) : ∃ ad, A = some ad ∧ ad.block < w.heap.size := by
  obtain ⟨ad, e, hb, _⟩ := h 0 (List.length_pos_iff.2 hx)
  exact ⟨ad, e, hb⟩
theorem RkS.take {w : World} {A : Option Addr} {ts : List α} (h : RkS en k w A ts) (n : Nat) : RkS en k w A (ts.take n) := fun j hj => by
  rw [List.length_take] at hj
  obtain ⟨ad, e, hb, h1⟩ := h j (by omega)
  exact ⟨ad, e, hb, fun i v hv => h1 i v (by rw [List.getElem_take] at hv; exact hv)⟩
theorem RkS.cut {w : World} {A : Option Addr} {ts : List α} (h : RkS en k w A ts) {n cap : Nat} (hc : ts.length ≤ cap) : RkS en k w (if cap = n then A else A.map (·.add (n * k))) (ts.drop n) := fun j hj => by
  rw [List.length_drop] at hj
  obtain ⟨ad, rfl, hb, h1⟩ := h (n + j) (by omega)
  rw [if_neg (by omega)]
  refine ⟨ad.add (n * k), rfl, by rw [add_block]; exact hb, fun i v hv => ?_⟩
  rw [List.getElem_drop] at hv
  rw [add_add, show n * k + (j * k + i) = (n + j) * k + i by rw [Nat.add_mul]; omega]
  exact h1 i v hv
/-- All its cells. -/
theorem RkS.cells {w : World} {ad : Addr} {ts : List α} (hk : ∀ x, (en x).length = k) (h : RkS en k w (some ad) ts) : ∀ j u, (rkCs en ts)[j]? = some u → w.cell? (ad.add j) = some u := fun j u hu => by
  have hj : j < ts.length * k := by
    have := (List.getElem?_eq_some_iff.1 hu).1
    rwa [rkCs_len hk] at this
  have hk0 : 0 < k := Nat.pos_of_ne_zero fun e => by subst e; simp at hj
  have hd := Nat.div_add_mod j k
  have hm := Nat.mod_lt j hk0
  have hq : j / k < ts.length := (Nat.div_lt_iff_lt_mul hk0).2 hj
  have e : j = j / k * k + j % k := by rw [Nat.mul_comm]; exact hd.symm
  rw [e, rkCs_get hk ts _ hq _ hm] at hu
  obtain ⟨ad', ea, _, h1⟩ := h _ hq
  injection ea with ea
  subst ea
  rw [e]
  exact h1 _ _ hu
/-- The two cells of an element, as the walk spells them. -/
theorem RkS.cells2 {w : World} {ad : Addr} {ts : List α} {en : α → List Value} (h : RkS en 2 w (some ad) ts) (j : Nat) (hj : j < ts.length) {u v : Value} (he : en ts[j] = [u, v]) : ad.block < w.heap.size ∧ w.cell? (ad.add (j * 2)) = some u ∧ w.cell? ⟨(ad.add (j * 2)).block, (ad.add (j * 2)).off + 1, none⟩ = some v := by
  obtain ⟨ad', e, hb, h1⟩ := h j hj
  injection e with e
  subst e
  refine ⟨hb, h1 0 u (by rw [he]; rfl), ?_⟩
  have h2 := h1 1 v (by rw [he]; rfl)
  rw [← add_add] at h2
  exact h2
theorem RkS.of_row {w : World} {g : Nat} {t : TypeId} {ts : List α} (hk : ∀ x, (en x).length = k) (h : Row w g t (rkCs en ts).toArray) : RkS en k w (some ⟨g, 0, none⟩) ts := fun j hj => by
  refine ⟨_, rfl, h.lt, fun i v hv => ?_⟩
  have hi : i < k := by rw [← hk ts[j]]; exact (List.getElem?_eq_some_iff.1 hv).1
  rw [show (⟨g, 0, none⟩ : Addr).add (j * k + i) = ⟨g, j * k + i, none⟩ by unfold Addr.add; split <;> simp_all, h.cell]
  rw [List.getElem?_toArray, rkCs_get hk ts j hj i hi]
  exact hv
/-- A row of the call's own. -/
def RkO (en : α → List Value) (k : Nat) (e : TypeId) (base : Nat) (w : World) (B : Option Addr) (d : Nat) (ts : List α) : Prop := w.ownsRow base e k (.slice B ts.length d) ts.length (rkCs en ts)
variable {e : TypeId} {base : Nat} {w w' : World} {B : Option Addr} {d : Nat} {ts : List α}
theorem RkO.nil (base : Nat) (w : World) : RkO en k e base w none 0 ([] : List α) := World.ownsRow_nil _ _ _ _
theorem RkO.rks (hk : ∀ x, (en x).length = k) (h : RkO en k e base w B d ts) : RkS en k w B ts := fun j hj => by
  rcases h.2 with ⟨ev, e0⟩ | ⟨g, cap, cur, ev, hb, hg, hrest⟩
  · omega
  · injection ev with e1 e2 e3
    subst e1
    refine ⟨_, rfl, (Array.getElem?_eq_some_iff.1 hg).1, fun i v hv => ?_⟩
    have hi : i < k := by rw [← hk ts[j]]; exact (List.getElem?_eq_some_iff.1 hv).1
    have hlt : j * k + i < ts.length * k := by
      have : (j + 1) * k ≤ ts.length * k := Nat.mul_le_mul_right k hj
      rw [Nat.add_mul] at this; omega
    rw [show (⟨g, 0, none⟩ : Addr).add (j * k + i) = ⟨g, j * k + i, none⟩ by unfold Addr.add; split <;> simp_all]
    rw [World.ownsRow.cellAt h (j * k + i) hlt, rkCs_get hk ts j hj i hi]
    exact hv
theorem RkO.base_ (h : RkO en k e base w B d ts) {n : Nat} {g : Nat} (hg : Value.ownBlock (.slice B n d) = some g) : base ≤ g := by
  rcases h.2 with ⟨ev, _⟩ | ⟨g', cap, cur, ev, hb, _⟩
  · injection ev with e1 e2 e3; subst e1; simp [Value.ownBlock] at hg
  · injection ev with e1 e2 e3; subst e1; simp [Value.ownBlock] at hg; omega
theorem RkO.form (h : RkO en k e base w B d ts) : (B = none ∧ d = 0 ∧ ts = []) ∨ ∃ g, B = some ⟨g, 0, none⟩ ∧ base ≤ g ∧ g < w.heap.size ∧ ts.length ≤ d := by
  rcases h.2 with ⟨ev, e0⟩ | ⟨g', cap, cur, ev, hb, hg, h1, _⟩
  · injection ev with e1 e2 e3
    exact .inl ⟨e1, e3, List.length_eq_zero_iff.1 e0⟩
  · injection ev with e1 e2 e3
    exact .inr ⟨g', e1, hb, (Array.getElem?_eq_some_iff.1 hg).1, by omega⟩
theorem RkO.alloc (h : RkO en k e base w B d ts) (o : Obj) : RkO en k e base (w.alloc o) B d ts := World.ownsRow.alloc h o
theorem RkO.drewN (h : RkO en k e base w B d ts) (n : Nat) : RkO en k e base (w.drewN n) B d ts := h
theorem RkO.keep (h : RkO en k e base w B d ts) (hk : ∀ g, B = some ⟨g, 0, none⟩ → ∀ cs, w.heap[g]? = some (.cells cs e (0, 0)) → w'.heap[g]? = w.heap[g]?) : RkO en k e base w' B d ts := by
  rcases h.2 with ⟨ev, e2⟩ | ⟨g', cap, cur, ev, h1, h2, h3⟩
  · exact ⟨h.1, .inl ⟨ev, e2⟩⟩
  · injection ev with e1 e2 e3
    exact ⟨h.1, .inr ⟨g', cap, cur, by rw [e1, e3], h1, (hk g' e1 cur h2).trans h2, h3⟩⟩
theorem RkO.over (h : RkO en k e base w B d ts) (hb : Below w.heap.size w w') : RkO en k e base w' B d ts := h.keep fun g _ cs hg => hb.block g (Array.getElem?_eq_some_iff.1 hg).1
theorem RkO.low {base' : Nat} (h : RkO en k e base w B d ts) (hb : base' ≤ base) : RkO en k e base' w B d ts := by
  rcases h.2 with ⟨ev, e2⟩ | ⟨g', cap, cur, ev, h1, h2, h3⟩
  · exact ⟨h.1, .inl ⟨ev, e2⟩⟩
  · exact ⟨h.1, .inr ⟨g', cap, cur, ev, by omega, h2, h3⟩⟩
/-- append(row, src...): src reads as ys, nil let in. -/
theorem appSK {P : Program} {ops : Array Oper} {rest : List Oper} {o : Oper} {a : Act} {Q : Exit → Act → World → Prop} {st : TypeId} {z : Value} {bytes : Nat} (hgd : o.guard = none) (s x : Operand)
    (ho : o.op = .call { callee := .builtin .append, args := #[s, x], argTypes := #[st, st] }) (ht : P.underlying st = some (.slice e)) (hinfo : (P.info? e).map (fun i => (i.zero, i.size, i.bytes)) = some (some z, k, bytes)) (hz : z.cells.size = k) (hk0 : 0 < k) (hby : bytes ≤ 1000)
    (hk : ∀ x, (en x).length = k) (h1 : ∀ x, ∀ v ∈ en x, v.oneCell' = true) (n : Nat) (hn : n = ts.length) (hs : a.eval s = .slice B n d) (hown : RkO en k e base w B d ts)
    (A : Option Addr) (c : Nat) (ys : List α) (hx : a.eval x = .slice A ys.length c) (hsl : RkS en k w A ys) (hA : A = none → c = 0) (hbase : base ≤ w.heap.size) (hlen : ts.length + ys.length ≤ 100000000)
    (h : ∀ B' d' w', RkO en k e base w' B' d' (ts ++ ys) → w.grownBy w' (Value.ownBlock (.slice B ts.length d)) → Below base w w' → wpList P ops Q rest (a.put o.dst (.slice B' (n + ys.length) d')) w') :
    wpList P ops Q (o :: rest) a w := by
  obtain ⟨i0, hi, hz0, hz1, hz2⟩ := info_parts hinfo
  subst hn
  cases A with
  | none =>
    have ey : ys = [] := by
      rcases ys with _ | ⟨y, ys⟩
      · rfl
      · obtain ⟨ad, e', _⟩ := hsl 0 (by simp)
        cases e'
    subst ey
    obtain rfl := hA rfl
    refine wpList_append_own_none hgd s x _ ho base e i0 k ht hi _ ts.length _ hs hown (by simpa using hx) ?_
    have := h B d w (by simpa using hown) (World.grownBy.refl w _) (Below.refl _ _)
    simpa using this
  | some ad =>
    refine wpList_append_own w hgd s x _ ho base e i0 z k bytes ht hi hz0 hz1 hz2 hz hk0 _ _ _ hs hown ad ys.length c (rkCs en ys) hx (rkCs_len hk ys) (fun j u hu => hsl.cells hk j u hu)
      (rkCs_one h1 ys) (by unfold maxLen; omega) (by
        have : (ts.length + ys.length) * bytes ≤ 100000000 * 1000 := Nat.mul_le_mul hlen hby
        omega) hbase ?_
    intro v' w' hown' hgrow _
    obtain ⟨B', d', rfl, -, -⟩ : ∃ B d, v' = .slice B (ts.length + ys.length) d ∧ ts.length + ys.length ≤ d ∧ d ≤ maxLen := by
      rcases hown'.2 with ⟨ev, h0⟩ | ⟨g, cap, cur, rfl, _, _, h1, h2, _⟩
      · exact ⟨none, 0, by rw [ev, h0], by omega, by unfold maxLen; omega⟩
      · exact ⟨_, _, rfl, h1, h2⟩
    have ho2 : RkO en k e base w' B' d' (ts ++ ys) := by
      unfold RkO
      rw [List.length_append, rkCs_append]
      exact hown'
    exact h B' d' w' ho2 hgrow ((Below.refl base w).grown hgrow hbase (fun g hg => RkO.base_ hown hg))
/-- append(row, one). -/
theorem app1K {P : Program} {ops : Array Oper} {rest : List Oper} {o : Oper} {a : Act} {Q : Exit → Act → World → Prop} {st : TypeId} {z : Value} {bytes : Nat} (hgd : o.guard = none) (s x : Operand)
    (ho : o.op = .call { callee := .builtin .append, args := #[s, x], argTypes := #[st, st] }) (ht : P.underlying st = some (.slice e)) (hinfo : (P.info? e).map (fun i => (i.zero, i.size, i.bytes)) = some (some z, k, bytes)) (hz : z.cells.size = k) (hk0 : 0 < k) (hby : bytes ≤ 1000)
    (hk : ∀ x, (en x).length = k) (h1 : ∀ x, ∀ v ∈ en x, v.oneCell' = true) (n : Nat) (hn : n = ts.length) (hs : a.eval s = .slice B n d) (hown : RkO en k e base w B d ts) (y : α) (cs : Array Value) (hcs : cs = (en y).toArray)
    (hx : a.eval x = .slice (some ⟨w.heap.size, 0, none⟩) 1 1) (hbase : base ≤ w.heap.size) (hlen : ts.length ≤ 10000000)
    (h : ∀ B' d' w', RkO en k e base w' B' d' (ts ++ [y]) → (w.alloc (.cells cs e)).grownBy w' (Value.ownBlock (.slice B ts.length d)) → Below base w w' → wpList P ops Q rest (a.put o.dst (.slice B' (n + 1) d')) w') :
    wpList P ops Q (o :: rest) a (w.alloc (.cells cs e)) := by
  subst hcs
  refine appSK (w := w.alloc (.cells (en y).toArray e)) (e := e) hgd s x ho ht hinfo hz hk0 hby hk h1 n hn hs (hown.alloc _) (some ⟨w.heap.size, 0, none⟩) 1 [y] hx
    (RkS.of_row (t := e) hk (by simpa [rkCs] using Row.new w e (en y).toArray)) (by simp) (by simp; omega) (by simp; omega) fun B' d' w' h1 h2 h3 => h B' d' w' h1 h2 (((Below.refl base w).alloc hbase _).trans h3)
end
end Go.Proofs.Ytaikjobebbighaa
namespace Go.Proofs.Ytaikjobebbighaa
set_option linter.unusedVariables false
open Go.RowKit
/-- Cells, some of them laid anew. -/
def layC (cs : Array Value) : Nat → List Value → Array Value
  | _, [] => cs
  | o, v :: r => layC (cs.setIfInBounds o v) (o + 1) r
theorem layC_size : ∀ (vs : List Value) (o : Nat) (cs : Array Value), (layC cs o vs).size = cs.size
  | [], _, _ => rfl
  | v :: r, o, cs => by unfold layC; rw [layC_size r]; simp
theorem layC_get : ∀ (vs : List Value) (o : Nat) (cs : Array Value) (i : Nat), o + vs.length ≤ cs.size → (layC cs o vs)[i]? = if o ≤ i ∧ i < o + vs.length then vs[i - o]? else cs[i]?
  | [], o, cs, i, _ => by
    unfold layC
    rw [if_neg (by simp)]
  | v :: r, o, cs, i, h => by
    unfold layC
    rw [layC_get r (o + 1) _ i (by simp at h ⊢; omega)]
    simp only [List.length_cons] at h
    by_cases h1 : o + 1 ≤ i ∧ i < o + 1 + r.length
    · rw [if_pos h1, if_pos (by simp; omega), show i - o = (i - (o + 1)) + 1 by omega, List.getElem?_cons_succ]
    · rw [if_neg h1]
      by_cases h2 : i = o
      · subst h2
        rw [if_pos (by simp)]
        simp [show i < cs.size by omega]
      · rw [if_neg (by simp; omega), Array.getElem?_setIfInBounds_ne (by omega)]
theorem Row.puts {g : Nat} {t : TypeId} : ∀ (vs : List Value) (o : Nat) {w : World} {cs : Array Value}, Row w g t cs → Row (w.setCells g o vs) g t (layC cs o vs)
  | [], _, _, _, h => h
  | v :: r, o, w, cs, h => Row.puts r (o + 1) (h.put o v)
theorem grown_setCells (g : Nat) : ∀ (vs : List Value) (o : Nat) (w : World), w.grownBy (w.setCells g o vs) (some g)
  | [], _, w => World.grownBy.refl w _
  | v :: r, o, w => by
    have ih := grown_setCells g r (o + 1) (w.setCell ⟨g, o, none⟩ v)
    exact ⟨ih.os, ih.tape, ih.output, by have := ih.size; rw [World.size_setCell] at this; exact this, fun k hk hne => (ih.block k (by simpa using hk) hne).trans (Below.heap_setCell w ⟨g, o, none⟩ v k (fun e => hne (by rw [e])))⟩
section
variable {α : Type} {en : α → List Value} {k : Nat} {e : TypeId} {base : Nat} {w w' : World} {g d : Nat} {ts : List α}
/-- A row of the call's own, taken apart. -/
theorem RkO.open_ (h : RkO en k e base w (some ⟨g, 0, none⟩) d ts) : ∃ cur, Row w g e cur ∧ base ≤ g ∧ ts.length ≤ d ∧ d ≤ maxLen ∧ cur.size = d * k ∧ cur.toList.take (ts.length * k) = rkCs en ts := by
  rcases h.2 with ⟨ev, _⟩ | ⟨g', cap, cur, ev, h1, h2, h3, h4, h5, h6⟩
  · cases ev
  · injection ev with e1 e2 e3
    injection e1 with e1
    injection e1 with e1
    subst e1 e3
    exact ⟨cur, h2, h1, h3, h4, h5, h6⟩
theorem RkO.make (hk : ∀ x, (en x).length = k) {cur : Array Value} (hr : Row w g e cur) (hb : base ≤ g) (h1 : ts.length ≤ d) (h2 : d ≤ maxLen) (h3 : cur.size = d * k) (h4 : ∀ j, j < ts.length * k → cur[j]? = (rkCs en ts)[j]?) : RkO en k e base w (some ⟨g, 0, none⟩) d ts := by
  refine ⟨rkCs_len hk ts, .inr ⟨g, d, cur, rfl, hb, hr, h1, h2, h3, ?_⟩⟩
  have hle : ts.length * k ≤ d * k := Nat.mul_le_mul_right k h1
  apply List.ext_getElem?
  intro j
  rw [List.getElem?_take]
  split
  · rename_i hj
    rw [← h4 j hj]
    simp
  · rename_i hj
    rw [List.getElem?_eq_none (by rw [rkCs_len hk]; omega)]
theorem RkO.at_ (hk : ∀ x, (en x).length = k) {cur : Array Value} (h4 : cur.toList.take (ts.length * k) = rkCs en ts) {j : Nat} (hj : j < ts.length * k) : cur[j]? = (rkCs en ts)[j]? := by
  rw [← h4, List.getElem?_take_of_lt hj]
  simp
end
section
variable {P : Program}
theorem step_append_run {ops : Array Oper} {o : Oper} {a : Act} {w : World} {K : Act → World → Prop} {Q : Exit → Act → World → Prop} {E : Prop}
    (hg : o.guard = none) (d x : Operand) (dT sT : TypeId) (hop : o.op = Op.call { callee := Callee.builtin Builtin.append, args := #[d, x], argTypes := #[dT, sT] })
    (v u : Value) (hd : a.eval d = v) (hx : a.eval x = u) {v' : Value} {w' : World} (hr : (Builtin.append_ #[dT, sT] o.type #[v, u]).run P w = .ok v' w') (hK : K (a.put o.dst v') w') :
    if Region.wanted o (yielded ops a.tmps) = true then Oper.wp P o a w K Q else E := by
  have hw : Region.wanted o (yielded ops a.tmps) = true := by simp [Region.wanted, hg]
  rw [if_pos hw]
  unfold Oper.wp
  simp [execOp, hop, resolve, invoke, builtin, hd, hx, hr, Result.andThen]
  exact hK
theorem step_copy_run {ops : Array Oper} {o : Oper} {a : Act} {w : World} {K : Act → World → Prop} {Q : Exit → Act → World → Prop} {E : Prop}
    (hg : o.guard = none) (d x : Operand) (dT sT : TypeId) (hop : o.op = Op.call { callee := Callee.builtin Builtin.copy, args := #[d, x], argTypes := #[dT, sT] })
    (v u : Value) (hd : a.eval d = v) (hx : a.eval x = u) {v' : Value} {w' : World} (hr : (Builtin.copy_ #[dT, sT] o.type #[v, u]).run P w = .ok v' w') (hK : K (a.put o.dst v') w') :
    if Region.wanted o (yielded ops a.tmps) = true then Oper.wp P o a w K Q else E := by
  have hw : Region.wanted o (yielded ops a.tmps) = true := by simp [Region.wanted, hg]
  rw [if_pos hw]
  unfold Oper.wp
  simp [execOp, hop, resolve, invoke, builtin, hd, hx, hr, Result.andThen]
  exact hK
theorem wpList_copy_run (w : World) {ops : Array Oper} {rest : List Oper} {o : Oper} {a : Act} {Q : Exit → Act → World → Prop} (hgd : o.guard = none) (d s : Operand) (t t' : TypeId)
    (ho : o.op = .call { callee := .builtin .copy, args := #[d, s], argTypes := #[t, t'] }) (v u : Value) (hd : a.eval d = v) (hs : a.eval s = u) {v' : Value} {w' : World}
    (hr : (Builtin.copy_ #[t, t'] o.type #[v, u]).run P w = .ok v' w') (h : wpList P ops Q rest (a.put o.dst v') w') : wpList P ops Q (o :: rest) a w :=
  wpList_plain hgd fun K hK => by
    unfold Oper.wp execOp
    simp only [ho, resolve, invoke, builtin, Sem.run_bind, Sem.run_pure, Result.andThen_ok, List.map_toArray, List.map_cons, List.map_nil, hd, hs, hr]
    exact hK _ _ h
theorem wpList_clear_run (w : World) {ops : Array Oper} {rest : List Oper} {o : Oper} {a : Act} {Q : Exit → Act → World → Prop} (hgd : o.guard = none) (d : Operand) (t : TypeId)
    (ho : o.op = .call { callee := .builtin .clear, args := #[d], argTypes := #[t] }) (v : Value) (hd : a.eval d = v) {v' : Value} {w' : World}
    (hr : (Builtin.clear_ #[t] o.type #[v]).run P w = .ok v' w') (h : wpList P ops Q rest (a.put o.dst v') w') : wpList P ops Q (o :: rest) a w :=
  wpList_plain hgd fun K hK => by
    unfold Oper.wp execOp
    simp only [ho, resolve, invoke, builtin, Sem.run_bind, Sem.run_pure, Result.andThen_ok, List.map_toArray, List.map_cons, List.map_nil, hd, hr]
    exact hK _ _ h
/-- clear of one element of two cells. -/
theorem run_clear2 (w : World) (t e ty : TypeId) (a b : Value) (ht : P.underlying t = some (.slice e)) (hv : ∀ w, (zeroValue e).run P w = .ok (.agg #[a, b]) w) (h1 : a.oneCell' = true) (h2 : b.oneCell' = true) (g o c : Nat)
    (hc0 : (w.cell? ⟨g, o, none⟩).isSome = true) (hc1 : (w.cell? ⟨g, o + 1, none⟩).isSome = true) (hf0 : w.frozen? ⟨g, o, none⟩ = false) (hf1 : w.frozen? ⟨g, o + 1, none⟩ = false) :
    (Builtin.clear_ #[t] ty #[.slice (some ⟨g, o, none⟩) 1 c]).run P w = .ok (.tuple #[]) (w.setCells g o [a, b]) := by
  have hzc : (Builtin.zeroCells (Value.agg #[a, b]).cells 1).toList = [a, b] := by
    simp [Builtin.zeroCells, Value.cells, List.range_succ]
  have hst := run_storeCells_cells (P := P) g o [a, b] 0 w (by intro j hj; match j, hj with | 0, _ => simpa using hc0 | 1, _ => simpa using hc1) (by intro j hj; match j, hj with | 0, _ => simpa using hf0 | 1, _ => simpa using hf1) (by intro v hv'; simp at hv'; rcases hv' with rfl | rfl <;> assumption)
  simp only [Nat.add_zero] at hst
  simp [Builtin.clear_, run_underlying ht, hv, hzc, hst]
end
end Go.Proofs.Ytaikjobebbighaa
namespace Go.Proofs.Ytaikjobebbighaa
set_option linter.unusedVariables false
open Go.RowKit
/-- The old row, or one made from block n on (or none). -/
def NearB (n : Nat) (B B' : Option Addr) : Prop := ∀ g, B' = some ⟨g, 0, none⟩ → B = some ⟨g, 0, none⟩ ∨ n ≤ g
theorem NearB.same (n : Nat) (B : Option Addr) : NearB n B B := fun g e => .inl e
theorem NearB.new {n m : Nat} (B : Option Addr) (h : n ≤ m) : NearB n B (some ⟨m, 0, none⟩) := fun g e => by injection e with e; injection e with e; exact .inr (by omega)
theorem NearB.trans {n m : Nat} {A B C : Option Addr} (h : NearB n A B) (h2 : NearB m B C) (hm : n ≤ m) : NearB n A C := fun g e => by
  rcases h2 g e with h1 | h1
  · exact h g h1
  · exact .inr (by omega)
theorem NearB.low {n m : Nat} {B C : Option Addr} (h2 : NearB m B C) (hm : n ≤ m) : NearB n B C := (NearB.same n B).trans h2 hm
section
variable {α : Type} {en : α → List Value} {k : Nat} {e : TypeId} {base : Nat} {w w' : World} {B : Option Addr} {d : Nat} {ts : List α}
theorem run_appK {P : Program} {st ty : TypeId} {z : Value} {bytes : Nat} (ht : P.underlying st = some (.slice e)) (hinfo : (P.info? e).map (fun i => (i.zero, i.size, i.bytes)) = some (some z, k, bytes)) (hz : z.cells.size = k) (hk0 : 0 < k) (hby : bytes ≤ 1000)
    (hk : ∀ x, (en x).length = k) (h1 : ∀ x, ∀ v ∈ en x, v.oneCell' = true) (hown : RkO en k e base w B d ts) (ad : Addr) (c : Nat) (ys : List α) (hsl : RkS en k w (some ad) ys) (hbase : base ≤ w.heap.size) (hlen : ts.length + ys.length ≤ 100000000) :
    ∃ B' d' w', (Builtin.append_ #[st, st] ty #[.slice B ts.length d, .slice (some ad) ys.length c]).run P w = .ok (.slice B' (ts.length + ys.length) d') w' ∧ RkO en k e base w' B' d' (ts ++ ys) ∧ w.grownBy w' (Value.ownBlock (.slice B ts.length d)) ∧ NearB w.heap.size B B' := by
  obtain ⟨i0, hi, hz0, hz1, hz2⟩ := info_parts hinfo
  obtain ⟨v', w', hr, hown', hg, _, hat⟩ := run_append_own_at (P := P) w base st ty e i0 z k bytes ht hi hz0 hz1 hz2 hz hk0 _ _ _ hown ad ys.length c (rkCs en ys) (rkCs_len hk ys) (fun j u hu => hsl.cells hk j u hu)
    (rkCs_one h1 ys) (by unfold maxLen; omega) (by
      have : (ts.length + ys.length) * bytes ≤ 100000000 * 1000 := Nat.mul_le_mul hlen hby
      omega) hbase
  have ho2 : ∀ B' d', v' = .slice B' (ts.length + ys.length) d' → RkO en k e base w' B' d' (ts ++ ys) := fun B' d' ev => by
    subst ev
    unfold RkO
    rw [List.length_append, rkCs_append]
    exact hown'
  obtain ⟨B', d', ev⟩ : ∃ B d, v' = .slice B (ts.length + ys.length) d := by
    rcases hown'.2 with ⟨ev, h0⟩ | ⟨g, cap, cur, rfl, _⟩
    · exact ⟨none, 0, by rw [ev, h0]⟩
    · exact ⟨_, _, rfl⟩
  have ho3 := ho2 B' d' ev
  subst ev
  refine ⟨B', d', w', hr, ho3, hg, ?_⟩
  rcases hown.form with ⟨rfl, -, -⟩ | ⟨g, rfl, -, -, -⟩ <;> rcases ho3.form with ⟨rfl, -, -⟩ | ⟨g', rfl, -, -, -⟩ <;> simp [Value.ownBlock] at hat
  · exact NearB.same _ _
  · exact NearB.new _ (by omega)
  · rcases hat with rfl | rfl
    · exact NearB.same _ _
    · exact NearB.new _ (Nat.le_refl _)
/-- A row beside blocks that change. -/
theorem RkO.kept (h : RkO en k e base w B d ts) {row : Option Nat} (hg : w.grownBy w' row) (hne : ∀ g, B = some ⟨g, 0, none⟩ → some g ≠ row) : RkO en k e base w' B d ts := h.keep fun g eg cs hc => hg.block g (Array.getElem?_eq_some_iff.1 hc).1 (hne g eg)
theorem ownBlock_some (g n d : Nat) : Value.ownBlock (.slice (some ⟨g, 0, none⟩) n d) = some g := rfl
theorem RkO.near {n : Nat} {B' : Option Addr} (h : NearB n B B') {g' : Nat} (hB : B' = some ⟨g', 0, none⟩) : B = some ⟨g', 0, none⟩ ∨ n ≤ g' := h g' hB
/-- A row of the call's own made from a block on is near whatever. -/
theorem RkO.fresh (h : RkO en k e base w B d ts) (A : Option Addr) : NearB base A B := fun g eg => .inr (h.base_ (n := 0) (by rw [eg]; rfl))
end
/-- All blocks but those of F are as they were. -/
structure But (F : Nat → Prop) (w w' : World) : Prop where
  os : w'.os = w.os
  tape : w'.tape = w.tape
  output : w'.output = w.output
  size : w.heap.size ≤ w'.heap.size
  block : ∀ k, k < w.heap.size → ¬ F k → w'.heap[k]? = w.heap[k]?
section
variable {F : Nat → Prop} {a b c : World}
theorem But.refl (F : Nat → Prop) (w : World) : But F w w := ⟨rfl, rfl, rfl, Nat.le_refl _, fun _ _ _ => rfl⟩
theorem But.trans (h : But F a b) (k : But F b c) : But F a c := ⟨k.os.trans h.os, k.tape.trans h.tape, k.output.trans h.output, Nat.le_trans h.size k.size, fun j hj hn => (k.block j (Nat.lt_of_lt_of_le hj h.size) hn).trans (h.block j hj hn)⟩
/-- What touches those of G alone, of which what was there when it began is in F. -/
theorem But.next {G : Nat → Prop} (h : But F a b) (k : But G b c) (hG : ∀ j, G j → F j ∨ a.heap.size ≤ j) : But F a c := ⟨k.os.trans h.os, k.tape.trans h.tape, k.output.trans h.output, Nat.le_trans h.size k.size, fun j hj hn => (k.block j (Nat.lt_of_lt_of_le hj h.size) (fun hg => by rcases hG j hg with h1 | h1; exact hn h1; omega)).trans (h.block j hj hn)⟩
theorem But.mono {G : Nat → Prop} (k : But G a c) (hG : ∀ j, G j → F j ∨ a.heap.size ≤ j) : But F a c := (But.refl F a).next k hG
theorem But.of_below {B : Nat} (h : Below B a b) (hB : a.heap.size ≤ B) : But F a b := ⟨h.os, h.tape, h.output, h.size, fun j hj _ => h.block j (by omega)⟩
theorem But.of_grown {row : Option Nat} (h : a.grownBy b row) (hr : ∀ g, row = some g → F g) : But F a b := ⟨h.os, h.tape, h.output, h.size, fun j hj hn => h.block j hj (fun e => hn (hr j e.symm))⟩
theorem But.drew (h : But F a b) : But F a b.drew := ⟨h.os, h.tape, h.output, h.size, h.block⟩
theorem But.alloc (h : But F a b) (o : Obj) : But F a (b.alloc o) := ⟨h.os, h.tape, h.output, by have := h.size; simp; omega, fun j hj hn => (Below.heap_alloc b o j (Nat.lt_of_lt_of_le hj h.size)).trans (h.block j hj hn)⟩
theorem But.put (h : But F a b) {p : Addr} (hp : F p.block ∨ a.heap.size ≤ p.block) (v : Value) : But F a (b.setCell p v) := ⟨h.os, h.tape, h.output, by rw [World.size_setCell]; exact h.size, fun j hj hn => (Below.heap_setCell b p v j (by rintro rfl; rcases hp with h1 | h1; exact hn h1; omega)).trans (h.block j hj hn)⟩
theorem Row.but {g : Nat} {t : TypeId} {cs : Array Value} (h : Row a g t cs) (k : But F a b) (hn : ¬ F g) : Row b g t cs := (k.block g h.lt hn).trans h
theorem RkO.but {α : Type} {en : α → List Value} {k : Nat} {e : TypeId} {base : Nat} {B : Option Addr} {d : Nat} {ts : List α} (h : RkO en k e base a B d ts) (hb : But F a b) (hn : ∀ g, B = some ⟨g, 0, none⟩ → ¬ F g) : RkO en k e base b B d ts := h.keep fun g eg cs hc => hb.block g (Array.getElem?_eq_some_iff.1 hc).1 (hn g eg)
/-- A row of elements does not lie in a block of another type. -/
theorem RkO.off {α : Type} {en : α → List Value} {k : Nat} {e : TypeId} {base : Nat} {B : Option Addr} {d : Nat} {ts : List α} {g : Nat} {t : TypeId} {cs : Array Value} (h : RkO en k e base a B d ts) (hr : Row a g t cs) (hne : e ≠ t) : B ≠ some ⟨g, 0, none⟩ := fun hB => by
  subst hB
  obtain ⟨cur, h1, -⟩ := h.open_
  exact Row.ne h1 hr hne rfl
end
end Go.Proofs.Ytaikjobebbighaa
