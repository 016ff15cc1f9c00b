/- Rows of elements of k cells (structs): as they lie, and of the call's own; append. Over whatever element. -/
import Derived.Test.YtaikjobebbighaaSl
import Derived.Laws.OwnMore
import Derived.Laws.AppendOwn
import Derived.Laws.AppendOwnNone
namespace Go.Proofs.Ytaikjobebbighaa
set_option linter.unusedVariables false
open Go.RowKit
section
variable {α : Type} {en : α → List Value} {k : Nat}
/-- The cells of a row. -/
def rkCs (en : α → List Value) (ts : List α) : List Value := ts.flatMap en
theorem rkCs_len (hk : ∀ x, (en x).length = k) (ts : List α) : (rkCs en ts).length = ts.length * k := by
  induction ts with
  | nil => simp [rkCs]
  | cons t ts ih => unfold rkCs at *; rw [List.flatMap_cons, List.length_append, ih, List.length_cons, hk, Nat.add_mul]; omega
theorem rkCs_get (hk : ∀ x, (en x).length = k) : ∀ (ts : List α) (j : Nat) (hj : j < ts.length) (i : Nat), i < k → (rkCs en ts)[j * k + i]? = (en ts[j])[i]?
  | [], j, hj, _, _ => absurd hj (by simp)
  | t :: ts, 0, hj, i, hi => by
    show (en t ++ rkCs en ts)[0 * k + i]? = _
    rw [Nat.zero_mul, Nat.zero_add, List.getElem?_append_left (by rw [hk]; exact hi)]
    rfl
  | t :: ts, j + 1, hj, i, hi => by
    have ih := rkCs_get hk ts j (by simpa using hj) i hi
    show (en t ++ rkCs en ts)[(j + 1) * k + i]? = _
    rw [List.getElem?_append_right (by rw [hk, Nat.add_mul]; omega), show (j + 1) * k + i - (en t).length = j * k + i by rw [hk, Nat.add_mul]; omega, ih]
    rfl
theorem rkCs_append (a b : List α) : rkCs en (a ++ b) = rkCs en a ++ rkCs en b := by unfold rkCs; rw [List.flatMap_append]
theorem rkCs_one (h1 : ∀ x, ∀ v ∈ en x, v.oneCell' = true) (ts : List α) : ∀ u ∈ rkCs en ts, u.oneCell' = true := fun u hu => by
  obtain ⟨t, _, h⟩ := List.mem_flatMap.1 hu
  exact h1 t u h
/-- A row as it lies. -/
def RkS (en : α → List Value) (k : Nat) (w : World) (A : Option Addr) (ts : List α) : Prop :=
  ∀ j (hj : j < ts.length), ∃ ad, A = some ad ∧ ad.block < w.heap.size ∧ ∀ i v, (en ts[j])[i]? = some v → w.cell? (ad.add (j * k + i)) = some v
theorem RkS.nil (w : World) (A : Option Addr) : RkS en k w A [] := fun j hj => absurd hj (by simp)
theorem RkS.keep {w w' : World} {A : Option Addr} {ts : List α} (h : RkS en k w A ts) (hz : w.heap.size ≤ w'.heap.size) (hk : ∀ ad, A = some ad → ad.block < w.heap.size → ∀ p : Addr, p.block = ad.block → w'.cell? p = w.cell? p) : RkS en k w' A ts := fun j hj => by
  obtain ⟨ad, e, hb, h1⟩ := h j hj
  have hc := hk ad e hb
  exact ⟨ad, e, by omega, fun i v hv => (hc _ (add_block _ _)).trans (h1 i v hv)⟩
theorem RkS.over {w w' : World} {A : Option Addr} {ts : List α} (h : RkS en k w A ts) (hb : Below w.heap.size w w') : RkS en k w' A ts := h.keep hb.size fun ad _ hl p hp => hb.cell (by rw [hp]; exact hl)
theorem RkS.low {w w' : World} {A : Option Addr} {ts : List α} {base : Nat} (h : RkS en k w A ts) (hA : ∀ ad, A = some ad → ad.block < base) (hb : Below base w w') : RkS en k w' A ts := h.keep hb.size fun ad e _ p hp => hb.cell (by rw [hp]; exact hA ad e)
theorem RkS.drew {w : World} {A : Option Addr} {ts : List α} (h : RkS en k w A ts) : RkS en k w.drew A ts := h
theorem RkS.drewN {w : World} {A : Option Addr} {ts : List α} (h : RkS en k w A ts) (n : Nat) : RkS en k (w.drewN n) A ts := h
theorem RkS.alloc {w : World} {A : Option Addr} {ts : List α} (h : RkS en k w A ts) (o : Obj) : RkS en k (w.alloc o) A ts := h.over ((Below.refl _ _).alloc (Nat.le_refl _) o)
theorem RkS.some_ {w : World} {A : Option Addr} {ts : List α} (h : RkS en k w A ts) (hx : ts ≠ []) : ∃ ad, A = some ad := by
  obtain ⟨ad, e, _⟩ := h 0 (List.length_pos_iff.2 hx)
  exact ⟨ad, e⟩
theorem RkS.lt_ {w : World} {A : Option Addr} {ts : List α} (h : RkS en k w A ts) (hx : ts ≠ []) : ∃ ad, A = some ad ∧ ad.block < w.heap.size := by
  obtain ⟨ad, e, hb, _⟩ := h 0 (List.length_pos_iff.2 hx)
  exact ⟨ad, e, hb⟩
theorem RkS.take {w : World} {A : Option Addr} {ts : List α} (h : RkS en k w A ts) (n : Nat) : RkS en k w A (ts.take n) := fun j hj => by
  rw [List.length_take] at hj
  obtain ⟨ad, e, hb, h1⟩ := h j (by omega)
  exact ⟨ad, e, hb, fun i v hv => h1 i v (by rw [List.getElem_take] at hv; exact hv)⟩
theorem RkS.cut {w : World} {A : Option Addr} {ts : List α} (h : RkS en k w A ts) {n cap : Nat} (hc : ts.length ≤ cap) : RkS en k w (if cap = n then A else A.map (·.add (n * k))) (ts.drop n) := fun j hj => by
  rw [List.length_drop] at hj
  obtain ⟨ad, rfl, hb, h1⟩ := h (n + j) (by omega)
  rw [if_neg (by omega)]
  refine ⟨ad.add (n * k), rfl, by rw [add_block]; exact hb, fun i v hv => ?_⟩
  rw [List.getElem_drop] at hv
  rw [add_add, show n * k + (j * k + i) = (n + j) * k + i by rw [Nat.add_mul]; omega]
  exact h1 i v hv
/-- All its cells. -/
theorem RkS.cells {w : World} {ad : Addr} {ts : List α} (hk : ∀ x, (en x).length = k) (h : RkS en k w (some ad) ts) : ∀ j u, (rkCs en ts)[j]? = some u → w.cell? (ad.add j) = some u := fun j u hu => by
  have hj : j < ts.length * k := by
    have := (List.getElem?_eq_some_iff.1 hu).1
    rwa [rkCs_len hk] at this
  have hk0 : 0 < k := Nat.pos_of_ne_zero fun e => by subst e; simp at hj
  have hd := Nat.div_add_mod j k
  have hm := Nat.mod_lt j hk0
  have hq : j / k < ts.length := (Nat.div_lt_iff_lt_mul hk0).2 hj
  have e : j = j / k * k + j % k := by rw [Nat.mul_comm]; exact hd.symm
  rw [e, rkCs_get hk ts _ hq _ hm] at hu
  obtain ⟨ad', ea, _, h1⟩ := h _ hq
  injection ea with ea
  subst ea
  rw [e]
  exact h1 _ _ hu
/-- The two cells of an element, as the walk spells them. -/
theorem RkS.cells2 {w : World} {ad : Addr} {ts : List α} {en : α → List Value} (h : RkS en 2 w (some ad) ts) (j : Nat) (hj : j < ts.length) {u v : Value} (he : en ts[j] = [u, v]) : ad.block < w.heap.size ∧ w.cell? (ad.add (j * 2)) = some u ∧ w.cell? ⟨(ad.add (j * 2)).block, (ad.add (j * 2)).off + 1, none⟩ = some v := by
  obtain ⟨ad', e, hb, h1⟩ := h j hj
  injection e with e
  subst e
  refine ⟨hb, h1 0 u (by rw [he]; rfl), ?_⟩
  have h2 := h1 1 v (by rw [he]; rfl)
  rw [← add_add] at h2
  exact h2
theorem RkS.of_row {w : World} {g : Nat} {t : TypeId} {ts : List α} (hk : ∀ x, (en x).length = k) (h : Row w g t (rkCs en ts).toArray) : RkS en k w (some ⟨g, 0, none⟩) ts := fun j hj => by
  refine ⟨_, rfl, h.lt, fun i v hv => ?_⟩
  have hi : i < k := by rw [← hk ts[j]]; exact (List.getElem?_eq_some_iff.1 hv).1
  rw [show (⟨g, 0, none⟩ : Addr).add (j * k + i) = ⟨g, j * k + i, none⟩ by unfold Addr.add; split <;> simp_all, h.cell]
  rw [List.getElem?_toArray, rkCs_get hk ts j hj i hi]
  exact hv
/-- A row of the call's own. -/
def RkO (en : α → List Value) (k : Nat) (e : TypeId) (base : Nat) (w : World) (B : Option Addr) (d : Nat) (ts : List α) : Prop := w.ownsRow base e k (.slice B ts.length d) ts.length (rkCs en ts)
variable {e : TypeId} {base : Nat} {w w' : World} {B : Option Addr} {d : Nat} {ts : List α}
theorem RkO.nil (base : Nat) (w : World) : RkO en k e base w none 0 ([] : List α) := World.ownsRow_nil _ _ _ _
theorem RkO.rks (hk : ∀ x, (en x).length = k) (h : RkO en k e base w B d ts) : RkS en k w B ts := fun j hj => by
  rcases h.2 with ⟨ev, e0⟩ | ⟨g, cap, cur, ev, hb, hg, hrest⟩
  · omega
  · injection ev with e1 e2 e3
    subst e1
    refine ⟨_, rfl, (Array.getElem?_eq_some_iff.1 hg).1, fun i v hv => ?_⟩
    have hi : i < k := by rw [← hk ts[j]]; exact (List.getElem?_eq_some_iff.1 hv).1
    have hlt : j * k + i < ts.length * k := by
      have : (j + 1) * k ≤ ts.length * k := Nat.mul_le_mul_right k hj
      rw [Nat.add_mul] at this; omega
    rw [show (⟨g, 0, none⟩ : Addr).add (j * k + i) = ⟨g, j * k + i, none⟩ by unfold Addr.add; split <;> simp_all]
    rw [World.ownsRow.cellAt h (j * k + i) hlt, rkCs_get hk ts j hj i hi]
    exact hv
theorem RkO.base_ (h : RkO en k e base w B d ts) {n : Nat} {g : Nat} (hg : Value.ownBlock (.slice B n d) = some g) : base ≤ g := by
  rcases h.2 with ⟨ev, _⟩ | ⟨g', cap, cur, ev, hb, _⟩
  · injection ev with e1 e2 e3; subst e1; simp [Value.ownBlock] at hg
  · injection ev with e1 e2 e3; subst e1; simp [Value.ownBlock] at hg; omega
theorem RkO.form (h : RkO en k e base w B d ts) : (B = none ∧ d = 0 ∧ ts = []) ∨ ∃ g, B = some ⟨g, 0, none⟩ ∧ base ≤ g ∧ g < w.heap.size ∧ ts.length ≤ d := by
  rcases h.2 with ⟨ev, e0⟩ | ⟨g', cap, cur, ev, hb, hg, h1, _⟩
  · injection ev with e1 e2 e3
    exact .inl ⟨e1, e3, List.length_eq_zero_iff.1 e0⟩
  · injection ev with e1 e2 e3
    exact .inr ⟨g', e1, hb, (Array.getElem?_eq_some_iff.1 hg).1, by omega⟩
theorem RkO.alloc (h : RkO en k e base w B d ts) (o : Obj) : RkO en k e base (w.alloc o) B d ts := World.ownsRow.alloc h o
theorem RkO.drewN (h : RkO en k e base w B d ts) (n : Nat) : RkO en k e base (w.drewN n) B d ts := h
theorem RkO.keep (h : RkO en k e base w B d ts) (hk : ∀ g, B = some ⟨g, 0, none⟩ → ∀ cs, w.heap[g]? = some (.cells cs e (0, 0)) → w'.heap[g]? = w.heap[g]?) : RkO en k e base w' B d ts := by
  rcases h.2 with ⟨ev, e2⟩ | ⟨g', cap, cur, ev, h1, h2, h3⟩
  · exact ⟨h.1, .inl ⟨ev, e2⟩⟩
  · injection ev with e1 e2 e3
    exact ⟨h.1, .inr ⟨g', cap, cur, by rw [e1, e3], h1, (hk g' e1 cur h2).trans h2, h3⟩⟩
theorem RkO.over (h : RkO en k e base w B d ts) (hb : Below w.heap.size w w') : RkO en k e base w' B d ts := h.keep fun g _ cs hg => hb.block g (Array.getElem?_eq_some_iff.1 hg).1
theorem RkO.low {base' : Nat} (h : RkO en k e base w B d ts) (hb : base' ≤ base) : RkO en k e base' w B d ts := by
  rcases h.2 with ⟨ev, e2⟩ | ⟨g', cap, cur, ev, h1, h2, h3⟩
  · exact ⟨h.1, .inl ⟨ev, e2⟩⟩
  · exact ⟨h.1, .inr ⟨g', cap, cur, ev, by omega, h2, h3⟩⟩
/-- append(row, src...): src reads as ys, nil let in. -/
theorem appSK {P : Program} {ops : Array Oper} {rest : List Oper} {o : Oper} {a : Act} {Q : Exit → Act → World → Prop} {st : TypeId} {z : Value} {bytes : Nat} (hgd : o.guard = none) (s x : Operand)
    (ho : o.op = .call { callee := .builtin .append, args := #[s, x], argTypes := #[st, st] }) (ht : P.underlying st = some (.slice e)) (hinfo : (P.info? e).map (fun i => (i.zero, i.size, i.bytes)) = some (some z, k, bytes)) (hz : z.cells.size = k) (hk0 : 0 < k) (hby : bytes ≤ 1000)
    (hk : ∀ x, (en x).length = k) (h1 : ∀ x, ∀ v ∈ en x, v.oneCell' = true) (n : Nat) (hn : n = ts.length) (hs : a.eval s = .slice B n d) (hown : RkO en k e base w B d ts)
    (A : Option Addr) (c : Nat) (ys : List α) (hx : a.eval x = .slice A ys.length c) (hsl : RkS en k w A ys) (hA : A = none → c = 0) (hbase : base ≤ w.heap.size) (hlen : ts.length + ys.length ≤ 100000000)
    (h : ∀ B' d' w', RkO en k e base w' B' d' (ts ++ ys) → w.grownBy w' (Value.ownBlock (.slice B ts.length d)) → Below base w w' → wpList P ops Q rest (a.put o.dst (.slice B' (n + ys.length) d')) w') :
    wpList P ops Q (o :: rest) a w := by
  obtain ⟨i0, hi, hz0, hz1, hz2⟩ := info_parts hinfo
  subst hn
  cases A with
  | none =>
    have ey : ys = [] := by
      rcases ys with _ | ⟨y, ys⟩
      · rfl
      · obtain ⟨ad, e', _⟩ := hsl 0 (by simp)
        cases e'
    subst ey
    obtain rfl := hA rfl
    refine wpList_append_own_none hgd s x _ ho base e i0 k ht hi _ ts.length _ hs hown (by simpa using hx) ?_
    have := h B d w (by simpa using hown) (World.grownBy.refl w _) (Below.refl _ _)
    simpa using this
  | some ad =>
    refine wpList_append_own w hgd s x _ ho base e i0 z k bytes ht hi hz0 hz1 hz2 hz hk0 _ _ _ hs hown ad ys.length c (rkCs en ys) hx (rkCs_len hk ys) (fun j u hu => hsl.cells hk j u hu)
      (rkCs_one h1 ys) (by unfold maxLen; omega) (by
        have : (ts.length + ys.length) * bytes ≤ 100000000 * 1000 := Nat.mul_le_mul hlen hby
        omega) hbase ?_
    intro v' w' hown' hgrow _
    obtain ⟨B', d', rfl, -, -⟩ : ∃ B d, v' = .slice B (ts.length + ys.length) d ∧ ts.length + ys.length ≤ d ∧ d ≤ maxLen := by
      rcases hown'.2 with ⟨ev, h0⟩ | ⟨g, cap, cur, rfl, _, _, h1, h2, _⟩
      · exact ⟨none, 0, by rw [ev, h0], by omega, by unfold maxLen; omega⟩
      · exact ⟨_, _, rfl, h1, h2⟩
    have ho2 : RkO en k e base w' B' d' (ts ++ ys) := by
      unfold RkO
      rw [List.length_append, rkCs_append]
      exact hown'
    exact h B' d' w' ho2 hgrow ((Below.refl base w).grown hgrow hbase (fun g hg => RkO.base_ hown hg))
/-- append(row, one). -/
theorem app1K {P : Program} {ops : Array Oper} {rest : List Oper} {o : Oper} {a : Act} {Q : Exit → Act → World → Prop} {st : TypeId} {z : Value} {bytes : Nat} (hgd : o.guard = none) (s x : Operand)
    (ho : o.op = .call { callee := .builtin .append, args := #[s, x], argTypes := #[st, st] }) (ht : P.underlying st = some (.slice e)) (hinfo : (P.info? e).map (fun i => (i.zero, i.size, i.bytes)) = some (some z, k, bytes)) (hz : z.cells.size = k) (hk0 : 0 < k) (hby : bytes ≤ 1000)
    (hk : ∀ x, (en x).length = k) (h1 : ∀ x, ∀ v ∈ en x, v.oneCell' = true) (n : Nat) (hn : n = ts.length) (hs : a.eval s = .slice B n d) (hown : RkO en k e base w B d ts) (y : α) (cs : Array Value) (hcs : cs = (en y).toArray)
    (hx : a.eval x = .slice (some ⟨w.heap.size, 0, none⟩) 1 1) (hbase : base ≤ w.heap.size) (hlen : ts.length ≤ 10000000)
    (h : ∀ B' d' w', RkO en k e base w' B' d' (ts ++ [y]) → (w.alloc (.cells cs e)).grownBy w' (Value.ownBlock (.slice B ts.length d)) → Below base w w' → wpList P ops Q rest (a.put o.dst (.slice B' (n + 1) d')) w') :
    wpList P ops Q (o :: rest) a (w.alloc (.cells cs e)) := by
  subst hcs
  refine appSK (w := w.alloc (.cells (en y).toArray e)) (e := e) hgd s x ho ht hinfo hz hk0 hby hk h1 n hn hs (hown.alloc _) (some ⟨w.heap.size, 0, none⟩) 1 [y] hx
    (RkS.of_row (t := e) hk (by simpa [rkCs] using Row.new w e (en y).toArray)) (by simp) (by simp; omega) (by simp; omega) fun B' d' w' h1 h2 h3 => h B' d' w' h1 h2 (((Below.refl base w).alloc hbase _).trans h3)
end
end Go.Proofs.Ytaikjobebbighaa
