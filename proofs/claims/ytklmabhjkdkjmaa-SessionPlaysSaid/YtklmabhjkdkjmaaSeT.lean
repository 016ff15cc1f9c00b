/- Rows of what was told: as they lie, and of the call's own. -/
import Derived.Test.YtklmabhjkdkjmaaSeD
import Derived.Test.YtklmabhjkdkjmaaOpenS
namespace Go.Proofs.Ytklmabhjkdkjmaa
set_option linter.unusedVariables false
open Go.RowKit
def tkC (t : Tk) : List Value := [.int .u64 t.cl, .int .u64 t.sq, .int .i64 t.e, .int .u64 t.n]
def tkCs (ts : List Tk) : List Value := ts.flatMap tkC
theorem tkCs_len (ts : List Tk) : (tkCs ts).length = ts.length * 4 := by
  induction ts with
  | nil => rfl
  | cons t ts ih => unfold tkCs at *; rw [List.flatMap_cons, List.length_append, ih, List.length_cons]; simp [tkC]; omega
theorem tkCs_get : ∀ (ts : List Tk) (j : Nat) (hj : j < ts.length), (tkCs ts)[j * 4]? = some (.int .u64 ts[j].cl) ∧ (tkCs ts)[j * 4 + 1]? = some (.int .u64 ts[j].sq) ∧ (tkCs ts)[j * 4 + 2]? = some (.int .i64 ts[j].e) ∧ (tkCs ts)[j * 4 + 3]? = some (.int .u64 ts[j].n)
  | [], j, hj => absurd hj (by simp)
  | t :: ts, 0, hj => ⟨rfl, rfl, rfl, rfl⟩
  | t :: ts, j + 1, hj => by
    have ih := tkCs_get ts j (by simpa using hj)
    have e : tkCs (t :: ts) = tkC t ++ tkCs ts := rfl
    have hl : (tkC t).length = 4 := rfl
    rw [e]
    refine ⟨?_, ?_, ?_, ?_⟩
    · rw [List.getElem?_append_right (by omega), show (j + 1) * 4 - (tkC t).length = j * 4 by omega]; exact ih.1
    · rw [List.getElem?_append_right (by omega), show (j + 1) * 4 + 1 - (tkC t).length = j * 4 + 1 by omega]; exact ih.2.1
    · rw [List.getElem?_append_right (by omega), show (j + 1) * 4 + 2 - (tkC t).length = j * 4 + 2 by omega]; exact ih.2.2.1
    · rw [List.getElem?_append_right (by omega), show (j + 1) * 4 + 3 - (tkC t).length = j * 4 + 3 by omega]; exact ih.2.2.2
theorem tkCs_append (a b : List Tk) : tkCs (a ++ b) = tkCs a ++ tkCs b := by unfold tkCs; rw [List.flatMap_append]
theorem tkCs_one : ∀ ts : List Tk, ∀ u ∈ tkCs ts, u.oneCell' = true := fun ts u hu => by
  obtain ⟨t, _, h⟩ := List.mem_flatMap.1 hu
  simp [tkC] at h
  rcases h with rfl | rfl | rfl | rfl <;> rfl
/-- A row as it lies. -/
def TkS (w : World) (A : Option Addr) (ts : List Tk) : Prop := ∀ j (hj : j < ts.length), ∃ ad, A = some ad ∧ ad.block < w.heap.size ∧ w.cell? (ad.add (j * 4)) = some (.int .u64 ts[j].cl) ∧ w.cell? (ad.add (j * 4 + 1)) = some (.int .u64 ts[j].sq) ∧
  w.cell? (ad.add (j * 4 + 2)) = some (.int .i64 ts[j].e) ∧ w.cell? (ad.add (j * 4 + 3)) = some (.int .u64 ts[j].n)
theorem TkS.nil (w : World) (A : Option Addr) : TkS w A [] := fun j hj => absurd hj (by simp)
theorem TkS.keep {w w' : World} {A : Option Addr} {ts : List Tk} (h : TkS w A ts) (hz : w.heap.size ≤ w'.heap.size) (hk : ∀ ad, A = some ad → ad.block < w.heap.size → ∀ p : Addr, p.block = ad.block → w'.cell? p = w.cell? p) : TkS w' A ts := fun j hj => by
  obtain ⟨ad, e, hb, h1, h2, h3, h4⟩ := h j hj
  have hc := hk ad e hb
  exact ⟨ad, e, by omega, (hc _ (add_block _ _)).trans h1, (hc _ (add_block _ _)).trans h2, (hc _ (add_block _ _)).trans h3, (hc _ (add_block _ _)).trans h4⟩
theorem TkS.over {w w' : World} {A : Option Addr} {ts : List Tk} (h : TkS w A ts) (hb : Below w.heap.size w w') : TkS w' A ts := h.keep hb.size fun ad _ hl p hp => hb.cell (by rw [hp]; exact hl)
theorem TkS.low {w w' : World} {A : Option Addr} {ts : List Tk} {base : Nat} (h : TkS w A ts) (hA : ∀ ad, A = some ad → ad.block < base) (hb : Below base w w') : TkS w' A ts := h.keep hb.size fun ad e _ p hp => hb.cell (by rw [hp]; exact hA ad e)
/-- The four cells, as the walk spells them. -/
theorem TkS.cells4 {w : World} {ad : Addr} {ts : List Tk} (h : TkS w (some ad) ts) (j : Nat) (hj : j < ts.length) : ad.block < w.heap.size ∧ w.cell? (ad.add (j * 4)) = some (.int .u64 ts[j].cl) ∧ w.cell? ⟨(ad.add (j * 4)).block, (ad.add (j * 4)).off + 1, none⟩ = some (.int .u64 ts[j].sq) ∧
    w.cell? ⟨(ad.add (j * 4)).block, (ad.add (j * 4)).off + 2, none⟩ = some (.int .i64 ts[j].e) ∧ w.cell? ⟨(ad.add (j * 4)).block, (ad.add (j * 4)).off + 3, none⟩ = some (.int .u64 ts[j].n) := by
  obtain ⟨ad', e, hb, h1, h2, h3, h4⟩ := h j hj
  injection e with e
  subst e
  refine ⟨hb, h1, ?_, ?_, ?_⟩
  · rw [← add_add] at h2; exact h2
  · rw [← add_add] at h3; exact h3
  · rw [← add_add] at h4; exact h4
/-- A row of the call's own. -/
def OwnT (base : Nat) (w : World) (B : Option Addr) (d : Nat) (ts : List Tk) : Prop := w.ownsRow base 32 4 (.slice B ts.length d) ts.length (tkCs ts)
theorem OwnT.nil (base : Nat) (w : World) : OwnT base w none 0 [] := World.ownsRow_nil _ _ _ _
theorem OwnT.tks {base : Nat} {w : World} {B : Option Addr} {d : Nat} {ts : List Tk} (h : OwnT base w B d ts) : TkS w B ts := fun j hj => by
  obtain ⟨g1, g2, g3, g4⟩ := tkCs_get ts j hj
  rcases h.2 with ⟨e, e0⟩ | ⟨g, cap, cur, e, hb, hg, hrest⟩
  · omega
  · injection e with e1 e2 e3
    subst e1
    have hc : ∀ i, i < ts.length * 4 → w.cell? ((⟨g, 0, none⟩ : Addr).add i) = (tkCs ts)[i]? := fun i hi => by
      rw [show (⟨g, 0, none⟩ : Addr).add i = ⟨g, i, none⟩ by unfold Addr.add; split <;> simp_all]
      exact World.ownsRow.cellAt h i hi
    exact ⟨_, rfl, (Array.getElem?_eq_some_iff.1 hg).1, (hc _ (by omega)).trans g1, (hc _ (by omega)).trans g2, (hc _ (by omega)).trans g3, (hc _ (by omega)).trans g4⟩
theorem OwnT.base_ {base : Nat} {w : World} {B : Option Addr} {d : Nat} {ts : List Tk} (h : OwnT base w B d ts) {n : Nat} {g : Nat} (hg : Value.ownBlock (.slice B n d) = some g) : base ≤ g := by
  rcases h.2 with ⟨e, _⟩ | ⟨g', cap, cur, e, hb, _⟩
  · injection e with e1 e2 e3; subst e1; simp [Value.ownBlock] at hg
  · injection e with e1 e2 e3; subst e1; simp [Value.ownBlock] at hg; omega
theorem OwnT.alloc {base : Nat} {w : World} {B : Option Addr} {d : Nat} {ts : List Tk} (h : OwnT base w B d ts) (o : Obj) : OwnT base (w.alloc o) B d ts := World.ownsRow.alloc h o
theorem OwnT.drewN {base : Nat} {w : World} {B : Option Addr} {d : Nat} {ts : List Tk} (h : OwnT base w B d ts) (n : Nat) : OwnT base (w.drewN n) B d ts := h
theorem OwnT.keep {base : Nat} {w w' : World} {B : Option Addr} {d : Nat} {ts : List Tk} (h : OwnT base w B d ts) (hk : ∀ g, B = some ⟨g, 0, none⟩ → ∀ cs, w.heap[g]? = some (.cells cs 32 (0, 0)) → w'.heap[g]? = w.heap[g]?) : OwnT base w' B d ts := by
  rcases h.2 with ⟨e, e2⟩ | ⟨g', cap, cur, e, h1, h2, h3⟩
  · exact ⟨h.1, .inl ⟨e, e2⟩⟩
  · injection e with e1 e2 e3
    exact ⟨h.1, .inr ⟨g', cap, cur, by rw [e1, e3], h1, (hk g' e1 cur h2).trans h2, h3⟩⟩
theorem OwnT.over {base : Nat} {w w' : World} {B : Option Addr} {d : Nat} {ts : List Tk} (h : OwnT base w B d ts) (hb : Below w.heap.size w w') : OwnT base w' B d ts :=
  h.keep fun g _ cs hg => hb.block g (Array.getElem?_eq_some_iff.1 hg).1
theorem OwnT.low {base base' : Nat} {w : World} {B : Option Addr} {d : Nat} {ts : List Tk} (h : OwnT base w B d ts) (hb : base' ≤ base) : OwnT base' w B d ts := by
  rcases h.2 with ⟨e, e2⟩ | ⟨g', cap, cur, e, h1, h2, h3⟩
  · exact ⟨h.1, .inl ⟨e, e2⟩⟩
  · exact ⟨h.1, .inr ⟨g', cap, cur, e, by omega, h2, h3⟩⟩
theorem infoT : (Try.prog.info? 32).map (fun i => (i.zero, i.size, i.bytes)) = some (some (.agg #[.int .u64 0, .int .u64 0, .int .i64 0, .int .u64 0]), 4, 32) := by kernel_rfl
/-- append(row, one). -/
theorem app1T {ops : Array Oper} {rest : List Oper} {o : Oper} {a : Act} {Q : Exit → Act → World → Prop} {w : World} (hgd : o.guard = none) (s x : Operand)
    (ho : o.op = .call { callee := .builtin .append, args := #[s, x], argTypes := #[22, 22] }) (base : Nat) (B : Option Addr) (n d : Nat) (xs : List Tk) (t : Tk) (hn : n = xs.length) (hs : a.eval s = .slice B n d) (hown : OwnT base w B d xs)
    (hx : a.eval x = .slice (some ⟨w.heap.size, 0, none⟩) 1 1) (hbase : base ≤ w.heap.size) (hlen : xs.length ≤ 1000000)
    (h : ∀ B' d' w', OwnT base w' B' d' (xs ++ [t]) → Below base w w' → wpList Try.prog ops Q rest (a.put o.dst (.slice B' (n + 1) d')) w') :
    wpList Try.prog ops Q (o :: rest) a (w.alloc (.cells #[.int .u64 t.cl, .int .u64 t.sq, .int .i64 t.e, .int .u64 t.n] 32)) := by
  obtain ⟨i0, hi, hz0, hz1, hz2⟩ := info_parts infoT
  subst hn
  refine wpList_append_own _ hgd s x _ ho base 32 i0 (.agg #[.int .u64 0, .int .u64 0, .int .i64 0, .int .u64 0]) 4 32 Try.underlying22 hi hz0 hz1 hz2 rfl (by decide) _ _ _ hs (hown.alloc _) ⟨w.heap.size, 0, none⟩ 1 1 (tkC t) hx rfl
    (fun j u hu => by
      have r := Row.new w 32 #[.int .u64 t.cl, .int .u64 t.sq, .int .i64 t.e, .int .u64 t.n]
      rw [show (⟨w.heap.size, 0, none⟩ : Addr).add j = ⟨w.heap.size, j, none⟩ by unfold Addr.add; split <;> simp_all, r.cell j]
      simpa [tkC] using hu)
    (fun u hu => tkCs_one [t] u (by simpa [tkCs] using hu)) (by unfold maxLen; omega) (by omega) (by simp; omega) ?_
  intro v' w' hown' hgrow _
  obtain ⟨B', d', rfl, -, -⟩ : ∃ B d, v' = .slice B (xs.length + 1) d ∧ xs.length + 1 ≤ d ∧ d ≤ maxLen := by
    rcases hown'.2 with ⟨_, h0⟩ | ⟨g, cap, cur, rfl, _, _, h1, h2, _⟩
    · omega
    · exact ⟨_, _, rfl, h1, h2⟩
  have ho2 : OwnT base w' B' d' (xs ++ [t]) := by
    unfold OwnT
    rw [List.length_append, List.length_singleton, tkCs_append]
    simpa [tkCs] using hown'
  exact h B' d' w' ho2 (((Below.refl base w).alloc hbase _).trans ((Below.refl base _).grown hgrow (by simp; omega) (fun g hg => OwnT.base_ hown hg)))
end Go.Proofs.Ytklmabhjkdkjmaa
