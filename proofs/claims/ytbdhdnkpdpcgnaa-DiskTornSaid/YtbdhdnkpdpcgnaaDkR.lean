/- Rows of rows of bytes that are given, and a row of the law's own beside a disk. -/
import Derived.Test.YtbdhdnkpdpcgnaaDkX
import Derived.Test.YtbdhdnkpdpcgnaaDkK
import Derived.Test.YtbdhdnkpdpcgnaaOpenS
import Derived.Deep.Slices
import Derived.Shelf.Bytes.SlSmallAll
namespace Go.Proofs.Ytbdhdnkpdpcgnaa
set_option linter.unusedVariables false
open Go.RowKit Go.WideShapes Go.ChangeShapes
variable {FR : Nat → Prop}
/-- A slice of bytes as it is given. -/
structure Bw (w : World) (A : Option Addr) (c : Nat) (l : List Int) : Prop where
  sl : Sl w .u8 A l
  none_ : A = none → c = 0
  le : l.length ≤ c
  cap : c ≤ maxLen
theorem Bw.over {w w' : World} {A : Option Addr} {c : Nat} {l : List Int} (h : Bw w A c l) (hb : Below w.heap.size w w') : Bw w' A c l := ⟨h.sl.over hb, h.2, h.3, h.4⟩
theorem Bw.far {w W : World} {A : Option Addr} {c : Nat} {l : List Int} (h : Bw w A c l) (hb : Below w.heap.size w W) (hf : ∀ x, FR x → w.heap.size ≤ x) : BSl FR W A c l := ⟨h.sl.over hb, h.2, h.3, h.4, fun hl ad e hx => by
  obtain ⟨ad', e', hb', _⟩ := h.sl 0 (List.length_pos_iff.2 hl)
  rw [e] at e'
  injection e' with e'
  subst e'
  have := hf _ hx
  omega⟩
/-- Rows of bytes as they are given. -/
def Rws (w : World) (L : Option Addr) (ls : List (List Int)) : Prop := ∀ j (hj : j < ls.length), ∃ ad B c, L = some ad ∧ ad.block < w.heap.size ∧ w.cell? (ad.add j) = some (.slice B ls[j].length c) ∧ Bw w B c ls[j]
theorem Rws.over {w w' : World} {L : Option Addr} {ls : List (List Int)} (h : Rws w L ls) (hb : Below w.heap.size w w') : Rws w' L ls := fun j hj => by
  obtain ⟨ad, B, c, e, h1, h2, h3⟩ := h j hj
  exact ⟨ad, B, c, e, Nat.lt_of_lt_of_le h1 hb.size, (hb.cell (by rw [add_block]; exact h1)).trans h2, h3.over hb⟩
section
variable {H : Type} {enc : TypeId × Value → H} {P : Program} {W : World}
theorem open_row_at {t e : TypeId} {fuel : Nat} {cs : List Value} {x : DataW H × List MemPlace} (ht : P.underlying t = some (.slice e)) (he : P.underlying e = some (.int .u8)) (hc : P.cellsOf e = 1)
    (hf : DataW.trod enc P W 0 (fun _ => true) true fuel t cs = some x) : ∃ (A : Option Addr) (c : Nat) (l : List Int), cs = [.slice A l.length c] ∧ Bw W A c l ∧ ∀ x ∈ l, (Lit.int .u8 x).wf = true := by
  rcases open_ints ht he hc hf with ⟨hcs, hx⟩ | ⟨a, len, cap, zs, hcs, _, hl, hm, hz, hx, hcell, hwz⟩
  · exact ⟨none, 0, [], hcs, ⟨Sl.nil _ _ _, fun _ => rfl, Nat.le_refl _, Nat.zero_le _⟩, fun x hx => by simp at hx⟩
  · simp only [if_true] at hz
    have hlen : (zs.take len).length = len := by rw [List.length_take]; omega
    refine ⟨some a, cap, zs.take len, by rw [hlen]; exact hcs, ⟨fun j hj => ?_, (fun e => by cases e), by omega, hm⟩, fun x hx => hwz x (List.mem_of_mem_take hx)⟩
    rw [hlen] at hj
    have hcj := hcell j (by omega)
    have hb := World.block_lt_of_cell? _ _ hcj
    rw [add_block] at hb
    refine ⟨a, rfl, hb, ?_⟩
    rw [hcj, List.getElem_take]
    simp [List.getElem?_eq_getElem (show j < zs.length by omega)]
theorem open_rows {base : Nat} {t e u : TypeId} {v : Value} {d : DataW H} {p : List MemPlace} (ht : P.underlying t = some (.slice e)) (hce : P.cellsOf e = 1) (he : P.underlying e = some (.slice u)) (hu : P.underlying u = some (.int .u8)) (hcu : P.cellsOf u = 1)
    (hval : Value.okWide P W .any base t v) (h : DataW.Trod enc P W 0 (fun _ => true) true t v d p) :
    ∃ (A : Option Addr) (c : Nat) (ls : List (List Int)), v = .slice A ls.length c ∧ Rws W A ls ∧ ∀ l ∈ ls, ∀ x ∈ l, (Lit.int .u8 x).wf = true := by
  obtain ⟨a1, len, cap, rfl⟩ := okWide_slice ht hval
  obtain ⟨fuel, hf⟩ := h
  rcases Go.Deep.open_slice1 ht hce hf with ⟨hcs, hx⟩ | ⟨a, len', cap', m, n, V, D, Pl, hcs, _, hl, hm, hmm, hx, hV⟩
  · simp [Value.cells] at hcs
    obtain ⟨rfl, rfl, rfl⟩ := hcs
    exact ⟨none, 0, [], rfl, fun j hj => by simp at hj, by simp⟩
  · simp [Value.cells] at hcs
    obtain ⟨rfl, rfl, rfl⟩ := hcs
    simp only [if_true] at hmm
    have each : ∀ i, ∃ l : List Int, i < len → ∃ B c, V i = .slice B l.length c ∧ Bw W B c l ∧ ∀ x ∈ l, (Lit.int .u8 x).wf = true := fun i => by
      by_cases hi : i < len
      · obtain ⟨A, c, l, e1, e2, e3⟩ := open_row_at he hu hcu (hV i (by omega)).2
        injection e1 with e1
        exact ⟨l, fun _ => ⟨A, c, e1, e2, e3⟩⟩
      · exact ⟨[], fun h => absurd h hi⟩
    obtain ⟨f, hfs⟩ := Classical.axiomOfChoice each
    refine ⟨some a, cap, (List.range len).map f, by simp, fun j hj => ?_, fun l hl x hx => ?_⟩
    · have hj' : j < len := by simpa using hj
      obtain ⟨B, c, e1, e2, e3⟩ := hfs j hj'
      have hc := (hV j (by omega)).1
      have hb := World.block_lt_of_cell? _ _ hc
      rw [add_block] at hb
      refine ⟨a, B, c, rfl, hb, ?_, ?_⟩
      · rw [hc, e1]; simp
      · simpa using e2
    · obtain ⟨i, hi, rfl⟩ := List.mem_map.1 hl
      obtain ⟨B, c, e1, e2, e3⟩ := hfs i (by simpa using hi)
      exact e3 x hx
end
/-! ### a row of the law's own beside a disk -/
/-- The block of a row. -/
def ob (B : Option Addr) : Option Nat := Value.ownBlock (.slice B 0 0)
theorem ob_eq (B : Option Addr) (n d : Nat) : Value.ownBlock (.slice B n d) = ob B := by cases B <;> rfl
/-- The row's block alone. -/
def FB (B : Option Addr) : Nat → Prop := fun x => ob B = some x
theorem FB.none_ : FB none = Nobody := by funext x; simp [FB, ob, Value.ownBlock, Nobody]
theorem OwnB.at_ob {base : Nat} {w : World} {B : Option Addr} {d : Nat} {xs : List Int} (h : OwnB base w B d xs) {x : Nat} (hx : FB B x) : base ≤ x ∧ ∃ cs, w.heap[x]? = some (.cells cs 5 (0, 0)) := by
  rcases h.2 with ⟨e, _⟩ | ⟨g', cap, cur, e, h1, h2, _⟩
  · injection e with e1 e2 e3; subst e1; cases hx
  · injection e with e1 e2 e3; subst e1
    have : g' = x := by simpa [FB, ob, Value.ownBlock] using hx
    subst this
    exact ⟨h1, _, h2⟩
theorem OwnB.ob_lt {base : Nat} {w : World} {B : Option Addr} {d : Nat} {xs : List Int} (h : OwnB base w B d xs) {x : Nat} (hx : FB B x) : x < w.heap.size := by
  obtain ⟨_, cs, h2⟩ := h.at_ob hx
  exact (Array.getElem?_eq_some_iff.1 h2).1
/-- append(row, src...), and where the new row lies. -/
theorem appSBat {ops : Array Oper} {rest : List Oper} {o : Oper} {a : Act} {Q : Exit → Act → World → Prop} {w : World} (hgd : o.guard = none) (s x : Operand)
    (ho : o.op = .call { callee := .builtin .append, args := #[s, x], argTypes := #[23, 23] }) (base : Nat) (B : Option Addr) (n d : Nat) (xs : List Int) (hn : n = xs.length) (hs : a.eval s = .slice B n d) (hown : OwnB base w B d xs)
    (A : Option Addr) (c : Nat) (ys : List Int) (hx : a.eval x = .slice A ys.length c) (hsl : Sl w .u8 A ys) (hA : A = none → c = 0) (hbase : base ≤ w.heap.size) (hlen : xs.length + ys.length ≤ 1000000000)
    (h : ∀ B' d' w', OwnB base w' B' d' (xs ++ ys) → w.grownBy w' (ob B) → (ob B' = ob B ∨ ob B' = some w.heap.size) → Below base w w' → wpList Try.prog ops Q rest (a.put o.dst (.slice B' (n + ys.length) d')) w') :
    wpList Try.prog ops Q (o :: rest) a w := by
  obtain ⟨i0, hi, hz0, hz1, hz2⟩ := info_parts infoB
  subst hn
  cases A with
  | none =>
    have e : ys = [] := by
      rcases ys with _ | ⟨y, ys⟩
      · rfl
      · obtain ⟨ad, e, _⟩ := hsl 0 (by simp)
        cases e
    subst e
    obtain rfl := hA rfl
    refine wpList_append_own_none hgd s x _ ho base 5 i0 1 Try.underlying23 hi _ xs.length _ hs hown (by simpa using hx) ?_
    have := h B d w (by simpa using hown) (World.grownBy.refl w _) (.inl rfl) (Below.refl _ _)
    simpa using this
  | some ad =>
    refine wpList_append_own_at w hgd s x _ ho base 5 i0 (.int .u8 0) 1 1 Try.underlying23 hi hz0 hz1 hz2 rfl (by decide) _ _ _ hs hown ad ys.length c (ys.map (.int .u8)) hx (by simp) (fun j u hu => hsl.cells j u hu)
      (fun u hu => by obtain ⟨z, _, rfl⟩ := List.mem_map.1 hu; rfl) (by unfold maxLen; omega) (by omega) hbase ?_
    intro v' w' hown' hgrow _ hat
    obtain ⟨B', d', rfl, -, -⟩ := own_form hown'
    have hn : (xs ++ ys).length = xs.length + ys.length := by simp
    have ho2 : OwnB base w' B' d' (xs ++ ys) := by unfold OwnB; rw [hn]; simpa using hown'
    rw [ob_eq] at hgrow hat
    rw [ob_eq] at hat
    exact h B' d' w' ho2 hgrow hat ((Below.refl base w).grown hgrow hbase (fun g hg => OwnB.base_ (n := 0) hown (by rw [ob_eq]; exact hg)))
theorem BSl.refar {FS : Nat → Prop} {w : World} {A : Option Addr} {c : Nat} {l : List Int} (hf : ∀ x, FS x → FR x ∨ w.heap.size ≤ x) (h : BSl FR w A c l) : BSl FS w A c l := ⟨h.1, h.2, h.3, h.4, fun hl ad e hx => by
  obtain ⟨ad', e', hb', _⟩ := h.sl 0 (List.length_pos_iff.2 hl)
  rw [e] at e'
  injection e' with e'
  subst e'
  rcases hf _ hx with h1 | h1
  · exact h.far hl _ e h1
  · omega⟩
theorem CellsC.refar {FS : Nat → Prop} {w : World} (hf : ∀ x, FS x → FR x ∨ w.heap.size ≤ x) : ∀ {cs : List Chg} {vs : List Value}, CellsC FR w cs vs → CellsC FS w cs vs
  | c :: cs, v1 :: v2 :: v3 :: vs, ⟨h1, h2, ⟨B, d, h3, h4⟩, h5⟩ => ⟨h1, h2, ⟨B, d, h3, h4.refar hf⟩, CellsC.refar hf h5⟩
  | [], [], _ => trivial
  | [], _ :: _, h => h.elim
  | _ :: _, [], h => h.elim
  | _ :: _, [_], h => h.elim
  | _ :: _, [_, _], h => h.elim
theorem SlC.refar {FS : Nat → Prop} {w : World} (hf : ∀ x, FS x → FR x ∨ w.heap.size ≤ x) {L : Option Addr} {cs : List Chg} (h : SlC FR w L cs) : SlC FS w L cs := by
  rcases cs with _ | ⟨c, cs⟩
  · exact .inl rfl
  rcases h with h | ⟨ad, vs, h1, h2, h3, h4⟩
  · cases h
  · refine .inr ⟨ad, vs, h1, h2.refar hf, h3, fun hx => ?_⟩
    rcases hf _ hx with h5 | h5
    · exact h4 h5
    · have hl := h2.len
      have hlt : 0 < vs.length := by simp at hl; omega
      have := World.block_lt_of_cell? _ _ (h3 0 vs[0] (by simp [hlt]))
      rw [add_block] at this
      omega
theorem FilV.refar {FS : Nat → Prop} {w : World} (hf : ∀ x, FS x → FR x ∨ w.heap.size ≤ x) {A : Option Addr} {c : Nat} {B : Option Addr} {d : Nat} {L : Option Addr} {e : Nat} {f : Fil} (h : FilV FR w A c B d L e f) : FilV FS w A c B d L e f :=
  ⟨h.1.refar hf, h.2.refar hf, h.3.refar hf, h.4, h.5, h.6⟩
theorem FileV.refar {FS : Nat → Prop} {w : World} (hf : ∀ x, FS x → FR x ∨ w.heap.size ≤ x) {v : Value} {f : Fil} (h : FileV FR w v f) : FileV FS w v f := by
  obtain ⟨A, c, B, d, L, e, rfl, h⟩ := h
  exact ⟨A, c, B, d, L, e, rfl, h.refar hf⟩
theorem DSt.refar {FS : Nat → Prop} {w : World} (hf : ∀ x, FS x → FR x ∨ w.heap.size ≤ x) : ∀ {es : List (Lit × DataW Value)} {st : Files}, DSt FR w es st → DSt FS w es st
  | p :: es, q :: st, ⟨h1, ⟨v, h2, h3⟩, h4⟩ => ⟨h1, ⟨v, h2, h3.refar hf⟩, DSt.refar hf h4⟩
  | [], [], _ => trivial
  | [], _ :: _, h => h.elim
  | _ :: _, [], h => h.elim
/-- The row grows: the disk beside it stays. -/
theorem DiskAt.beside {base : Nat} {w w' : World} {g b : Nat} {st : Files} {B B' : Option Addr} {d d' : Nat} {xs xs' : List Int} (h : DiskAt (FB B) w g b st) (ho : OwnB base w B d xs) (ho' : OwnB base w' B' d' xs')
    (hg : w.grownBy w' (ob B)) (hat : ob B' = ob B ∨ ob B' = some w.heap.size) : DiskAt (FB B') w' g b st := by
  obtain ⟨es, hm, hd⟩ := h.map
  have hgne : some g ≠ ob B := fun e => by
    obtain ⟨_, cs, h2⟩ := ho.at_ob (x := g) e.symm
    have := h.row.symm.trans h2
    simp at this
  have hbne : some b ≠ ob B := fun e => by
    obtain ⟨_, cs, h2⟩ := ho.at_ob (x := b) e.symm
    obtain ⟨es0, clock, hb0, -⟩ := hm
    have := hb0.symm.trans h2
    simp at this
  have hd2 : DSt (fun x => FB B x ∨ FB B' x) w es st := hd.refar fun x hx => by
    rcases hx with hx | hx
    · exact .inl hx
    · rcases hat with e | e
      · exact .inl (by unfold FB at hx ⊢; rw [← e]; exact hx)
      · unfold FB at hx
        rw [e] at hx
        injection hx with hx
        exact .inr (by omega)
  have hs : Stays (fun x => FB B x ∨ FB B' x) w w' := ⟨hg.size, fun p v hf hp => (World.cell?_of_block (hg.block p.block (World.block_lt_of_cell? _ _ hp) (fun e => hf (.inl e.symm)))).trans hp⟩
  exact ⟨(hg.block g h.ltg hgne).trans h.row, ⟨es, hm.kept hg hbne, (hd2.stays hs).refar fun x hx => .inl (.inr hx)⟩, fun x hx => ho'.ob_lt hx⟩
/-- .. and the other way round. -/
theorem OwnB.beside {base : Nat} {w w' : World} {g b : Nat} {st : Files} {B : Option Addr} {d : Nat} {xs : List Int} (ho : OwnB base w B d xs) (h : DiskAt FR w g b st) (hg : w.grownBy w' (some b)) : OwnB base w' B d xs := by
  refine World.ownsRow.kept ho hg (.inr fun e => ?_)
  rw [ob_eq] at e
  obtain ⟨_, cs, h2⟩ := ho.at_ob (x := b) e
  obtain ⟨es, hm, hd⟩ := h.map
  obtain ⟨es0, clock, hb0, -⟩ := hm
  have := hb0.symm.trans h2
  simp at this
/-- A slice of bytes as a string, nil and empty let in. -/
theorem conv_all {w : World} {A : Option Addr} {c : Nat} {l : List Int} (h : Sl w .u8 A l) (hb : ∀ x ∈ l, 0 ≤ x ∧ x < 256) : (convert 23 9 (.slice A l.length c)).run Try.prog w = .ok (.string (strB l)) w := by
  rcases l with _ | ⟨x, t⟩
  · exact run_convert_bytes_zero w 23 5 Try.underlying23 Try.underlying5 A c 9 Try.underlying9
  · obtain ⟨ad, rfl⟩ := h.some_ (by simp)
    have := run_convert_bytes_back (P := Try.prog) w 23 9 5 ad c ((x :: t).map fun x => UInt8.ofNat x.toNat) Try.underlying23 Try.underlying5 Try.underlying9 (fun j hj => by
      have hj' : j < (x :: t).length := by simpa using hj
      rw [h.at_ hj']
      have h1 := hb (x :: t)[j] (List.getElem_mem _)
      rw [List.getElem_map, UInt8.toNat_ofNat']
      congr 2
      omega)
    rw [List.length_map] at this
    exact this
end Go.Proofs.Ytbdhdnkpdpcgnaa
