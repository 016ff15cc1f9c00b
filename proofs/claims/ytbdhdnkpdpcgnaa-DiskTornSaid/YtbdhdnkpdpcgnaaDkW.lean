/- Worlds in which files lie: how a file's value reads, and what keeps it. -/
import Derived.Test.YtbdhdnkpdpcgnaaDkM
import Derived.Test.YtbdhdnkpdpcgnaaAppB
import Derived.Maps.OwnSet
import Derived.Maps.AppendAt
import Derived.ArgAppend
import Derived.Laws.Rows
namespace Go.Proofs.Ytbdhdnkpdpcgnaa
set_option linter.unusedVariables false
open Go.RowKit
variable {FR : Nat → Prop}
/-- No block. -/
abbrev Nobody : Nat → Prop := fun _ => False
/-- All cells stay, but those of the blocks FR (rows of another's own). -/
structure Stays (FR : Nat → Prop) (w w' : World) : Prop where
  size : w.heap.size ≤ w'.heap.size
  cell : ∀ p v, ¬ FR p.block → w.cell? p = some v → w'.cell? p = some v
theorem Stays.refl (w : World) : Stays FR w w := ⟨Nat.le_refl _, fun _ _ _ h => h⟩
theorem Stays.trans {a b c : World} (h : Stays FR a b) (k : Stays FR b c) : Stays FR a c := ⟨Nat.le_trans h.size k.size, fun p v hf hp => k.cell p v hf (h.cell p v hf hp)⟩
theorem Stays.below {w w' : World} (h : Below w.heap.size w w') : Stays FR w w' := ⟨h.size, fun p v _ hp => (h.cell (World.block_lt_of_cell? _ _ hp)).trans hp⟩
theorem Stays.drewN (w : World) (q : Nat) : Stays FR w (w.drewN q) := ⟨Nat.le_refl _, fun _ _ _ h => h⟩
theorem Stays.drew (w : World) : Stays FR w w.drew := ⟨Nat.le_refl _, fun _ _ _ h => h⟩
theorem Stays.alloc (w : World) (o : Obj) : Stays FR w (w.alloc o) := ⟨by simp, fun p v _ hp => (World.cell?_alloc_lt w o p (World.block_lt_of_cell? _ _ hp)).trans hp⟩
theorem Stays.grown {w w' : World} {b : Nat} {es : Array MapEntry} {clock : Nat} (hb : w.heap[b]? = some (.map es clock)) (hg : w.grownBy w' (some b)) : Stays FR w w' := ⟨hg.size, fun p v _ hp => by
  have hne : p.block ≠ b := by
    intro e
    unfold World.cell? at hp
    rw [e, hb] at hp
    simp at hp
  exact hg.cell hp (fun e => hne (by injection e))⟩
theorem Sl.stays {w w' : World} {k : IntKind} {A : Option Addr} {xs : List Int} (h : Sl w k A xs) (hf : xs ≠ [] → ∀ ad, A = some ad → ¬ FR ad.block) (hs : Stays FR w w') : Sl w' k A xs := fun j hj => by
  obtain ⟨ad, e, hb, hc⟩ := h j hj
  exact ⟨ad, e, Nat.lt_of_lt_of_le hb hs.size, hs.cell _ _ (by rw [add_block]; exact hf (fun e => by rw [e] at hj; simp at hj) ad e) hc⟩
/-- A slice of bytes. -/
structure BSl (FR : Nat → Prop) (w : World) (A : Option Addr) (c : Nat) (l : List Int) : Prop where
  sl : Sl w .u8 A l
  none_ : A = none → c = 0
  le : l.length ≤ c
  cap : c ≤ maxLen
  far : l ≠ [] → ∀ ad, A = some ad → ¬ FR ad.block
theorem BSl.stays {w w' : World} {A : Option Addr} {c : Nat} {l : List Int} (h : BSl FR w A c l) (hs : Stays FR w w') : BSl FR w' A c l := ⟨h.1.stays h.far hs, h.2, h.3, h.4, h.5⟩
theorem BSl.nil (w : World) : BSl FR w none 0 [] := ⟨Sl.nil _ _ _, fun _ => rfl, Nat.le_refl _, by decide, fun h => absurd rfl h⟩
theorem BSl.own {base : Nat} {w : World} {B : Option Addr} {d : Nat} {l : List Int} (hf : ∀ x, FR x → x < base) (h : OwnB base w B d l) : BSl FR w B d l := by
  obtain ⟨B1, d1, e1, e2, e3⟩ := own_form h
  injection e1 with _ _ e4
  refine ⟨h.sl, h.nil_cap, by omega, by omega, fun hl ad e hx => ?_⟩
  obtain ⟨ad', rfl⟩ := h.sl.some_ hl
  injection e with e
  subst e
  have hb := h.2
  rcases hb with ⟨e, _⟩ | ⟨g, cap, cur, e, hb, _⟩
  · cases e
  · injection e with e
    injection e with e
    subst e
    have := hf _ hx
    simp only at this
    omega
/-- The cells of changes. -/
def CellsC (FR : Nat → Prop) (w : World) : List Chg → List Value → Prop
  | c :: cs, v1 :: v2 :: v3 :: vs => v1 = .bool c.whole ∧ v2 = .bool c.gone ∧ (∃ B d, v3 = .slice B c.b.length d ∧ BSl FR w B d c.b) ∧ CellsC FR w cs vs
  | [], [] => True
  | _, _ => False
theorem CellsC.stays {w w' : World} (hs : Stays FR w w') : ∀ {cs : List Chg} {vs : List Value}, CellsC FR w cs vs → CellsC FR w' cs vs
  | c :: cs, v1 :: v2 :: v3 :: vs, ⟨h1, h2, ⟨B, d, h3, h4⟩, h5⟩ => ⟨h1, h2, ⟨B, d, h3, h4.stays hs⟩, CellsC.stays hs h5⟩
  | [], [], _ => trivial
  | [], _ :: _, h => h.elim
  | _ :: _, [], h => h.elim
  | _ :: _, [_], h => h.elim
  | _ :: _, [_, _], h => h.elim
theorem CellsC.len {w : World} : ∀ {cs : List Chg} {vs : List Value}, CellsC FR w cs vs → vs.length = cs.length * 3
  | c :: cs, v1 :: v2 :: v3 :: vs, ⟨_, _, _, h5⟩ => by have := CellsC.len h5; simp; omega
  | [], [], _ => rfl
  | [], _ :: _, h => h.elim
  | _ :: _, [], h => h.elim
  | _ :: _, [_], h => h.elim
  | _ :: _, [_, _], h => h.elim
theorem CellsC.one {w : World} : ∀ {cs : List Chg} {vs : List Value}, CellsC FR w cs vs → ∀ u ∈ vs, u.oneCell' = true
  | c :: cs, v1 :: v2 :: v3 :: vs, ⟨h1, h2, ⟨B, d, h3, _⟩, h5⟩ => fun u hu => by
    rcases List.mem_cons.1 hu with rfl | hu
    · rw [h1]; rfl
    rcases List.mem_cons.1 hu with rfl | hu
    · rw [h2]; rfl
    rcases List.mem_cons.1 hu with rfl | hu
    · rw [h3]; rfl
    · exact CellsC.one h5 u hu
  | [], [], _ => fun u hu => by simp at hu
  | [], _ :: _, h => h.elim
  | _ :: _, [], h => h.elim
  | _ :: _, [_], h => h.elim
  | _ :: _, [_, _], h => h.elim
theorem CellsC.app {w : World} {ds : List Chg} {us : List Value} (k : CellsC FR w ds us) : ∀ {cs : List Chg} {vs : List Value}, CellsC FR w cs vs → CellsC FR w (cs ++ ds) (vs ++ us)
  | c :: cs, v1 :: v2 :: v3 :: vs, ⟨h1, h2, h3, h5⟩ => ⟨h1, h2, h3, CellsC.app k h5⟩
  | [], [], _ => k
  | [], _ :: _, h => h.elim
  | _ :: _, [], h => h.elim
  | _ :: _, [_], h => h.elim
  | _ :: _, [_, _], h => h.elim
theorem CellsC.at_ {w : World} : ∀ {cs : List Chg} {vs : List Value}, CellsC FR w cs vs → ∀ j (hj : j < cs.length), vs[j * 3]? = some (.bool cs[j].whole) ∧ vs[j * 3 + 1]? = some (.bool cs[j].gone) ∧ ∃ B d, vs[j * 3 + 2]? = some (.slice B cs[j].b.length d) ∧ BSl FR w B d cs[j].b
  | c :: cs, v1 :: v2 :: v3 :: vs, ⟨h1, h2, ⟨B, d, h3, h4⟩, h5⟩, 0, _ => ⟨by simp [h1], by simp [h2], B, d, by simp [h3], h4⟩
  | c :: cs, v1 :: v2 :: v3 :: vs, ⟨_, _, _, h5⟩, j + 1, hj => by
    have := CellsC.at_ h5 j (by simpa using hj)
    rw [show (j + 1) * 3 = j * 3 + 3 by omega]
    simpa using this
  | [], [], _, j, hj => absurd hj (by simp)
  | [], _ :: _, h, _, _ => h.elim
  | _ :: _, [], h, _, _ => h.elim
  | _ :: _, [_], h, _, _ => h.elim
  | _ :: _, [_, _], h, _, _ => h.elim
/-- A slice of changes. -/
def SlC (FR : Nat → Prop) (w : World) (L : Option Addr) (cs : List Chg) : Prop :=
  cs = [] ∨ ∃ ad vs, L = some ad ∧ CellsC FR w cs vs ∧ (∀ j u, vs[j]? = some u → w.cell? (ad.add j) = some u) ∧ ¬ FR ad.block
theorem SlC.nil (w : World) (L : Option Addr) : SlC FR w L [] := .inl rfl
theorem SlC.stays {w w' : World} {L : Option Addr} {cs : List Chg} (h : SlC FR w L cs) (hs : Stays FR w w') : SlC FR w' L cs := by
  rcases h with h | ⟨ad, vs, h1, h2, h3, h4⟩
  · exact .inl h
  · exact .inr ⟨ad, vs, h1, h2.stays hs, fun j u hu => hs.cell _ _ (by rw [add_block]; exact h4) (h3 j u hu), h4⟩
theorem SlC.at_ {w : World} {L : Option Addr} {cs : List Chg} (h : SlC FR w L cs) (j : Nat) (hj : j < cs.length) : ∃ ad B d, L = some ad ∧ w.cell? (ad.add (j * 3)) = some (.bool cs[j].whole) ∧ w.cell? (ad.add (j * 3 + 1)) = some (.bool cs[j].gone) ∧
    w.cell? (ad.add (j * 3 + 2)) = some (.slice B cs[j].b.length d) ∧ BSl FR w B d cs[j].b := by
  rcases h with rfl | ⟨ad, vs, h1, h2, h3, _⟩
  · simp at hj
  · obtain ⟨e1, e2, B, d, e3, e4⟩ := h2.at_ j hj
    exact ⟨ad, B, d, h1, h3 _ _ e1, h3 _ _ e2, h3 _ _ e3, e4⟩
/-- append(clipped, c): its run: always a new row. -/
theorem infoC : (Try.prog.info? 49).map (fun i => (i.zero, i.size, i.bytes)) = some (some (.agg #[.bool false, .bool false, .slice none 0 0]), 3, 32) := by kernel_rfl
theorem appC_run (W0 w : World) (hs0 : Stays FR W0 w) (L : Option Addr) (cs : List Chg) (c : Chg) (news : List Value) (a : Addr) (h : SlC FR W0 L cs) (hc : CellsC FR W0 [c] news) (hn : ∀ j u, news[j]? = some u → w.cell? (a.add j) = some u) (hlen : cs.length ≤ 1000000) (ty : TypeId) :
    ∃ g e w' vs, (Builtin.append_ #[42, 42] ty #[.slice L cs.length cs.length, .slice (some a) 1 1]).run Try.prog w = .ok (.slice (some ⟨g, 0, none⟩) (cs.length + 1) e) w' ∧
      CellsC FR W0 (cs ++ [c]) vs ∧ (∀ j u, vs[j]? = some u → w'.cell? ⟨g, j, none⟩ = some u) ∧ w.heap.size ≤ g ∧ cs.length + 1 ≤ e ∧ e ≤ maxLen ∧ Below w.heap.size w w' := by
  obtain ⟨i0, hi, hz0, hz1, hz2⟩ := info_parts infoC
  have key : ∀ (v' : Value) (w' : World) (olds : List Value), CellsC FR W0 cs olds → w'.ownsRow w.heap.size 49 3 v' (cs.length + 1) (olds ++ news) → w.grownBy w' none →
      ∃ g e vs, v' = .slice (some ⟨g, 0, none⟩) (cs.length + 1) e ∧ CellsC FR W0 (cs ++ [c]) vs ∧ (∀ j u, vs[j]? = some u → w'.cell? ⟨g, j, none⟩ = some u) ∧ w.heap.size ≤ g ∧ cs.length + 1 ≤ e ∧ e ≤ maxLen ∧ Below w.heap.size w w' := by
    intro v' w' olds ho hrow hg
    have hb : Below w.heap.size w w' := (Below.refl _ w).grown hg (Nat.le_refl _) (fun k hk => by cases hk)
    rcases hrow.2 with ⟨_, e0⟩ | ⟨g, cap, cur, e, hbase, h1, h2, h3, h4, h5⟩
    · omega
    · refine ⟨g, cap, olds ++ news, e, hc.app ho, fun j u hu => ?_, hbase, h2, h3, hb⟩
      rw [← h5, List.getElem?_take] at hu
      split at hu
      · rw [cell_of_row w' g j cur _ (0, 0) h1]
        simpa using hu
      · cases hu
  rcases h with rfl | ⟨ad, olds, rfl, ho, hcell, hfar⟩
  · cases L with
    | none =>
      obtain ⟨v', w', hrun, hown, hgrow, -, -⟩ := run_append_own_at w w.heap.size 42 ty 49 i0 _ 3 32 Try.underlying42 hi hz0 hz1 hz2 rfl (by decide) (.slice none 0 0) 0 [] (World.ownsRow_nil _ _ _ _) a 1 1 news (by rw [hc.len]; rfl) hn hc.one (by decide) (by decide) (Nat.le_refl _)
      obtain ⟨g, e, vs, rfl, r⟩ := key v' w' [] trivial hown (by simpa [Value.ownBlock] using hgrow)
      exact ⟨g, e, w', vs, hrun, r⟩
    | some ad =>
      obtain ⟨v', w', hrun, hown, hgrow⟩ := run_append_arg_grows (w := w) 42 ty 49 i0 _ 3 32 Try.underlying42 hi hz0 hz1 hz2 rfl (by decide) ad 0 0 [] rfl (fun j u hu => by simp at hu) a 1 1 news (by rw [hc.len]; rfl) hn (by decide) (by decide) (by decide)
      obtain ⟨g, e, vs, rfl, r⟩ := key v' w' [] trivial hown hgrow
      exact ⟨g, e, w', vs, hrun, r⟩
  · obtain ⟨v', w', hrun, hown, hgrow⟩ := run_append_arg_grows (w := w) 42 ty 49 i0 _ 3 32 Try.underlying42 hi hz0 hz1 hz2 rfl (by decide) ad cs.length cs.length olds ho.len (fun j u hu => hs0.cell _ _ (by rw [add_block]; exact hfar) (hcell j u hu)) a 1 1 news (by rw [hc.len]; rfl) hn (by omega) (by unfold maxLen; omega) (by omega)
    obtain ⟨g, e, vs, rfl, r⟩ := key v' w' olds ho hown hgrow
    exact ⟨g, e, w', vs, hrun, r⟩
/-- A file's value. -/
structure FilV (FR : Nat → Prop) (w : World) (A : Option Addr) (c : Nat) (B : Option Addr) (d : Nat) (L : Option Addr) (e : Nat) (f : Fil) : Prop where
  sure : BSl FR w A c f.sure
  now : BSl FR w B d f.now
  loose : SlC FR w L f.loose
  none_ : L = none → e = 0
  le : f.loose.length ≤ e
  cap : e ≤ maxLen
theorem FilV.stays {w w' : World} {A : Option Addr} {c : Nat} {B : Option Addr} {d : Nat} {L : Option Addr} {e : Nat} {f : Fil} (h : FilV FR w A c B d L e f) (hs : Stays FR w w') : FilV FR w' A c B d L e f :=
  ⟨h.1.stays hs, h.2.stays hs, h.3.stays hs, h.4, h.5, h.6⟩
theorem FilV.no (w : World) : FilV FR w none 0 none 0 none 0 noFil := ⟨BSl.nil w, BSl.nil w, SlC.nil _ _, fun _ => rfl, Nat.le_refl _, by decide⟩
def filVal (A : Option Addr) (c : Nat) (B : Option Addr) (d : Nat) (L : Option Addr) (e : Nat) (f : Fil) : Value :=
  .agg #[.slice A f.sure.length c, .slice B f.now.length d, .bool f.isSure, .bool f.isNow, .slice L f.loose.length e]
def FileV (FR : Nat → Prop) (w : World) (v : Value) (f : Fil) : Prop := ∃ A c B d L e, v = filVal A c B d L e f ∧ FilV FR w A c B d L e f
theorem FileV.stays {w w' : World} {v : Value} {f : Fil} (h : FileV FR w v f) (hs : Stays FR w w') : FileV FR w' v f := by
  obtain ⟨A, c, B, d, L, e, rfl, h⟩ := h
  exact ⟨A, c, B, d, L, e, rfl, h.stays hs⟩
def zeroFil : Value := .agg #[.slice none 0 0, .slice none 0 0, .bool false, .bool false, .slice none 0 0]
/-- Elements as they are. -/
def rawR (v : Value) : Option (DataW Value × List MemPlace) := some (.held v, [])
def DSt (FR : Nat → Prop) (w : World) : List (Lit × DataW Value) → Files → Prop
  | p :: es, q :: st => p.1 = .string q.1 ∧ (∃ v, p.2 = .held v ∧ FileV FR w v q.2) ∧ DSt FR w es st
  | [], [] => True
  | _, _ => False
theorem DSt.stays {w w' : World} (hs : Stays FR w w') : ∀ {es : List (Lit × DataW Value)} {st : Files}, DSt FR w es st → DSt FR w' es st
  | p :: es, q :: st, ⟨h1, ⟨v, h2, h3⟩, h4⟩ => ⟨h1, ⟨v, h2, h3.stays hs⟩, DSt.stays hs h4⟩
  | [], [], _ => trivial
  | [], _ :: _, h => h.elim
  | _ :: _, [], h => h.elim
theorem DSt.keys {w : World} : ∀ {es : List (Lit × DataW Value)} {st : Files}, DSt FR w es st → strKeys (.map es) = st.map (·.1)
  | p :: es, q :: st, ⟨h1, _, h4⟩ => by
    have := DSt.keys h4
    simp only [strKeys] at this ⊢
    rw [List.map_cons, List.map_cons, this, h1]
    rfl
  | [], [], _ => rfl
  | [], _ :: _, h => h.elim
  | _ :: _, [], h => h.elim
theorem DSt.size {w : World} : ∀ {es : List (Lit × DataW Value)} {st : Files}, DSt FR w es st → es.length = st.length
  | p :: es, q :: st, ⟨h1, _, h4⟩ => by simp [DSt.size h4]
  | [], [], _ => rfl
  | [], _ :: _, h => h.elim
  | _ :: _, [], h => h.elim
theorem DSt.get {w : World} (k : Key) : ∀ {es : List (Lit × DataW Value)} {st : Files}, DSt FR w es st → ∃ v, (DataW.map es).atKey (.string k) (.held zeroFil) = .held v ∧ FileV FR w v (stGet st k)
  | p :: es, q :: st, ⟨h1, ⟨v, h2, h3⟩, h4⟩ => by
    obtain ⟨v', h5, h6⟩ := DSt.get k h4
    rw [stGet_cons]
    by_cases hk : (q.1 == k) = true
    · rw [if_pos hk]
      refine ⟨v, ?_, h3⟩
      simp only [DataW.atKey, List.find?_cons]
      rw [h1]
      simp only [Lit.sameKey, hk, h2]
    · rw [if_neg hk]
      refine ⟨v', ?_, h6⟩
      simp only [DataW.atKey, List.find?_cons] at h5 ⊢
      rw [h1]
      simp only [Lit.sameKey, Bool.not_eq_true] at hk ⊢
      rw [hk]
      exact h5
  | [], [], _ => ⟨zeroFil, rfl, none, 0, none, 0, none, 0, rfl, FilV.no w⟩
  | [], _ :: _, h => h.elim
  | _ :: _, [], h => h.elim
theorem DSt.has {w : World} (k : Key) : ∀ {es : List (Lit × DataW Value)} {st : Files}, DSt FR w es st → Maps.has (.map es) (.string k) = stHas st k
  | p :: es, q :: st, ⟨h1, _, h4⟩ => by
    have h5 := DSt.has k h4
    rw [Maps.has_eq] at h5 ⊢
    unfold stHas at h5 ⊢
    rw [List.any_cons, List.any_cons, h5, h1]
    rfl
  | [], [], _ => rfl
  | [], _ :: _, h => h.elim
  | _ :: _, [], h => h.elim
theorem DSt.del {w : World} (k : Key) : ∀ {es : List (Lit × DataW Value)} {st : Files}, DSt FR w es st → DSt FR w (es.filter fun p => !p.1.sameKey (.string k)) (stDel st k)
  | p :: es, q :: st, ⟨h1, h2, h4⟩ => by
    have h5 := DSt.del k h4
    unfold stDel at h5 ⊢
    rw [List.filter_cons, List.filter_cons, h1]
    by_cases hk : (q.1 == k) = true
    · simp only [Lit.sameKey, hk]; exact h5
    · rw [Bool.not_eq_true] at hk
      simp only [Lit.sameKey, hk]; exact ⟨h1, h2, h5⟩
  | [], [], _ => trivial
  | [], _ :: _, h => h.elim
  | _ :: _, [], h => h.elim
theorem DSt.ins {w : World} (k : Key) (f : Fil) (v : Value) (hv : FileV FR w v f) : ∀ {es : List (Lit × DataW Value)} {st : Files}, DSt FR w es st → DSt FR w (DataW.insert (.string k, .held v) es) (stIns (k, f) st)
  | p :: es, q :: st, ⟨h1, h2, h4⟩ => by
    have h5 := DSt.ins k f v hv h4
    have hb : (Lit.string k).before p.1 = bytesBefore k q.1 := by rw [h1]; rfl
    have e1 : DataW.insert ((Lit.string k, DataW.held v) : Lit × DataW Value) (p :: es) = if (Lit.string k).before p.1 = true then (Lit.string k, DataW.held v) :: p :: es else p :: DataW.insert (Lit.string k, DataW.held v) es := rfl
    have e2 : stIns (k, f) (q :: st) = if bytesBefore k q.1 = true then (k, f) :: q :: st else q :: stIns (k, f) st := rfl
    rw [e1, e2]
    by_cases hk : bytesBefore k q.1 = true
    · rw [if_pos (hb.trans hk), if_pos hk]; exact ⟨rfl, ⟨v, rfl, hv⟩, h1, h2, h4⟩
    · rw [if_neg (fun e => hk (hb.symm.trans e)), if_neg hk]; exact ⟨h1, h2, h5⟩
  | [], [], _ => ⟨rfl, ⟨v, rfl, hv⟩, trivial⟩
  | [], _ :: _, h => h.elim
  | _ :: _, [], h => h.elim
theorem DSt.put {w : World} {es : List (Lit × DataW Value)} {st : Files} (h : DSt FR w es st) (k : Key) (f : Fil) (v : Value) (hv : FileV FR w v f) : ∃ es', (DataW.map es).put (.string k) (.held v) = .map es' ∧ DSt FR w es' (stPut st k f) :=
  ⟨_, rfl, (h.del k).ins k f v hv⟩
/-- A disk, and its files. -/
structure DiskAt (FR : Nat → Prop) (w : World) (g b : Nat) (st : Files) : Prop where
  row : Row w g 39 #[.map (some b)]
  map : ∃ es, w.ownsMap Try.prog 9 rawR b es.length (.map es) ∧ DSt FR w es st
  far : ∀ x, FR x → x < w.heap.size
end Go.Proofs.Ytbdhdnkpdpcgnaa
