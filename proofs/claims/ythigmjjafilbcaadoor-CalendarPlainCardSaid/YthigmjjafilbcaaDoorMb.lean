/- Opening struct arguments field by field: plain lemmas on readings. Opening an argument that is a slice of integers. Opening an argument that is a calendar: a byte and two slices of integers. Opening an argument that is an expression: five fields, of bits and a star each. The last step of a law's row where the call answers true and leaves all old memory as it was: every argument that can be read reads as it did. -/
import Derived.Test.YthigmjjafilbcaaDoorRows
import Derived.WalkKit
import Derived.ProofKit
import Derived.OpenShut
import Derived.Carry
import Derived.Lib.SmallJoins
import Derived.Test.YthigmjjafilbcaaDoorMa
import Derived.ChangeSlices
import Derived.Test.YthigmjjafilbcaaDoorCaO
import Derived.Test.YthigmjjafilbcaaDoorCaG
import Derived.ChangeSame
import Derived.Below
namespace Go.Proofs.YthigmjjafilbcaaDoor
set_option linter.unusedVariables false
open Go.RowKit Go.WideShapes Go.ChangeShapes
section
variable {H : Type} {enc : TypeId × Value → H} {P : Program} {w : World} {base : Nat} {spare : Nat → Bool} {held : Bool}
/-- A field of a struct that can be read can be read. -/
theorem field_of {fs : Array Field} {t : TypeId} {fuel : Nat} {cs : List Value} {x : DataW H × List MemPlace} (ht : P.underlying t = some (.struct fs)) (h : DataW.trod enc P w base spare held fuel t cs = some x) (i : Nat) (f : Field) (hf : fs[i]? = some f) :
    ∃ n y, DataW.trod enc P w base spare held n f.type ((cs.drop f.offset).take (P.cellsOf f.type)) = some y := by
  obtain ⟨xs, n, _, rfl, hl, hlen, hall⟩ := DataW.trod_struct ht h
  have := hall i f hf
  have hi : i < xs.length := by
    rw [hlen]
    by_cases hlt : i < fs.size
    · exact hlt
    · rw [Array.getElem?_eq_none (by omega)] at hf; cases hf
  rw [List.getElem?_eq_getElem hi] at this
  exact ⟨n, _, this⟩
/-- .. and a field of an integer kind holds an integer of the kind. -/
theorem int_of {fs : Array Field} {t : TypeId} {fuel : Nat} {cs : List Value} {x : DataW H × List MemPlace} {k : IntKind} (ht : P.underlying t = some (.struct fs)) (h : DataW.trod enc P w base spare held fuel t cs = some x) (i : Nat) (f : Field) (hf : fs[i]? = some f)
    (hk : P.underlying f.type = some (.int k)) : ∃ n, (cs.drop f.offset).take (P.cellsOf f.type) = [.int k n] ∧ (Lit.int k n).wf = true := by
  obtain ⟨n, y, hy⟩ := field_of ht h i f hf
  obtain ⟨m, e1, _, e3⟩ := DataW.trod_int hk hy
  exact ⟨m, e1, e3⟩
theorem array7 {cs : Array Value} (h : cs.size = 7) : ∃ a b c d e f g, cs = #[a, b, c, d, e, f, g] := by
  obtain ⟨l⟩ := cs
  match l, h with
  | [a, b, c, d, e, f, g], _ => exact ⟨a, b, c, d, e, f, g, rfl⟩
end
end Go.Proofs.YthigmjjafilbcaaDoor
namespace Go.Proofs.YthigmjjafilbcaaDoor
set_option linter.unusedVariables false
open Go.RowKit Go.WideShapes Go.ChangeShapes
theorem open_row {H : Type} {enc : TypeId × Value → H} {P : Program} {W : World} {base : Nat} {t e : TypeId} {k : IntKind} {v : Value} {d : DataW H} {p : List MemPlace} (ht : P.underlying t = some (.slice e)) (he : P.underlying e = some (.int k)) (hc : P.cellsOf e = 1)
    (hval : Value.okWide P W .any base t v) (h : DataW.Trod enc P W 0 (fun _ => true) true t v d p) :
    ∃ (A : Option Addr) (c : Nat) (l : List Int), v = .slice A l.length c ∧ Sl W k A l ∧ l.length ≤ c ∧ c ≤ maxLen ∧ (∀ x ∈ l, (Lit.int k x).wf = true) ∧ (A = none → c = 0) := by
  obtain ⟨a1, len, cap, rfl⟩ := okWide_slice ht hval
  obtain ⟨fuel, hf⟩ := h
  rcases open_ints ht he hc hf with ⟨hcs, hx⟩ | ⟨a, len', cap', zs, hcs, _, hl, hm, hz, hx, hcell, hwz⟩
  · simp [Value.cells] at hcs
    obtain ⟨rfl, rfl, rfl⟩ := hcs
    exact ⟨none, 0, [], rfl, Sl.nil _ _ _, Nat.le_refl _, Nat.zero_le _, fun x hx => by simp at hx, fun _ => rfl⟩
  · simp [Value.cells] at hcs
    obtain ⟨rfl, rfl, rfl⟩ := hcs
    simp only [if_true] at hz
    have hlen : (zs.take len).length = len := by rw [List.length_take]; omega
    refine ⟨some a, cap, zs.take len, by rw [hlen], fun j hj => ?_, by omega, hm, fun x hx => hwz x (List.mem_of_mem_take hx), fun e => by cases e⟩
    rw [hlen] at hj
    have hcj := hcell j (by omega)
    have hb := World.block_lt_of_cell? _ _ hcj
    rw [add_block] at hb
    refine ⟨a, rfl, hb, ?_⟩
    rw [hcj, List.getElem_take]
    simp [List.getElem?_eq_getElem (show j < zs.length by omega)]
theorem wf_u64 {x : Int} (h : (Lit.int .u64 x).wf = true) : 0 ≤ x ∧ x < 18446744073709551616 := by
  have := bounds_u64 h
  omega
theorem wf_u8 {x : Int} (h : (Lit.int .u8 x).wf = true) : 0 ≤ x ∧ x < 256 := by
  have := bounds_u8 h
  omega
end Go.Proofs.YthigmjjafilbcaaDoor
namespace Go.Proofs.YthigmjjafilbcaaDoor
set_option linter.unusedVariables false
set_option maxRecDepth 100000
open Go.RowKit Go.WideShapes Go.ChangeShapes
section
variable {H : Type} {enc : TypeId × Value → H} {P : Program} {w : World} {base : Nat}
/-- A field that is a slice of integers. -/
theorem row_of {fs : Array Field} {t e : TypeId} {fuel : Nat} {cs : List Value} {x : DataW H × List MemPlace} {k : IntKind} (ht : P.underlying t = some (.struct fs)) (h : DataW.trod enc P w base (fun _ => true) true fuel t cs = some x) (i : Nat) (f : Field) (hf : fs[i]? = some f)
    (hk : P.underlying f.type = some (.slice e)) (he : P.underlying e = some (.int k)) (hc : P.cellsOf e = 1) :
    ∃ (A : Option Addr) (c : Nat) (l : List Int), (cs.drop f.offset).take (P.cellsOf f.type) = [.slice A l.length c] ∧ Sl w k A l ∧ l.length ≤ c ∧ c ≤ maxLen ∧ (∀ x ∈ l, (Lit.int k x).wf = true) := by
  obtain ⟨n, y, hy⟩ := field_of ht h i f hf
  rcases open_ints hk he hc hy with ⟨hcs, hx⟩ | ⟨a, len', cap', zs, hcs, _, hl, hm, hz, hx, hcell, hwz⟩
  · exact ⟨none, 0, [], hcs, Sl.nil _ _ _, Nat.le_refl _, Nat.zero_le _, fun x hx => by simp at hx⟩
  · simp only [if_true] at hz
    have hlen : (zs.take len').length = len' := by rw [List.length_take]; omega
    refine ⟨some a, cap', zs.take len', by rw [hlen]; exact hcs, fun j hj => ?_, by omega, hm, fun x hx => hwz x (List.mem_of_mem_take hx)⟩
    rw [hlen] at hj
    have hcj := hcell j (by omega)
    have hb := World.block_lt_of_cell? _ _ hcj
    rw [add_block] at hb
    refine ⟨a, rfl, hb, ?_⟩
    rw [hcj, List.getElem_take]
    simp [List.getElem?_eq_getElem (show j < zs.length by omega)]
end
theorem array3 {cs : Array Value} (h : cs.size = 3) : ∃ a b c, cs = #[a, b, c] := by
  obtain ⟨l⟩ := cs
  match l, h with
  | [a, b, c], _ => exact ⟨a, b, c, rfl⟩
theorem cellsCal : Tryd.prog.cellsOf 24 = 3 := by kernel_rfl
theorem cellsU8 : Tryd.prog.cellsOf 5 = 1 := by kernel_rfl
theorem cellsInts : Tryd.prog.cellsOf 22 = 1 := by kernel_rfl
theorem open_cal {H : Type} {enc : TypeId × Value → H} {W : World} {base : Nat} {v : Value} {d : DataW H} {p : List MemPlace}
    (hval : Value.okWide Tryd.prog W .any base 24 v) (h : DataW.Trod enc Tryd.prog W 0 (fun _ => true) true 24 v d p) :
    ∃ (k : Nat) (A : Option Addr) (cA : Nat) (off : List Int) (B : Option Addr) (cB : Nat) (on : List Int), v = .agg #[.int .u8 k, .slice A off.length cA, .slice B on.length cB] ∧ k < 256 ∧ Sl W .i64 A off ∧ Sl W .i64 B on ∧ (∀ x ∈ off, (Lit.int .i64 x).wf = true) ∧ (∀ x ∈ on, (Lit.int .i64 x).wf = true) := by
  obtain ⟨cs, rfl, hs⟩ := okWide_struct Tryd.underlying24 hval
  obtain ⟨c0, c1, c2, rfl⟩ := array3 (hs.trans cellsCal)
  obtain ⟨fuel, hf⟩ := h
  obtain ⟨x0, e0, w0⟩ := int_of Tryd.underlying24 hf 0 _ rfl Tryd.underlying5
  obtain ⟨A, ca, off, e1, s1, l1, m1, w1⟩ := row_of Tryd.underlying24 hf 1 _ rfl Tryd.underlying22 Tryd.underlying3 (by kernel_rfl)
  obtain ⟨B, cb, on, e2, s2, l2, m2, w2⟩ := row_of Tryd.underlying24 hf 2 _ rfl Tryd.underlying22 Tryd.underlying3 (by kernel_rfl)
  simp [Value.cells, cellsU8, cellsInts] at e0 e1 e2
  subst e0 e1 e2
  have hb := wf_u8 w0
  obtain ⟨k, rfl⟩ : ∃ k : Nat, x0 = k := ⟨x0.toNat, by omega⟩
  exact ⟨k, A, ca, off, B, cb, on, rfl, by omega, s1, s2, w1, w2⟩
end Go.Proofs.YthigmjjafilbcaaDoor
namespace Go.Proofs.YthigmjjafilbcaaDoor
set_option linter.unusedVariables false
set_option maxRecDepth 100000
open Go.RowKit Go.WideShapes Go.ChangeShapes
theorem okWide_array {P : Program} {w : World} {r : Reach} {base : Nat} {t e : TypeId} {n : Nat} {v : Value} (ht : P.underlying t = some (.array n e)) (h : Value.okWide P w r base t v) : ∃ cs, v = .agg cs ∧ cs.size = P.cellsOf t := by
  simp only [Value.okWide, ht] at h
  obtain ⟨cs, h1, h2, _⟩ := h
  exact ⟨cs, h1, h2⟩
theorem array10 {cs : Array Value} (h : cs.size = 10) : ∃ a b c d e f g i j k, cs = #[a, b, c, d, e, f, g, i, j, k] := by
  obtain ⟨l⟩ := cs
  match l, h with
  | [a, b, c, d, e, f, g, i, j, k], _ => exact ⟨a, b, c, d, e, f, g, i, j, k, rfl⟩
theorem cellsX : Tryd.prog.cellsOf 29 = 10 := by kernel_rfl
theorem cellsFd : Tryd.prog.cellsOf 27 = 2 := by kernel_rfl
theorem cellsU64 : Tryd.prog.cellsOf 25 = 1 := by kernel_rfl
theorem cellsBo : Tryd.prog.cellsOf 4 = 1 := by kernel_rfl
theorem open_fld {H : Type} {enc : TypeId × Value → H} {W : World} {m : Nat} {a b : Value} {y : DataW H × List MemPlace}
    (h : DataW.trod enc Tryd.prog W 0 (fun _ => true) true m 27 [a, b] = some y) : ∃ (n : Nat) (s : Bool), a = .int .u64 n ∧ b = .bool s ∧ n < 18446744073709551616 := by
  obtain ⟨x0, e0, w0⟩ := int_of Tryd.underlying27 h 0 _ rfl Tryd.underlying25
  obtain ⟨n1, y1, hy1⟩ := field_of Tryd.underlying27 h 1 _ rfl
  obtain ⟨s, e1, _⟩ := DataW.trod_bool Tryd.underlying4 hy1
  simp [cellsU64, cellsBo] at e0 e1
  subst e0 e1
  have hb := wf_u64 w0
  obtain ⟨k, rfl⟩ : ∃ k : Nat, x0 = k := ⟨x0.toNat, by omega⟩
  exact ⟨k, s, rfl, rfl, by omega⟩
theorem open_expr {H : Type} {enc : TypeId × Value → H} {W : World} {base : Nat} {v : Value} {d : DataW H} {p : List MemPlace}
    (hval : Value.okWide Tryd.prog W .any base 29 v) (h : DataW.Trod enc Tryd.prog W 0 (fun _ => true) true 29 v d p) : ∃ x : Xp, v = xpV x ∧ x.Ok := by
  obtain ⟨cs, rfl, hs⟩ := okWide_array Tryd.underlying29 hval
  obtain ⟨c0, c1, c2, c3, c4, c5, c6, c7, c8, c9, rfl⟩ := array10 (hs.trans cellsX)
  obtain ⟨fuel, hf⟩ := h
  obtain ⟨xs, m, _, _, hl, hlen, hall⟩ := DataW.trod_array Tryd.underlying29 hf
  have g : ∀ i, i < 5 → ∃ y, xs[i]? = some y := fun i hi => ⟨_, List.getElem?_eq_getElem (show i < xs.length by omega)⟩
  obtain ⟨y0, q0⟩ := g 0 (by omega)
  obtain ⟨y1, q1⟩ := g 1 (by omega)
  obtain ⟨y2, q2⟩ := g 2 (by omega)
  obtain ⟨y3, q3⟩ := g 3 (by omega)
  obtain ⟨y4, q4⟩ := g 4 (by omega)
  have h0 := (hall 0 (by omega)).trans q0
  have h1 := (hall 1 (by omega)).trans q1
  have h2 := (hall 2 (by omega)).trans q2
  have h3 := (hall 3 (by omega)).trans q3
  have h4 := (hall 4 (by omega)).trans q4
  rw [cellsFd] at h0 h1 h2 h3 h4
  obtain ⟨b0, s0, rfl, rfl, l0⟩ := open_fld h0
  obtain ⟨b1, s1, rfl, rfl, l1⟩ := open_fld h1
  obtain ⟨b2, s2, rfl, rfl, l2⟩ := open_fld h2
  obtain ⟨b3, s3, rfl, rfl, l3⟩ := open_fld h3
  obtain ⟨b4, s4, rfl, rfl, l4⟩ := open_fld h4
  exact ⟨⟨b0, b1, b2, b3, b4, s0, s1, s2, s3, s4⟩, rfl, ⟨l0, l1, l2, l3, l4⟩⟩
end Go.Proofs.YthigmjjafilbcaaDoor
namespace Go.Proofs.YthigmjjafilbcaaDoor
set_option linter.unusedVariables false
open Go.RowKit Go.WideShapes Go.ChangeShapes
section
variable {H : Type} {enc : TypeId × Value → H} {P : Program}

theorem trodAll_below (hl : laidOutB P = true) {W W' : World} (hb : Below W.heap.size W W') : ∀ (ts : List TypeId) (vs : List Value) (ds : List (DataW H)) (ps : List MemPlace),
    (ts.all fun t => P.readableRec t && decide (t < P.types.size)) = true → (∀ x ∈ ps, x.block < W.heap.size) →
    DataW.TrodAll enc P W 0 (fun _ => true) true ts vs ds ps → DataW.TrodAll enc P W' 0 (fun b => decide (b < W.heap.size)) true ts vs ds ps
  | [], vs, ds, ps, _, _, h => by
    cases vs <;> cases ds <;> first | exact h | exact absurd h (by simp [DataW.TrodAll])
  | t :: ts, vs, ds, ps, hr, hlt, h => by
    obtain ⟨v, vs', d, ds', p, q, rfl, rfl, rfl, h1, h2⟩ := trodAll_cons h
    simp only [List.all_cons, Bool.and_eq_true, decide_eq_true_eq] at hr
    refine ⟨p, q, Below.trod hl hr.1.1 hr.1.2 h1 hb (fun x hx => hlt x (List.mem_append.2 (.inl hx))), ?_, rfl⟩
    exact trodAll_below hl hb ts vs' ds' q hr.2 (fun x hx => hlt x (List.mem_append.2 (.inr hx))) h2

theorem trodAll_length {W : World} : ∀ (ts : List TypeId) (vs : List Value) (ds : List (DataW H)) (ps : List MemPlace),
    DataW.TrodAll enc P W 0 (fun _ => true) true ts vs ds ps → ds.length = ts.length
  | [], vs, ds, ps, h => by
    cases vs <;> cases ds <;> first | rfl | exact absurd h (by simp [DataW.TrodAll])
  | t :: ts, vs, ds, ps, h => by
    obtain ⟨v, vs', d, ds', p, q, rfl, rfl, rfl, h1, h2⟩ := trodAll_cons h
    simp only [List.length_cons, trodAll_length ts vs' ds' q h2]

theorem law_post {fn : Func} {s : ChangeSpec} {apart fresh handsOn : Bool} {W W' : World} {args : Array Value} {ds gs : List (DataW H)} {before : List MemPlace} {tb : TypeId}
    (hW : DataW.Whole enc P fn.params.toList s.vars apart W args.toList ds gs before) (hv : s.vars = []) (hl : laidOutB P = true)
    (hr : (fn.params.toList.all fun t => P.readableRec t && decide (t < P.types.size)) = true) (hrt : fn.resultTypes = #[tb]) (htb : P.underlying tb = some .bool)
    (hs : ∀ ds : List (DataW H), ds.length = fn.params.toList.length → s.fn H ds = { results := [.lit (.bool true)], args := ds, vars := [] }) (hb : Below W.heap.size W W') :
    s.post enc P fn apart fresh handsOn false W args (.bool true) W' := by
  have hW' := hW
  obtain ⟨p, q, hA, hV, hpq, hfz, hnd⟩ := hW
  rw [hv] at hV
  obtain ⟨rfl, rfl⟩ := trodVars_none hV
  have hlt : ∀ x ∈ p, x.block < W.heap.size := fun x hx => hW'.lt x (by rw [hpq]; exact List.mem_append.2 (.inl hx))
  have e := hs ds (trodAll_length _ _ _ _ hA)
  refine ⟨ds, [], before, [], p, [], hW', ?_, ?_, ?_, hb.frame _, fun h => by cases h⟩
  · rw [List.append_nil, e, hrt]
    exact trodAll_mk1 (shut_bool htb true)
  · rw [List.append_nil, e]
    exact trodAll_below hl hb _ _ _ _ hr hlt hA
  · rw [List.append_nil, e, hv]
    rfl
end
end Go.Proofs.YthigmjjafilbcaaDoor
