/- A given row of calls (of slots), opened; heavy. -/
import Derived.Test.YtaikjobebbighaaSlW
import Derived.Test.YtaikjobebbighaaMc
import Derived.Deep.Slices
import Derived.ChangeMaps5
namespace Go.Proofs.Ytaikjobebbighaa
set_option linter.unusedVariables false
set_option maxRecDepth 100000
open Go.RowKit Go.WideShapes Go.ChangeShapes
/-- A call. -/
structure Dc where
  kind : Int
  name : Key
  tok : Int
  n : Int
def enD (x : Dc) : List Value := [.int .u8 x.kind, nm x.name, .int .u64 x.tok, .int .i64 x.n]
theorem enD_len (x : Dc) : (enD x).length = 4 := rfl
abbrev DoS (w : World) (A : Option Addr) (l : List Dc) : Prop := RkS enD 4 w A l
section
variable {H : Type} {enc : TypeId × Value → H} {P : Program} {W : World}
theorem take_one {cs : List Value} {i : Nat} {v : Value} (h : (cs.drop i).take 1 = [v]) : cs[i]? = some v := by
  have := congrArg (fun l => l[0]?) h
  simpa [List.getElem?_take, List.getElem?_drop] using this
theorem string_of {fs : Array Field} {t : TypeId} {fuel : Nat} {cs : List Value} {w : World} {base : Nat} {spare : Nat → Bool} {held : Bool} {x : DataW H × List MemPlace} (ht : P.underlying t = some (.struct fs)) (h : DataW.trod enc P w base spare held fuel t cs = some x) (i : Nat) (f : Field) (hf : fs[i]? = some f)
    (hk : P.underlying f.type = some .string) : ∃ s : ByteArray, (cs.drop f.offset).take (P.cellsOf f.type) = [.string s] ∧ s.size ≤ maxLen := by
  obtain ⟨n, y, hy⟩ := field_of ht h i f hf
  obtain ⟨m, e1, _, e3⟩ := DataW.trod_string hk hy
  exact ⟨m, e1, e3⟩
theorem nm_of (s : ByteArray) : Value.string s = nm s.data.toList := by simp
theorem open_dos {base : Nat} {t e : TypeId} {f0 f1 f2 f3 : Field} {v : Value} {d : DataW H} {p : List MemPlace} (ht : P.underlying t = some (.slice e)) (he : P.underlying e = some (.struct #[f0, f1, f2, f3])) (ce : P.cellsOf e = 4) (o0 : f0.offset = 0) (o1 : f1.offset = 1) (o2 : f2.offset = 2) (o3 : f3.offset = 3)
    (c0 : P.cellsOf f0.type = 1) (c1 : P.cellsOf f1.type = 1) (c2 : P.cellsOf f2.type = 1) (c3 : P.cellsOf f3.type = 1) (h0 : P.underlying f0.type = some (.int .u8)) (h1 : P.underlying f1.type = some .string) (h2 : P.underlying f2.type = some (.int .u64)) (h3 : P.underlying f3.type = some (.int .i64))
    (hval : Value.okWide P W .any base t v) (h : DataW.Trod enc P W 0 (fun _ => true) true t v d p) :
    ∃ (A : Option Addr) (c : Nat) (ls : List Dc), v = .slice A ls.length c ∧ DoS W A ls ∧ ls.length ≤ c ∧ c ≤ maxLen ∧ ∀ n ∈ ls, (Lit.int .u8 n.kind).wf = true ∧ n.name.length ≤ maxLen ∧ (Lit.int .u64 n.tok).wf = true ∧ (Lit.int .i64 n.n).wf = true := by
  obtain ⟨a1, len, cap, rfl⟩ := okWide_slice ht hval
  obtain ⟨fuel, hf⟩ := h
  rcases Go.Deep.open_slice ht hf with ⟨hcs, hx⟩ | ⟨a, len', cap', m, n, D, Pl, hcs, hb, hl, hm, hmm, hx, hV⟩
  · simp [Value.cells] at hcs
    obtain ⟨rfl, rfl, rfl⟩ := hcs
    exact ⟨none, 0, [], rfl, RkS.nil _ _, Nat.le_refl _, Nat.zero_le _, by simp⟩
  · simp [Value.cells] at hcs
    obtain ⟨rfl, rfl, rfl⟩ := hcs
    simp only [if_true] at hmm
    have each : ∀ i, ∃ t : Dc, i < len → W.cell? (a.add (i * 4)) = some (.int .u8 t.kind) ∧ W.cell? (a.add (i * 4 + 1)) = some (nm t.name) ∧ W.cell? (a.add (i * 4 + 2)) = some (.int .u64 t.tok) ∧ W.cell? (a.add (i * 4 + 3)) = some (.int .i64 t.n) ∧
        (Lit.int .u8 t.kind).wf = true ∧ t.name.length ≤ maxLen ∧ (Lit.int .u64 t.tok).wf = true ∧ (Lit.int .i64 t.n).wf = true := fun i => by
      by_cases hi : i < len
      · obtain ⟨cs', k1', k2⟩ := hV i (by omega)
        rw [ce] at k1'
        obtain ⟨_, hlen, hcell⟩ := World.cells?_some k1'
        obtain ⟨x0, e0, w0⟩ := int_of he k2 0 f0 rfl h0
        obtain ⟨x1, e1, w1⟩ := string_of he k2 1 f1 rfl h1
        obtain ⟨x2, e2, w2⟩ := int_of he k2 2 f2 rfl h2
        obtain ⟨x3, e3, w3⟩ := int_of he k2 3 f3 rfl h3
        rw [o0, c0] at e0
        rw [o1, c1, nm_of] at e1
        rw [o2, c2] at e2
        rw [o3, c3] at e3
        have g0 := take_one e0
        have g1 := take_one e1
        have g2 := take_one e2
        have g3 := take_one e3
        have m0 := hcell 0 (by omega)
        have m1 := hcell 1 (by omega)
        have m2 := hcell 2 (by omega)
        have m3 := hcell 3 (by omega)
        rw [add_add] at m0 m1 m2 m3
        exact ⟨⟨x0, x1.data.toList, x2, x3⟩, fun _ => ⟨m0.trans g0, m1.trans g1, m2.trans g2, m3.trans g3, w0, by simpa using w1, w2, w3⟩⟩
      · exact ⟨⟨0, [], 0, 0⟩, fun h => absurd h hi⟩
    obtain ⟨f, hfs⟩ := Classical.axiomOfChoice each
    refine ⟨some a, cap, (List.range len).map f, by simp, fun j hj => ?_, by simp; omega, hm, fun nd hn => ?_⟩
    · have hj' : j < len := by simpa using hj
      obtain ⟨e0, e1, e2, e3, _⟩ := hfs j hj'
      have hb := World.block_lt_of_cell? _ _ e0
      rw [add_block] at hb
      refine ⟨a, rfl, hb, fun i v hv => ?_⟩
      rw [List.getElem_map, List.getElem_range] at hv
      match i, hv with
      | 0, hv => simp [enD] at hv; subst hv; exact e0
      | 1, hv => simp [enD] at hv; subst hv; exact e1
      | 2, hv => simp [enD] at hv; subst hv; exact e2
      | 3, hv => simp [enD] at hv; subst hv; exact e3
      | i + 4, hv => simp [enD] at hv
    · obtain ⟨i, hi, rfl⟩ := List.mem_map.1 hn
      obtain ⟨_, _, _, _, e6⟩ := hfs i (by simpa using hi)
      exact e6
end
theorem RkS.cells4 {w : World} {ad : Addr} {ts : List Dc} (h : DoS w (some ad) ts) (j : Nat) (hj : j < ts.length) : ad.block < w.heap.size ∧ w.cell? (ad.add (j * 4)) = some (.int .u8 ts[j].kind) ∧ w.cell? ⟨(ad.add (j * 4)).block, (ad.add (j * 4)).off + 1, none⟩ = some (nm ts[j].name) ∧
    w.cell? ⟨(ad.add (j * 4)).block, (ad.add (j * 4)).off + 2, none⟩ = some (.int .u64 ts[j].tok) ∧ w.cell? ⟨(ad.add (j * 4)).block, (ad.add (j * 4)).off + 3, none⟩ = some (.int .i64 ts[j].n) := by
  obtain ⟨ad', e, hb, h1⟩ := h j hj
  injection e with e
  subst e
  have g1 := h1 1 _ rfl
  have g2 := h1 2 _ rfl
  have g3 := h1 3 _ rfl
  rw [← add_add] at g1 g2 g3
  exact ⟨hb, h1 0 _ rfl, g1, g2, g3⟩
/-- How much a script is. -/
def wt (x : Dc) : Int := 1 + (x.name.length : Int) / 10
def heavyN : List Dc → Int → Bool
  | [], _ => false
  | x :: l, n => if 300 < n + wt x then true else heavyN l (n + wt x)
theorem heavyN_no : ∀ (l : List Dc) (n : Int), heavyN l n = false → n ≤ 300 → 0 ≤ n → (l.length : Int) + n ≤ 300 ∧ ∀ x ∈ l, x.name.length ≤ 3000
  | [], n, h, h1, h0 => ⟨by simpa using h1, by simp⟩
  | x :: l, n, h, h1, h0 => by
    unfold heavyN at h
    split at h
    · cases h
    · rename_i h2
      have hw : 1 ≤ wt x := by unfold wt; omega
      obtain ⟨i1, i2⟩ := heavyN_no l _ h (by omega) (by omega)
      refine ⟨by simp only [List.length_cons]; omega, fun y hy => ?_⟩
      rcases List.mem_cons.1 hy with rfl | hy
      · unfold wt at h2; omega
      · exact i2 y hy
set_option maxHeartbeats 4000000 in
theorem heavy_any (A : Option Addr) (c : Nat) (l : List Dc) (w : World) (h : DoS w A l) (hl : ∀ x ∈ l, x.name.length ≤ maxLen) (hc : l.length ≤ c) (hm : c ≤ maxLen) :
    Calls Try.prog 9 #[.slice A l.length c] w fun e w' => e = .returned (.bool (heavyN l 0)) ∧ Below w.heap.size w w' := by
  have HD := Lib.hid h
  have HL := Lib.hid hl
  have hlm : l.length ≤ 9223372036854775807 := by unfold maxLen at hm; omega
  clear h hl hm hc
  go_enter Try.func9, Try.ntmps9
  go_wp2_with fail
  go_loopw [8, 3] (fun i n wr => ∃ (k : Nat) (q : Int), k ≤ l.length ∧ i = .int .i64 k ∧ n = .int .i64 q ∧ 0 ≤ q ∧ q ≤ 300 ∧ Hid (heavyN l 0 = heavyN (l.drop k) q) ∧ Hid (Below w.heap.size w wr)) (fun i _ _ => l.length - (intOf i).toNat)
  case atStart => exact ⟨0, 0, by omega, rfl, rfl, by omega, by omega, Lib.hid rfl, Lib.hid (Below.refl _ _)⟩
  case round =>
    obtain ⟨k, q, hk, rfl, rfl, hq0, hq1, hE, hbw⟩ := hrel
    by_cases hlt : k < l.length
    · obtain ⟨ad, rfl, hb, hc⟩ := (HD.out.over hbw.out) k hlt
      obtain ⟨-, c1, c2, c3, c4⟩ := (HD.out.over hbw.out).cells4 k hlt
      have hnl := HL.out l[k] (List.getElem_mem hlt)
      have HS := Lib.hid (List.drop_eq_getElem_cons hlt)
      generalize l[k] = x at *
      obtain ⟨xk, xn, xt, xv⟩ := x
      dsimp only at c1 c2 c3 c4 hnl
      obtain ⟨z, hz⟩ : ∃ z, (xn.length : Int) / 10 = z := ⟨_, rfl⟩
      have hz0 : 0 ≤ z := by omega
      have hz1 : z ≤ 922337203685477580 := by unfold maxLen at hnl; omega
      have hzd : (xn.length : Int).tdiv 10 = z := by rw [Int.tdiv_eq_ediv_of_nonneg (by omega)]; exact hz
      clear hc hb
      by_cases h3 : 300 < q + (1 + z)
      · have HM := Lib.hid (show heavyN l 0 = true by rw [hE.out, HS.out]; unfold heavyN wt; dsimp only; rw [hz, if_pos h3])
        go_wp2_with fail
        go_ret
        exact ⟨by rw [HM.out]; rfl, hbw.out.alloc hbw.out.size _⟩
      · have HM := Lib.hid (show heavyN l 0 = heavyN (l.drop (k + 1)) (q + (1 + z)) by rw [hE.out, HS.out]; conv => lhs; unfold heavyN wt; dsimp only; rw [hz, if_neg h3])
        go_wp2_with fail
        go_roundw
        case rel => exact ⟨k + 1, q + (1 + z), by omega, by go_num, rfl, by omega, by omega, HM, Lib.hid (hbw.out.alloc hbw.out.size _)⟩
        case measure => simp [intOf]; omega
    · have e : k = l.length := by omega
      subst e
      have HM := Lib.hid (show heavyN l 0 = false by rw [hE.out, List.drop_length]; rfl)
      go_wp2_with fail
      go_ret
      exact ⟨by rw [HM.out]; rfl, hbw.out⟩
end Go.Proofs.Ytaikjobebbighaa
