/- Contracts of slices.Clone, Grow (of nil) and Concat at []byte. -/
import Derived.Test.YtbdhdnkpdpcgnaaAppB
import Derived.OwnWalk
import Derived.Laws.OwnMore
import Derived.Laws.MakeOwn
import Derived.Lib.AppendZerosOnto
import Derived.Shelf.Slices.Clone
import Derived.Shelf.Spec.SlicesGrow
namespace Go.Proofs.Ytbdhdnkpdpcgnaa
set_option linter.unusedVariables false
open Go.RowKit

theorem intsOne {k : IntKind} {xs : List Int} : ∀ u ∈ xs.map (Value.int k), u.oneCell' = true := fun u hu => by
  obtain ⟨x, _, rfl⟩ := List.mem_map.1 hu
  rfl

set_option maxHeartbeats 1000000 in
theorem clone_any (A : Option Addr) (c : Nat) (l : List Int) (w : World) (h : Sl w .u8 A l) (hl : l.length ≤ 1000000) :
    Calls Try.prog 20 #[.slice A l.length c] w fun e w' => ∃ B d, e = .returned (.slice B l.length d) ∧ OwnB w.heap.size w' B d l ∧ Below w.heap.size w w' := by
  obtain ⟨i0, hi, hz0, hz1, hz2⟩ := info_parts infoB
  have q22 : ∀ (w : World) (a : Option Addr) (n c n' c' : Nat), (binOp .eql 23 (.slice a n c) (.slice none n' c')).run Try.prog w = .ok (.bool a.isNone) w := fun w a n c n' c' => Lib.run_eql_slice_nil w _ _ a n c n' c' Try.underlying23
  cases A with
  | none =>
    have e : l = [] := by
      rcases l with _ | ⟨x, xs⟩
      · rfl
      · obtain ⟨ad, e, _⟩ := h 0 (by simp)
        cases e
    subst e
    go_enter Try.func20, Try.ntmps20
    go_wp2_with fail
    go_ret
    exact ⟨none, 0, rfl, OwnB.nil _ _, Below.refl _ _⟩
  | some ad =>
    have H := Lib.hid h; clear h
    go_enter Try.func20, Try.ntmps20
    go_wp2_with (at_builtin; refine wpList_append_own _ rfl _ _ 23 rfl w.heap.size 5 i0 (.int .u8 0) 1 1 Try.underlying23 hi hz0 hz1 hz2 rfl (by decide) _ _ _ rfl (World.ownsRow_made w #[] 0 (Nat.le_refl _) (Nat.zero_le _) rfl) ad l.length c (l.map (Value.int .u8)) rfl ?qc1 ?qc2 ?qc3 ?qc4 ?qc5 ?qc6 ?_)
    case qc1 => simp
    case qc2 => exact fun j u hj => Lib.cell?_alloc_some _ (H.out.cells j u hj)
    case qc3 => exact intsOne
    case qc4 => unfold maxLen; omega
    case qc5 => omega
    case qc6 => simp
    intro v' w1 hown hgrow hnil
    go_wp2
    go_ret
    obtain ⟨B, d, rfl, _, _⟩ := own_form hown
    exact ⟨B, d, rfl, by simpa [OwnB] using hown, ((Below.refl _ w).alloc (Nat.le_refl _) _).grown hgrow (by simp) (by intro k hk; simp [Value.ownBlock] at hk; omega)⟩

theorem grow_zero (w : World) : Calls Try.prog 31 #[.slice none 0 0, .int .i64 0] w fun e w' => e = .returned (.slice none 0 0) ∧ w = w' := by
  go_enter Try.func31, Try.ntmps31
  go_wp2_with fail
  go_ret
  exact ⟨rfl, rfl⟩

theorem zeros_size (z : Value) (hz : z.cells.size = 1) (n : Nat) : (Builtin.zeroCells z.cells n).size = n := by
  simp [Builtin.zeroCells, hz]

theorem grow_pos (n : Nat) (h0 : 0 < n) (h1 : n ≤ 1000000) (w : World) : Calls Try.prog 31 #[.slice none 0 0, .int .i64 n] w fun e w' =>
    ∃ B d, e = .returned (.slice B 0 d) ∧ OwnB w.heap.size w' B d [] ∧ Below w.heap.size w w' := by
  obtain ⟨i0, hi, hz0, hz1, hz2⟩ := info_parts infoB
  have hrz : ∀ ty, (Builtin.append_ #[23, 3] ty #[.slice none 0 0, .int .i64 n]).run Try.prog w =
      .ok (.slice (some ⟨w.heap.size, 0, none⟩) (0 + n) (grownCap w (0 + n) 0 5)) (w.drew.alloc (.cells (([] : List Value).toArray ++ Builtin.zeroCells (Value.int .u8 0).cells n ++ Builtin.zeroCells (Value.int .u8 0).cells (grownCap w (0 + n) 0 5 - (0 + n))) 5)) := fun ty =>
    Lib.run_append_grow_zeros w 23 3 ty 5 i0 (.int .u8 0) .i64 .i64 Try.underlying23 Try.underlying3 hi hz0 none 0 0 [] (run_firstCells_none w.drew i0.size 0 0 0) n h0 (by rw [hz1]; decide) (by omega) (by omega)
      (by rw [hz2]; omega) (by rw [hz2]; exact growslice_fits (by omega) (by omega))
  have hGn : 0 + n ≤ grownCap w (0 + n) 0 5 := grownCap_ge w _ _ _
  have hGm : grownCap w (0 + n) 0 5 ≤ maxLen := grownCap_le_maxLen w (0 + n) 0 5 (by unfold maxLen; omega)
  generalize grownCap w (0 + n) 0 5 = G at *
  have hGm' : G ≤ 9223372036854775807 := by unfold maxLen at hGm; omega
  have hsz : (([] : List Value).toArray ++ Builtin.zeroCells (Value.int .u8 0).cells n ++ Builtin.zeroCells (Value.int .u8 0).cells (G - (0 + n))).size = G := by
    rw [Array.size_append, Array.size_append, zeros_size _ rfl, zeros_size _ rfl]
    simp
    omega
  generalize ([] : List Value).toArray ++ Builtin.zeroCells (Value.int .u8 0).cells n ++ Builtin.zeroCells (Value.int .u8 0).cells (G - (0 + n)) = cur at *
  have HS := Lib.hid hsz; clear hsz
  have HG := Lib.hid hGm; clear hGm
  go_enter Try.func31, Try.ntmps31
  go_wp2_with (at_builtin; refine Lib.wpList_append_run _ rfl _ _ _ _ rfl _ _ rfl rfl _ _ (hrz _) ?_)
  go_ret
  refine ⟨_, _, rfl, ?_, ((Below.refl _ w).drew).alloc (Nat.le_refl _) _⟩
  exact ⟨rfl, .inr ⟨w.heap.size, G, cur, rfl, Nat.le_refl _, heap_alloc_new w.drew _, Nat.zero_le _, HG.out, by rw [HS.out]; omega, by simp⟩⟩

/-- A part of a row of rows: where it lies, its capacity, what it reads as. -/
structure Part where
  at_ : Option Addr
  cap : Nat
  xs : List Int
/-- The slice of slices at A, as far as ps goes. -/
def SlS (w : World) (A : Option Addr) (ps : List Part) : Prop :=
  ∀ (j : Nat) (hj : j < ps.length), ∃ ad, A = some ad ∧ ad.block < w.heap.size ∧ w.cell? (ad.add j) = some (.slice ps[j].at_ ps[j].xs.length ps[j].cap) ∧ Sl w .u8 ps[j].at_ ps[j].xs ∧ (ps[j].at_ = none → ps[j].cap = 0)
theorem SlS.keep {w w' : World} {A : Option Addr} {ps : List Part} (h : SlS w A ps) (hz : w.heap.size ≤ w'.heap.size) (hk : ∀ p : Addr, p.block < w.heap.size → w'.cell? p = w.cell? p) : SlS w' A ps := fun j hj => by
  obtain ⟨ad, e, hb, hc, hs, hn⟩ := h j hj
  exact ⟨ad, e, Nat.lt_of_lt_of_le hb hz, (hk _ (by rw [add_block]; exact hb)).trans hc, hs.keep hz hk, hn⟩
theorem SlS.over {w w' : World} {A : Option Addr} {ps : List Part} (h : SlS w A ps) (hb : Below w.heap.size w w') : SlS w' A ps := h.keep hb.size fun _ hp => hb.cell hp
/-- All parts, one behind the other. -/
def catP (ps : List Part) : List Int := ps.flatMap Part.xs
theorem catP_snoc (ps : List Part) (p : Part) : catP (ps ++ [p]) = catP ps ++ p.xs := by simp [catP]
theorem catP_take (ps : List Part) (k : Nat) : (catP (ps.take k)).length ≤ (catP ps).length := by
  have h : catP ps = catP (ps.take k) ++ catP (ps.drop k) := by
    unfold catP
    rw [← List.flatMap_append, List.take_append_drop]
  rw [h, List.length_append]
  omega
theorem grow_any (n : Nat) (h1 : n ≤ 1000000) (w : World) : Calls Try.prog 31 #[.slice none 0 0, .int .i64 n] w fun e w' =>
    ∃ B d, e = .returned (.slice B 0 d) ∧ OwnB w.heap.size w' B d [] ∧ Below w.heap.size w w' := by
  rcases Nat.eq_zero_or_pos n with rfl | h0
  · exact (grow_zero w).mono fun e w' ⟨he, hw⟩ => ⟨none, 0, he, .nil _ _, hw ▸ Below.refl _ _⟩
  · exact grow_pos n h0 h1 w

set_option maxHeartbeats 1000000 in
theorem concat_any (A : Option Addr) (c : Nat) (ps : List Part) (w : World) (h : SlS w A ps) (hl : ps.length ≤ 1000000) (ht : (catP ps).length ≤ 1000000) :
    Calls Try.prog 24 #[.slice A ps.length c] w fun e w' => ∃ B d, e = .returned (.slice B (catP ps).length d) ∧ OwnB w.heap.size w' B d (catP ps) ∧ Below w.heap.size w w' := by
  have H := Lib.hid h
  clear h
  go_enter Try.func24, Try.ntmps24
  go_wp2_with fail
  go_loop [3, 11] (fun a i => ∃ k : Nat, k ≤ ps.length ∧ i = .int .i64 k ∧ a = .int .i64 ((catP (ps.take k)).length : Nat)) (fun _ i => ps.length - (intOf i).toNat)
  case atStart => exact ⟨0, by omega, rfl, rfl⟩
  case round =>
    obtain ⟨k, hk, rfl, rfl⟩ := hrel
    have hb1 := catP_take ps k
    by_cases hlt : k < ps.length
    · obtain ⟨ad, rfl, hb, hc, -⟩ := H.out k hlt
      have hs : ps.take (k + 1) = ps.take k ++ [ps[k]] := List.take_succ_eq_append_getElem hlt
      have hb2 := catP_take ps (k + 1)
      obtain ⟨q, hq⟩ : ∃ q, ps[k] = q := ⟨_, rfl⟩
      rw [hq] at hc hs
      have he : (catP (ps.take (k + 1))).length = (catP (ps.take k)).length + q.xs.length := by rw [hs, catP_snoc, List.length_append]
      have hb3 : (catP (ps.take k)).length + q.xs.length ≤ 1000000 := by omega
      have HE := Lib.hid he
      clear he hs hb2 hq
      generalize (catP (ps.take k)).length = a at *
      go_wp2_with fail
      go_round
      case rel => exact ⟨k + 1, by omega, by go_num, by rw [HE.out]; go_num⟩
      case measure => simp [intOf]; omega
    · have e : k = ps.length := by omega
      subst e
      have hbl : (catP (ps.take ps.length)).length ≤ 1000000 := by omega
      have G := Lib.hid fun W => grow_any (catP (ps.take ps.length)).length hbl W
      clear hb1 hbl
      generalize (catP (ps.take ps.length)).length = a at *
      go_wp2_with fail
      refine (G.out _).mono ?_
      rintro e w1 ⟨B, d, rfl, hown, hb1⟩
      have hz1 := hb1.size
      go_wp2_with fail
      go_loopw [6, 27] (fun v i wr => ∃ (k : Nat) (B : Option Addr) (d : Nat), k ≤ ps.length ∧ i = .int .i64 k ∧ v = .slice B (catP (ps.take k)).length d ∧ OwnB w.heap.size wr B d (catP (ps.take k)) ∧ Below w.heap.size w wr)
        (fun _ i _ => ps.length - (intOf i).toNat)
      case atStart => exact ⟨0, B, d, by omega, rfl, rfl, hown, hb1⟩
      case round =>
        obtain ⟨k, B, d, hk, rfl, rfl, hown, hnx⟩ := hrel
        have HO := Lib.hid hown
        have HN := Lib.hid hnx
        have hz := hnx.size
        clear hown hnx
        by_cases hlt : k < ps.length
        · obtain ⟨ad, rfl, hb, hc0, hs0, hn0⟩ := H.out k hlt
          have hc := (HN.out.cell (p := ad.add k) (by rw [add_block]; exact hb)).trans hc0
          have hs : ps.take (k + 1) = ps.take k ++ [ps[k]] := List.take_succ_eq_append_getElem hlt
          have hb2 := catP_take ps (k + 1)
          obtain ⟨q, hq⟩ : ∃ q, ps[k] = q := ⟨_, rfl⟩
          rw [hq] at hc hs hs0 hn0
          have he : catP (ps.take (k + 1)) = catP (ps.take k) ++ q.xs := by rw [hs, catP_snoc]
          have hb3 : (catP (ps.take k)).length + q.xs.length ≤ 1000000 := by rw [← List.length_append, ← he]; omega
          have HE := Lib.hid he
          have HSl := Lib.hid (hs0.over HN.out)
          have HA := Lib.hid hn0
          clear he hs hb2 hq hc0 hs0 hn0
          generalize catP (ps.take k) = o at *
          obtain ⟨qa, qc, qx⟩ := q
          simp only at hc HSl HA hb3 HE
          go_wp2_with (at_builtin; refine appSB rfl _ _ rfl w.heap.size B o.length d o rfl (by rfl) HO.out qa qc qx (by rfl) HSl.out HA.out hz (by omega) ?_)
          intro B2 d2 w3 hown3 hgrow hb3'
          have HO3 := Lib.hid hown3
          have HN3 := Lib.hid (HN.out.trans hb3')
          clear hown3 hgrow hb3'
          go_wp2
          go_roundw
          case rel => exact ⟨k + 1, B2, d2, by omega, by go_num, by rw [HE.out]; simp, by rw [HE.out]; exact HO3.out, HN3.out⟩
          case measure => simp [intOf]; omega
        · have e : k = ps.length := by omega
          subst e
          rw [List.take_length] at HO
          go_wp2_with fail
          go_ret
          exact ⟨B, d, by rw [List.take_length]; rfl, HO.out, HN.out⟩
end Go.Proofs.Ytbdhdnkpdpcgnaa
