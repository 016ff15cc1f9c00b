/- Slots: stands: a pool stands as the document's. -/
import Derived.Test.YtaikjobebbighaaSpX
namespace Go.Proofs.Ytaikjobebbighaa
set_option linter.unusedVariables false
set_option maxRecDepth 100000
open Go.RowKit
theorem holdE_take1 {L : List En} {i : Int} {k : Nat} (h : k < L.length) : holdE (L.take (k + 1)) i = holdE (L.take k) i ++ (if L[k].pool = i ∧ L[k].holds = true then [L[k].pl] else []) := by
  rw [List.take_succ_eq_append_getElem h, holdE_append, holdE_cons]
  split <;> rfl
theorem lineE_take1 {L : List En} {i : Int} {k : Nat} (h : k < L.length) : lineE (L.take (k + 1)) i = lineE (L.take k) i ++ (if L[k].pool = i ∧ L[k].holds = false then [L[k].pl] else []) := by
  rw [List.take_succ_eq_append_getElem h, lineE_append, lineE_cons]
  split <;> rfl
theorem holdE_len (L : List En) (i : Int) : (holdE L i).length ≤ L.length := by unfold holdE; rw [List.length_map]; exact List.length_filter_le _ _
theorem lineE_len (L : List En) (i : Int) : (lineE L i).length ≤ L.length := by unfold lineE; rw [List.length_map]; exact List.length_filter_le _ _
/-- Two rows of the call's own. -/
structure Rows2 (N : Nat) (w wr : World) (B1 : Option Addr) (d1 : Nat) (l1 : List Pl) (B2 : Option Addr) (d2 : Nat) (l2 : List Pl) : Prop where
  a : PlO N wr B1 d1 l1
  b : PlO N wr B2 d2 l2
  apt : Apt B1 B2
  low : Below N w wr
theorem Rows2.over {N : Nat} {w wr w' : World} {B1 : Option Addr} {d1 : Nat} {l1 : List Pl} {B2 : Option Addr} {d2 : Nat} {l2 : List Pl} (h : Rows2 N w wr B1 d1 l1 B2 d2 l2) (hN : N ≤ w.heap.size) (hb : Below wr.heap.size wr w') : Rows2 N w w' B1 d1 l1 B2 d2 l2 :=
  ⟨h.a.over hb, h.b.over hb, h.apt, h.low.trans (hb.mono (by have := h.low.size; omega))⟩
theorem Rows2.swap {N : Nat} {w wr : World} {B1 : Option Addr} {d1 : Nat} {l1 : List Pl} {B2 : Option Addr} {d2 : Nat} {l2 : List Pl} (h : Rows2 N w wr B1 d1 l1 B2 d2 l2) : Rows2 N w wr B2 d2 l2 B1 d1 l1 := ⟨h.b, h.a, h.apt.symm, h.low⟩
/-- One put behind the first. -/
theorem Rows2.app {N : Nat} {w wr : World} {B1 : Option Addr} {d1 : Nat} {l1 : List Pl} {B2 : Option Addr} {d2 : Nat} {l2 : List Pl} (h : Rows2 N w wr B1 d1 l1 B2 d2 l2) (hN : N ≤ w.heap.size) (hl : l1.length ≤ 100000) (x : Pl) :
    ∃ (B' : Option Addr) (d' : Nat) (w4 : World), (Builtin.append_ #[31, 31] 31 #[.slice B1 l1.length d1, .slice (some ⟨wr.heap.size, 0, none⟩) 1 1]).run Try.prog (wr.alloc (.cells #[.int .u64 x.1, .int .i64 x.2] 38)) = .ok (.slice B' (l1.length + 1) d') w4 ∧ Rows2 N w w4 B' d' (l1 ++ [x]) B2 d2 l2 := by
  obtain ⟨w5, hw5⟩ : ∃ w5, wr.alloc (.cells #[.int .u64 x.1, .int .i64 x.2] 38) = w5 := ⟨_, rfl⟩
  have hv5 : PlS w5 (some ⟨wr.heap.size, 0, none⟩) [x] := by
    have := Row.new wr 38 #[.int .u64 x.1, .int .i64 x.2]
    rw [hw5] at this
    exact RkS.of_row (t := 38) enP_len (by simpa [rkCs, enP] using this)
  have hb5 : Below wr.heap.size wr w5 := by rw [← hw5]; exact (Below.refl _ _).alloc (Nat.le_refl _) _
  have h5 := h.over hN hb5
  have hz := h.low.size
  have hz5 := hb5.size
  obtain ⟨B', d', w4, hrun, ho, hg, hn⟩ := run_appK (P := Try.prog) (st := 31) (ty := 31) (ys := [x]) Try.underlying31 infoP rfl (by decide) (by decide) enP_len enP_one h5.a ⟨wr.heap.size, 0, none⟩ 1 hv5 (by omega) (by simp; omega)
  rw [hw5]
  have hbut : But (fun j => B1 = some ⟨j, 0, none⟩) w5 w4 := But.of_grown hg fun j e => ownK (h5.a.low (Nat.zero_le _)) e
  refine ⟨B', d', w4, hrun, ⟨ho, h5.b.but hbut (fun q e e2 => h5.apt q e2 e), fun q e e2 => ?_, h5.low.grown hg (by omega) (fun k e => by
    rcases h5.a.fresh none k (ownK (h5.a.low (Nat.zero_le _)) e) with h1 | h1
    · cases h1
    · exact h1)⟩⟩
  rcases hn q e with h1 | h1
  · exact h5.apt q h1 e2
  · have := h5.b.lt_ e2; omega
theorem RkO.upw {α : Type} {en : α → List Value} {k : Nat} {e : TypeId} {base base' : Nat} {w : World} {B : Option Addr} {d : Nat} {ts : List α} (h : RkO en k e base w B d ts) (hb : ∀ g, B = some ⟨g, 0, none⟩ → base' ≤ g) : RkO en k e base' w B d ts := by
  rcases h.2 with ⟨ev, e2⟩ | ⟨g', cap, cur, ev, h1, h2, h3⟩
  · exact ⟨h.1, .inl ⟨ev, e2⟩⟩
  · refine ⟨h.1, .inr ⟨g', cap, cur, ev, hb g' ?_, h2, h3⟩⟩
    injection ev with e1 e2 e3
/-- The first row sorted. -/
theorem Rows2.sort {N : Nat} {w wr : World} {B1 : Option Addr} {d1 : Nat} {l1 : List Pl} {B2 : Option Addr} {d2 : Nat} {l2 : List Pl} (h : Rows2 N w wr B1 d1 l1 B2 d2 l2) (hN : N ≤ w.heap.size) (hl : l1.length ≤ 100000) {l : List Pl} (hrs : Rising l) (hp : l.Perm l1) :
    Calls Try.prog 36 #[.slice B1 l1.length d1, .func (.func 37) #[] #[]] wr fun e w' =>
      e = .returned (.tuple #[]) ∧ Rows2 N w w' B1 d1 l B2 d2 l2 := by
  rcases h.a.form with ⟨rfl, rfl, rfl⟩ | ⟨g, rfl, hg1, hg2, -⟩
  · obtain rfl : l = [] := hp.eq_nil
    refine (sortFunc_nil _ wr).mono ?_
    rintro e w2 ⟨rfl, rfl⟩
    exact ⟨rfl, h⟩
  · refine (sort_pl g d1 l1 wr (h.a.low (Nat.zero_le _)) (by omega)).mono ?_
    rintro e w2 ⟨rfl, l', hp', hs', ho, hg⟩
    obtain rfl : l' = l := rising_of hrs (hp'.trans hp.symm) hs'
    have hbut : But (fun j => g = j) wr w2 := But.of_grown hg fun j e => by injection e
    refine ⟨rfl, ho.upw (fun q e => ?_), h.b.but hbut (fun q e e2 => h.apt q (by rw [e2]) e), h.apt, h.low.grown hg (by have := h.low.size; omega) (fun k e => ?_)⟩
    · injection e with e; injection e with e; omega
    · injection e with e; omega
set_option maxHeartbeats 2000000 in
theorem refLeft_q (p : Nat) (r : Rb) (z : Za) (q : Int) (w : World) (h : RfZ w p r z) (ok : RbOk r) (hq : q = -1 ∨ ∃ i : Nat, i < r.sizes.length ∧ q = i) :
    Calls Try.prog 38 #[.pointer (some ⟨p, 0, none⟩), .int .i64 q] w fun e w' => e = .returned (.int .i64 (leftP r q)) ∧ w' = w := by
  rcases hq with rfl | ⟨i, hi, rfl⟩
  · rw [show leftP r (-1) = 0 from rfl]
    go_enter Try.func38, Try.ntmps38
    go_wp2_with fail
    go_ret
    exact ⟨rfl, rfl⟩
  · exact refLeft_any p r z.NA z.SA z.LA z.cN z.cS z.cL i w h hi (ok.size hi) (by have := ok.ll; omega) ok.many
end Go.Proofs.Ytaikjobebbighaa
