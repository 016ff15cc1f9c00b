/- The reference's clerk: place, Ask. -/
import Derived.Test.YtklmabhjkdkjmaaSeJ
import Derived.Test.YtklmabhjkdkjmaaSeT
import Derived.Test.YtklmabhjkdkjmaaQc
namespace Go.Proofs.Ytklmabhjkdkjmaa
set_option linter.unusedVariables false
open Go.RowKit
/-- The reference's clerk at block r: its row. -/
structure RfAt (w : World) (r : Nat) (A : Option Addr) (d : Nat) (L : List Tk) : Prop where
  row : Row w r 41 #[.slice A L.length d]
  tks : TkS w A L
  few : L.length ≤ 16
  blk : ∀ ad, A = some ad → ∃ cs fz, w.heap[ad.block]? = some (.cells cs 32 fz)
theorem RfAt.over {w w' : World} {r : Nat} {A : Option Addr} {d : Nat} {L : List Tk} (h : RfAt w r A d L) (hb : Below w.heap.size w w') : RfAt w' r A d L := ⟨h.row.over hb, h.tks.over hb, h.few, fun ad e => by
  obtain ⟨cs, fz, hg⟩ := h.blk ad e
  exact ⟨cs, fz, (hb.block _ (Array.getElem?_eq_some_iff.1 hg).1).trans hg⟩⟩
theorem OwnT.blk {base : Nat} {w : World} {B : Option Addr} {d : Nat} {ts : List Tk} (h : OwnT base w B d ts) : ∀ ad, B = some ad → ∃ cs fz, w.heap[ad.block]? = some (.cells cs 32 fz) := fun ad e => by
  rcases h.2 with ⟨e1, _⟩ | ⟨g', cap, cur, e1, h1, h2, _⟩
  · injection e1 with e1; rw [e] at e1; cases e1
  · injection e1 with e1; rw [e] at e1; injection e1 with e1; rw [e1]; exact ⟨cur, (0, 0), h2⟩
theorem findT_take_none {L : List Tk} {c : Int} {k : Nat} (hk : k < L.length) (h : findT (L.take k) c = none) (hc : L[k].cl ≠ c) : findT (L.take (k + 1)) c = none := by
  rw [List.take_succ_eq_append_getElem hk, findT_snoc, h, if_neg hc]
  rfl
theorem findT_take_some {L : List Tk} {c : Int} {k : Nat} (hk : k < L.length) (h : findT (L.take k) c = none) (hc : L[k].cl = c) : findT L c = some L[k] := by
  have e : L = L.take k ++ L.drop k := (List.take_append_drop k L).symm
  rw [List.drop_eq_getElem_cons hk] at e
  rw [findT_none] at h
  unfold findT
  have h1 : (L.take k).find? (fun t => decide (t.cl = c)) = none := by
    rw [List.find?_eq_none]
    intro t ht
    simp
    exact fun e => h (List.mem_map.2 ⟨t, ht, e⟩)
  conv => lhs; rw [e]
  rw [List.find?_append, h1, List.find?_cons, decide_eq_true hc]
  rfl
set_option maxHeartbeats 1000000 in
theorem place_any (r : Nat) (A : Option Addr) (d : Nat) (L : List Tk) (c : Int) (w : World) (h : RfAt w r A d L) :
    Calls Try.prog 20 #[.pointer (some ⟨r, 0, none⟩), .int .u64 c] w fun e w' => w' = w ∧ ((findT L c = none ∧ e = .returned (.int .i64 (-1))) ∨ ∃ i, ∃ hi : i < L.length, findT L c = some L[i] ∧ e = .returned (.int .i64 i)) := by
  have r0 := h.row.cell 0
  simp at r0
  have HH := Lib.hid h
  have hl16 := h.few
  clear h
  go_enter Try.func20, Try.ntmps20
  go_wp2_with fail
  go_loopw [5] (fun i wr => ∃ k : Nat, k ≤ L.length ∧ i = .int .i64 k ∧ findT (L.take k) c = none ∧ wr = w) (fun i _ => L.length - (intOf i).toNat)
  case atStart => exact ⟨0, Nat.zero_le _, rfl, rfl, rfl⟩
  case round =>
    obtain ⟨k, hk, rfl, hf, rfl⟩ := hrel
    have HF := Lib.hid hf
    clear hf
    by_cases hlt : k < L.length
    · obtain ⟨ad, rfl, -⟩ := HH.out.tks k hlt
      have hkl : (k : Int) < (L.length : Int) := by omega
      obtain ⟨hab, h1, -⟩ := HH.out.tks.cells4 k hlt
      by_cases hc : L[k].cl = c
      · have t1 : (L[k].cl == c) = true := by simpa using hc
        have HS := Lib.hid (findT_take_some hlt HF.out hc)
        clear hc
        go_wp2_with fail
        go_ret
        exact ⟨rfl, .inr ⟨k, hlt, HS.out, rfl⟩⟩
      · have t1 : (L[k].cl == c) = false := beq_eq_false_iff_ne.2 hc
        have HS := Lib.hid (findT_take_none hlt HF.out hc)
        clear hc
        go_wp2_with fail
        go_roundw
        case rel => exact ⟨k + 1, by omega, by go_num, HS.out, trivial⟩
        case measure => simp [intOf]; omega
    · obtain rfl : k = L.length := by omega
      have hz : decide ((L.length : Int) < (L.length : Int)) = false := by simp
      go_wp2_with fail
      go_ret
      have := HF.out
      rw [List.take_length] at this
      exact ⟨rfl, .inl ⟨this, rfl⟩⟩
theorem bl_res {w W1 W : World} (h1 : Below w.heap.size w W1) (h : Below W1.heap.size W1 W) (a b : Value) : Below w.heap.size w ((W.setCell ⟨w.heap.size, 0, none⟩ a).setCell ⟨w.heap.size, 1, none⟩ b) :=
  ((nextC h1 h).setCell (p := ⟨w.heap.size, 0, none⟩) (Nat.le_refl _) _).setCell (p := ⟨w.heap.size, 1, none⟩) (Nat.le_refl _) _
set_option maxHeartbeats 2000000 in
set_option maxRecDepth 100000 in
theorem rask_any (r : Nat) (A : Option Addr) (d : Nat) (L : List Tk) (c s : Int) (w : World) (h : RfAt w r A d L) :
    Calls Try.prog 15 #[.pointer (some ⟨r, 0, none⟩), .int .u64 c, .int .u64 s] w fun e w' =>
      e = .returned (.tuple #[.agg #[.int .i64 (askR L c s).1, .int .u64 (askR L c s).2], .bool (askK L c s), .int .i64 (askE L c s)]) ∧ Below w.heap.size w w' := by
  obtain ⟨W1, hW1⟩ : ∃ W1, w.alloc (.cells #[.int .i64 0, .int .u64 0] 30) = W1 := ⟨_, rfl⟩
  have hb1 : Below w.heap.size w W1 := by rw [← hW1]; exact (Below.refl _ w).alloc (Nat.le_refl _) _
  have hh1 := h.over hb1
  have C1 := place_any r A d L c W1 hh1
  have r0 := hh1.row.cell 0
  simp at r0
  have r1 : Row W1 w.heap.size 30 #[.int .i64 0, .int .u64 0] := by rw [← hW1]; exact Row.new w _ _
  have hz : W1.heap.size = w.heap.size + 1 := by rw [← hW1]; simp
  have k0 := r1.cell 0
  have k1 := r1.cell 1
  have kf0 := r1.free 0
  have kf1 := r1.free 1
  simp at k0 k1
  have HB := Lib.hid hb1
  have HH := Lib.hid hh1
  have RC0 := Lib.hid (fun x y o => (reply_cells r1 x y o).1)
  have RC1 := Lib.hid (fun x y o => (reply_cells r1 x y o).2)
  have C1 := Lib.hid C1
  clear r1 h hb1 hh1
  rcases ask_cases L c s with ⟨h1 | ⟨h1, h2⟩, e1, e2, e3⟩ | ⟨⟨h1, h2⟩, hs⟩
  · rw [e1, e2, e3]
    clear e1 e2 e3
    go_enter Try.func15, Try.ntmps15
    go_wp2_with fail
    refine bodyPost_ret ?h1 rfl ⟨rfl, ?h2⟩
    case h1 => simp [results, Try.results15, go_sem, RC0.out, RC1.out, k0, k1]
    case h2 => exact bl_res HB.out (Below.refl _ _) _ _
  · rw [e1, e2, e3]
    clear e1 e2 e3
    go_enter Try.func15, Try.ntmps15
    go_wp2_with fail
    refine bodyPost_ret ?h1 rfl ⟨rfl, ?h2⟩
    case h1 => simp [results, Try.results15, go_sem, RC0.out, RC1.out, k0, k1]
    case h2 => exact bl_res HB.out (Below.refl _ _) _ _
  · rcases hs with ⟨hn, hf, e1, e2, e3⟩ | ⟨hn, t, hf, hs⟩
    · rw [e1, e2, e3]
      clear e1 e2 e3
      have HFN := Lib.hid hf
      clear hf
      go_enter Try.func15, Try.ntmps15
      go_wp2_with fail
      refine C1.out.mono ?_
      rintro e w2 ⟨rfl, ⟨-, rfl⟩ | ⟨i, hi, hfi, -⟩⟩
      · go_wp2_with fail
        refine bodyPost_ret ?h1 rfl ⟨rfl, ?h2⟩
        case h1 => simp [results, Try.results15, go_sem, RC0.out, RC1.out, k0, k1]
        case h2 => exact bl_res HB.out (Below.refl _ _) _ _
      · exact absurd (HFN.out.symm.trans hfi) (by simp)
    · have HFT := Lib.hid hf
      clear hf hn
      rcases hs with ⟨h3, e1, e2, e3⟩ | ⟨h3, e1, e2, e3⟩ | ⟨h3, e1, e2, e3⟩
      all_goals
        rw [e1, e2, e3]
        clear e1 e2 e3
        go_enter Try.func15, Try.ntmps15
        go_wp2_with fail
        refine C1.out.mono ?_
        rintro e w2 ⟨rfl, ⟨hfn, -⟩ | ⟨i, hi, hfi, rfl⟩⟩
        · exact absurd (HFT.out.symm.trans hfn) (by simp)
        have ht : t = L[i] := by have := HFT.out.symm.trans hfi; injection this
        obtain ⟨ad, rfl, -⟩ := HH.out.tks i hi
        have hil : (i : Int) < (L.length : Int) := by omega
        have hi16 := HH.out.few
        have hi0 : decide ((i : Int) < 0) = false := decide_eq_false (by omega)
        obtain ⟨hab, q1, q2, q3, q4⟩ := HH.out.tks.cells4 i hi
        rw [← ht] at q1 q2 q3 q4
        clear ht hfi
      · have t1 : decide (t.sq < s) = false := decide_eq_false (by omega)
        go_wp2_with fail
        refine bodyPost_ret ?h1 rfl ⟨rfl, ?h2⟩
        case h1 => simp [results, Try.results15, go_sem, RC0.out, RC1.out, k0, k1]
        case h2 => exact bl_res HB.out (Below.refl _ _) _ _
      · have t1 : decide (t.sq < s) = false := decide_eq_false (by omega)
        have t2 : decide (s < t.sq) = false := decide_eq_false (by omega)
        go_wp2_with fail
        refine bodyPost_ret ?h1 rfl ⟨rfl, ?h2⟩
        case h1 => simp [results, Try.results15, go_sem, RC0.out, RC1.out, k0, k1]
        case h2 => exact bl_res HB.out (Below.refl _ _) _ _
      · go_wp2_with fail
        refine bodyPost_ret ?h1 rfl ⟨rfl, ?h2⟩
        case h1 => simp [results, Try.results15, go_sem, RC0.out, RC1.out, k0, k1]
        case h2 => exact bl_res HB.out (Below.refl _ _) _ _
end Go.Proofs.Ytklmabhjkdkjmaa
