/- Slots: Set of a new name; Set at a book. -/
import Derived.Test.YtaikjobebbighaaSlX
namespace Go.Proofs.Ytaikjobebbighaa
set_option linter.unusedVariables false
set_option maxRecDepth 100000
open Go.RowKit
theorem Turn.trans {w w1 w2 : World} {g b : Nat} {st1 st2 : Bk} {ys ys1 ys2 : List Wh} (h1 : Turn w w1 g b ys st1 ys1) (h2 : Turn w1 w2 g b ys1 st2 ys2) : Turn w w2 g b ys st2 ys2 :=
  ⟨h2.at_, h1.but.next h2.but h1.mine, fun j hj => by
    rcases h2.mine j hj with h | h
    · exact h1.mine j h
    · have := h1.but.size; exact .inr (by omega)⟩
theorem Gave.low {w w1 w' : World} {g b : Nat} {ys' : List Wh} {B : Option Addr} {d : Nat} {out : List Pl} (h : Gave w1 w' g b ys' B d out) (hs : w.heap.size ≤ w1.heap.size) : Gave w w' g b ys' B d out := ⟨h.row.low hs, h.off⟩
set_option maxHeartbeats 4000000 in
theorem set_new (g b : Nat) (st : Bk) (ys : List Wh) (k : Key) (n : Int) (w : World) (h : BkAt w g b st ys) (hs : stGet st k = none) (hk0 : k ≠ []) (hk : k.length ≤ 32) (h0 : 1 ≤ n) (h1 : n ≤ 1048576) (hf : st.length < 64) :
    Calls Try.prog 11 #[.pointer (some ⟨g, 0, none⟩), nm k, .int .i64 n] w fun e w' => ∃ (B : Option Addr) (d : Nat) (ys' : List Wh), e = .returned (.tuple #[.slice B 0 d, .int .i64 0]) ∧ Gave w w' g b ys' B d [] ∧ Turn w w' g b ys (stIns (k, ⟨n, [], []⟩) st) ys' := by
  have cb := h.row.cell 0
  simp at cb
  have hl := h.look k (by omega)
  rw [bkGet_none hs] at hl
  have hl2 : (Instr.lookup 72 (.map (some b)) (nm k) false).run Try.prog w = .ok (.pointer none) w := hl
  have hln := fun ty => h.len_ ty
  obtain ⟨W1, hW1⟩ : ∃ W1, w.alloc (.cells #[.int .i64 0, .slice none 0 0, .slice none 0 0] 77) = W1 := ⟨_, rfl⟩
  obtain ⟨p, hp⟩ : ∃ p, w.heap.size = p := ⟨_, rfl⟩
  have hpr : Row W1 p 77 #[.int .i64 0, .slice none 0 0, .slice none 0 0] := by rw [← hW1, ← hp]; exact Row.new w _ _
  have hb1 : Below w.heap.size w W1 := by rw [← hW1]; exact (Below.refl _ w).alloc (Nat.le_refl _) _
  have hpa : PoolAt W1 p zeroP.size zeroP.h zeroP.l none none := ⟨0, 0, hpr, RkO.nil _ _, RkO.nil _ _, fun g e => by cases e⟩
  obtain ⟨W2, hrun, hA2, hb2⟩ := h.add (y := ⟨p, none, none⟩) hb1 ⟨hp.symm, rfl, rfl⟩ hpa (by omega) hs (by omega)
  have cb1 := (h.over hb1).row.cell 0
  simp at cb1
  have hlen : st.length = ys.length := by obtain ⟨es, hm, he⟩ := h.map; exact he.len.1
  have hg2 := bkGet_ins (s := zeroP) (y := ⟨p, none, none⟩) hlen hs
  have hp2 : PoolAt W2 p zeroP.size zeroP.h zeroP.l none none := by obtain ⟨es, hm, he⟩ := hA2.map; exact he.pool hg2
  obtain ⟨c, c', r1, -⟩ := id hp2
  have p0 := r1.cell 0
  have p1 := r1.free 0
  simp at p0
  have hb3 : But (Wh.foot ⟨p, none, none⟩) W2 (W2.setCell ⟨p, 0, none⟩ (.int .i64 n)) := (But.refl _ W2).put (.inl (.inl rfl)) _
  have T1 : Turn w W2 g b ys (stIns (k, zeroP) st) (whIns k ⟨p, none, none⟩ st ys) := ⟨hA2, (But.of_below hb1 (Nat.le_refl _)).trans (hb2.mono fun j e => .inl (.inr (.inl e))), fun j hj => by
    rcases hj with e | e | ⟨v, hv, hj⟩
    · exact .inl (.inl e)
    · exact .inl (.inr (.inl e))
    · rcases List.mem_cons.1 ((whIns_perm k _ st ys).mem_iff.1 hv) with rfl | hv
      · rcases hj with e | e | e
        · exact .inr (by show w.heap.size ≤ j; rw [hp]; exact Nat.le_of_eq e.symm)
        · cases e
        · cases e
      · exact .inl (.inr (.inr ⟨v, hv, hj⟩))⟩
  have SV := Lib.hid (serve_turn (size := n) hA2 hg2 hb3 (hp2.resize n) (fun j hj => .inl hj) (zeroP_ok (by omega) h1))
  have HT1 := Lib.hid T1
  have hz2 := T1.but.size
  have d0 : k.isEmpty = false := by simpa using hk0
  have d1 : decide ((32 : Int) < (k.length : Int)) = false := decide_eq_false (by omega)
  have d2 : decide (n < 1) = false := decide_eq_false (by omega)
  have d3 : decide ((1048576 : Int) < n) = false := decide_eq_false (by omega)
  have d4 : decide ((64 : Int) ≤ (st.length : Int)) = false := decide_eq_false (by omega)
  clear hl h T1 hA2 hg2 hp2 r1 hb3 hb1 hb2 hpa hpr hlen
  go_enter Try.func11, Try.ntmps11
  go_upto_region 12 with fail
  try rw [hW1]
  try rw [hp]
  go_wp2_with fail
  refine SV.out.mono ?_
  rintro e w4 ⟨B, d, ys', rfl, hga, htu⟩
  have HG := Lib.hid (hga.low (w := w) hz2)
  have HT := Lib.hid (HT1.out.trans htu)
  clear hga htu SV
  go_wp2_with fail
  go_ret2
  refine ⟨B, d, ys', rfl, HG.out, ?_⟩
  have := HT.out
  rw [bkPut_ins hs] at this
  exact this
/-- Set at a book: any name, any number. -/
theorem set_any (N : Nat) (g b : Nat) (st : Bk) (ys : List Wh) (k : Key) (n : Int) (w : World) (h : BkAt w g b st ys) (ok : BkOk N st) (hk : k.length ≤ 1000000) :
    Calls Try.prog 11 #[.pointer (some ⟨g, 0, none⟩), nm k, .int .i64 n] w fun e w' => ∃ (B : Option Addr) (d : Nat) (ys' : List Wh), e = .returned (.tuple #[.slice B (setB st k n).2.1.length d, .int .i64 (setB st k n).2.2]) ∧ Gave w w' g b ys' B d (setB st k n).2.1 ∧ Turn w w' g b ys (setB st k n).1 ys' := by
  unfold setB
  split
  · rename_i hk1
    refine (set_name g b st ys k n w h hk1 hk).mono ?_
    rintro e w' ⟨rfl, rfl⟩
    exact ⟨none, 0, ys, rfl, Gave.nil _ _ _ _ _, Turn.stay h (Below.refl _ _)⟩
  rename_i hk1
  have hk0 : k ≠ [] := fun e => hk1 (.inl (by rw [e]; rfl))
  have hk2 : k.length ≤ 32 := by omega
  split
  · rename_i hn
    refine (set_arg g b st ys k n w h hk0 hk2 hn).mono ?_
    rintro e w' ⟨rfl, rfl⟩
    exact ⟨none, 0, ys, rfl, Gave.nil _ _ _ _ _, Turn.stay h (Below.refl _ _)⟩
  rename_i hn
  rcases hs : stGet st k with _ | s
  · dsimp only
    split
    · rename_i hf
      refine (set_full g b st ys k n w h (bkGet_none hs) hk0 hk2 (by omega) (by omega) hf).mono ?_
      rintro e w' ⟨rfl, rfl⟩
      exact ⟨none, 0, ys, rfl, Gave.nil _ _ _ _ _, Turn.stay h (Below.refl _ _)⟩
    · exact set_new g b st ys k n w h hs hk0 hk2 (by omega) (by omega) (by omega)
  · obtain ⟨y, hy⟩ := h.some_ hs
    exact set_yes g b st ys k s y n w h hy hk0 hk2 (by omega) (by omega) (ok k s hs).good.ok
end Go.Proofs.Ytaikjobebbighaa
