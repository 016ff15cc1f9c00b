/- Slots: Holders, Line, Left of any name, at a book or at none. -/
import Derived.Test.YtaikjobebbighaaSlO
namespace Go.Proofs.Ytaikjobebbighaa
set_option linter.unusedVariables false
set_option maxRecDepth 100000
open Go.RowKit
/-- What find gives. -/
def FindIs (w : World) (p : Nat) (s : Pst) (A A' : Option Addr) (e : Ending) (w' : World) : Prop := e = .returned (.pointer (some ⟨p, 0, none⟩)) ∧ PoolAt w' p s.size s.h s.l A A' ∧ Below w.heap.size w w'
theorem row_none {w : World} {A : Option Addr} {c : Nat} {l : List Pl} (h : PlO 0 w A c l) (e : A = none) : c = 0 := by
  rcases h.form with ⟨_, e2, _⟩ | ⟨g', e2, _⟩
  · exact e2
  · rw [e] at e2; cases e2
theorem holders_of (recv : Value) (k : Key) (p : Nat) (s : Pst) (A A' : Option Addr) (w : World) (hC : Calls Try.prog 31 #[recv, nm k] w (FindIs w p s A A')) (ho : PoolOk s.size s.h s.l) :
    Calls Try.prog 14 #[recv, nm k] w fun e w' => (∃ B d, e = .returned (.slice B s.h.length d) ∧ PlO w.heap.size w' B d s.h) ∧ Below w.heap.size w w' := by
  have C := Lib.hid hC
  clear hC
  go_enter Try.func14, Try.ntmps14
  go_wp2_with fail
  refine C.out.mono ?_
  rintro e w1 ⟨rfl, ⟨c, c', h1, h2, h3, h4⟩, hb⟩
  have k1 : w1.cell? ⟨p, 1, none⟩ = some (.slice A s.h.length c) := (h1.cell 1).trans rfl
  have D := Lib.hid (clone_any A c s.h w1 (RkO.rks enP_len h2) (row_none h2) (by have := ho.few; omega))
  have hbz := hb.size
  clear h1 h2 h3 h4 C
  go_wp2_with fail
  refine D.out.mono ?_
  rintro e w2 ⟨⟨B, d, rfl, hB⟩, hb2⟩
  have HB := Lib.hid hB
  clear hB
  go_wp2_with fail
  go_ret
  exact ⟨⟨B, d, rfl, HB.out.low hbz⟩, nextC hb hb2⟩
theorem line_of (recv : Value) (k : Key) (p : Nat) (s : Pst) (A A' : Option Addr) (w : World) (hC : Calls Try.prog 31 #[recv, nm k] w (FindIs w p s A A')) (ho : PoolOk s.size s.h s.l) :
    Calls Try.prog 15 #[recv, nm k] w fun e w' => (∃ B d, e = .returned (.slice B s.l.length d) ∧ PlO w.heap.size w' B d s.l) ∧ Below w.heap.size w w' := by
  have C := Lib.hid hC
  clear hC
  go_enter Try.func15, Try.ntmps15
  go_wp2_with fail
  refine C.out.mono ?_
  rintro e w1 ⟨rfl, ⟨c, c', h1, h2, h3, h4⟩, hb⟩
  have k1 : w1.cell? ⟨p, 2, none⟩ = some (.slice A' s.l.length c') := (h1.cell 2).trans rfl
  have D := Lib.hid (clone_any A' c' s.l w1 (RkO.rks enP_len h3) (row_none h3) (by have := ho.few; omega))
  have hbz := hb.size
  clear h1 h2 h3 h4 C
  go_wp2_with fail
  refine D.out.mono ?_
  rintro e w2 ⟨⟨B, d, rfl, hB⟩, hb2⟩
  have HB := Lib.hid hB
  clear hB
  go_wp2_with fail
  go_ret
  exact ⟨⟨B, d, rfl, HB.out.low hbz⟩, nextC hb hb2⟩
theorem left_of (recv : Value) (k : Key) (p : Nat) (s : Pst) (A A' : Option Addr) (w : World) (hC : Calls Try.prog 31 #[recv, nm k] w (FindIs w p s A A')) (ho : PoolOk s.size s.h s.l) :
    Calls Try.prog 16 #[recv, nm k] w fun e w' => e = .returned (.int .i64 (leftI s.size s.h)) ∧ Below w.heap.size w w' := by
  have C := Lib.hid hC
  clear hC
  go_enter Try.func16, Try.ntmps16
  go_wp2_with fail
  refine C.out.mono ?_
  rintro e w1 ⟨rfl, ⟨c, c', h1, h2, h3, h4⟩, hb⟩
  have D := Lib.hid (left_any p s.size A c s.h _ w1 h1 (RkO.rks enP_len h2) ⟨by have := ho.few; omega, ho.hs⟩ ho.s0 ho.s1)
  clear h1 h2 h3 h4 C
  go_wp2_with fail
  refine D.out.mono ?_
  rintro e w2 ⟨rfl, hb2⟩
  go_wp2_with fail
  go_ret
  exact ⟨rfl, nextC hb hb2⟩
theorem zero_at (w : World) : PoolAt (w.alloc (.cells #[.int .i64 0, .slice none 0 0, .slice none 0 0] 77)) w.heap.size zeroP.size zeroP.h zeroP.l none none :=
  ⟨0, 0, Row.new w _ _, RkO.nil _ _, RkO.nil _ _, fun g e => by cases e⟩
theorem find_none (k : Key) (w : World) : Calls Try.prog 31 #[.pointer none, nm k] w (FindIs w w.heap.size zeroP none none) :=
  (find_nil k w).mono fun e w' ⟨h1, h2⟩ => by
    subst h2
    exact ⟨h1, zero_at w, (Below.refl _ _).alloc (Nat.le_refl _) _⟩
theorem find_any (g b : Nat) (st : Bk) (ys : List Wh) (k : Key) (w : World) (h : BkAt w g b st ys) (hk : k.length ≤ 1000000) : ∃ p A A', Calls Try.prog 31 #[.pointer (some ⟨g, 0, none⟩), nm k] w (FindIs w p (getZ st k) A A') := by
  unfold getZ
  rcases hs : stGet st k with _ | s
  · exact ⟨_, _, _, (find_no g b st ys k w h (bkGet_none hs) hk).mono fun e w' ⟨h1, h2⟩ => by
      subst h2
      exact ⟨h1, zero_at w, (Below.refl _ _).alloc (Nat.le_refl _) _⟩⟩
  · obtain ⟨y, hy⟩ := h.some_ hs
    obtain ⟨es, hm, hd⟩ := h.map
    exact ⟨y.p, y.A, y.A', (find_yes g b st ys k s y w h hy hk).mono fun e w' ⟨h1, h2⟩ => by
      subst h2
      exact ⟨h1, hd.pool hy, Below.refl _ _⟩⟩
theorem BkOk.getZ {n : Nat} {st : Bk} (h : BkOk n st) (k : Key) : Has n (getZ st k) := by
  unfold Go.Proofs.Ytaikjobebbighaa.getZ
  rcases hs : stGet st k with _ | s
  · exact zeroP_has n (by omega) (by omega)
  · exact h k s hs
theorem holders_any (n : Nat) (g b : Nat) (st : Bk) (ys : List Wh) (k : Key) (w : World) (h : BkAt w g b st ys) (ok : BkOk n st) (hk : k.length ≤ 1000000) :
    Calls Try.prog 14 #[.pointer (some ⟨g, 0, none⟩), nm k] w fun e w' => (∃ B d, e = .returned (.slice B (getZ st k).h.length d) ∧ PlO w.heap.size w' B d (getZ st k).h) ∧ Below w.heap.size w w' := by
  obtain ⟨p, A, A', hC⟩ := find_any g b st ys k w h hk
  exact holders_of _ k p _ A A' w hC (ok.getZ k).good.ok
theorem line_any (n : Nat) (g b : Nat) (st : Bk) (ys : List Wh) (k : Key) (w : World) (h : BkAt w g b st ys) (ok : BkOk n st) (hk : k.length ≤ 1000000) :
    Calls Try.prog 15 #[.pointer (some ⟨g, 0, none⟩), nm k] w fun e w' => (∃ B d, e = .returned (.slice B (getZ st k).l.length d) ∧ PlO w.heap.size w' B d (getZ st k).l) ∧ Below w.heap.size w w' := by
  obtain ⟨p, A, A', hC⟩ := find_any g b st ys k w h hk
  exact line_of _ k p _ A A' w hC (ok.getZ k).good.ok
theorem left_book (n : Nat) (g b : Nat) (st : Bk) (ys : List Wh) (k : Key) (w : World) (h : BkAt w g b st ys) (ok : BkOk n st) (hk : k.length ≤ 1000000) :
    Calls Try.prog 16 #[.pointer (some ⟨g, 0, none⟩), nm k] w fun e w' => e = .returned (.int .i64 (leftI (getZ st k).size (getZ st k).h)) ∧ Below w.heap.size w w' := by
  obtain ⟨p, A, A', hC⟩ := find_any g b st ys k w h hk
  exact left_of _ k p _ A A' w hC (ok.getZ k).good.ok
theorem holders_nil (k : Key) (w : World) : Calls Try.prog 14 #[.pointer none, nm k] w fun e w' => (∃ B d, e = .returned (.slice B 0 d) ∧ PlO w.heap.size w' B d []) ∧ Below w.heap.size w w' :=
  holders_of _ k _ zeroP none none w (find_none k w) (zeroP_ok (n := 0) (by omega) (by omega))
theorem line_nil (k : Key) (w : World) : Calls Try.prog 15 #[.pointer none, nm k] w fun e w' => (∃ B d, e = .returned (.slice B 0 d) ∧ PlO w.heap.size w' B d []) ∧ Below w.heap.size w w' :=
  line_of _ k _ zeroP none none w (find_none k w) (zeroP_ok (n := 0) (by omega) (by omega))
theorem left_nil (k : Key) (w : World) : Calls Try.prog 16 #[.pointer none, nm k] w fun e w' => e = .returned (.int .i64 0) ∧ Below w.heap.size w w' :=
  left_of _ k _ zeroP none none w (find_none k w) (zeroP_ok (n := 0) (by omega) (by omega))
end Go.Proofs.Ytaikjobebbighaa
