/- Slots: the look-up of a pool; Book.find, Left. -/
import Derived.Test.YtaikjobebbighaaSlH
namespace Go.Proofs.Ytaikjobebbighaa
set_option linter.unusedVariables false
set_option maxRecDepth 100000
open Go.RowKit
/-- A name. -/
abbrev nm (k : Key) : Value := .string ⟨k.toArray⟩
theorem key_nm (k : Key) (hk : k.length ≤ 1000000) : keyOf Try.prog 9 (nm k) = some (.string k) := by
  have h : k.length ≤ maxLen := by unfold maxLen; omega
  simp [keyOf, Try.underlying9, mapKey]
  show k.toArray.size ≤ maxLen
  simpa using h
/-- The look-up of a name: its run. -/
theorem BkAt.look {w : World} {g b : Nat} {st : Bk} {ys : List Wh} (h : BkAt w g b st ys) (k : Key) (hk : k.length ≤ 1000000) :
    (Instr.lookup 72 (.map (some b)) (nm k) false).run Try.prog w = .ok (ptrOf (bkGet st ys k)) w := by
  obtain ⟨es, hm, hd⟩ := h.map
  have h1 := hd.get k
  obtain ⟨v', ps, hrun, hv⟩ := hm.lookup (Maps.string_keyed Try.underlying9) Try.underlying72 (Try.zeroValue75 w) (zd := .held (.pointer none)) (zp := []) rfl (key := nm k) (kl := .string k) (key_nm k hk)
  rw [h1] at hv
  simp only [rawR, Option.some.injEq, Prod.mk.injEq, DataW.held.injEq] at hv
  obtain ⟨rfl, -⟩ := hv
  exact hrun
/-- The pool of a name that has one. -/
theorem find_yes (g b : Nat) (st : Bk) (ys : List Wh) (k : Key) (s : Pst) (y : Wh) (w : World) (h : BkAt w g b st ys) (hg : bkGet st ys k = some (s, y)) (hk : k.length ≤ 1000000) :
    Calls Try.prog 31 #[.pointer (some ⟨g, 0, none⟩), nm k] w fun e w' => e = .returned (.pointer (some ⟨y.p, 0, none⟩)) ∧ w = w' := by
  have c := h.row.cell 0
  simp at c
  have hl := h.look k hk
  rw [hg] at hl
  have hl2 : (Instr.lookup 72 (.map (some b)) (nm k) false).run Try.prog w = .ok (.pointer (some ⟨y.p, 0, none⟩)) w := hl
  clear hl h
  go_enter Try.func31, Try.ntmps31
  go_wp2_with fail
  go_ret
  exact ⟨rfl, rfl⟩
theorem Left_yes (g b : Nat) (st : Bk) (ys : List Wh) (k : Key) (s : Pst) (y : Wh) (w : World) (h : BkAt w g b st ys) (hg : bkGet st ys k = some (s, y)) (hk : k.length ≤ 1000000) (ho : PoolOk s.size s.h s.l) :
    Calls Try.prog 16 #[.pointer (some ⟨g, 0, none⟩), nm k] w fun e w' => e = .returned (.int .i64 (leftI s.size s.h)) ∧ Below w.heap.size w w' := by
  obtain ⟨es, hm, hd⟩ := h.map
  obtain ⟨c, c', h1, h2, h3, h4⟩ := hd.pool hg
  have C := Lib.hid (find_yes g b st ys k s y w h hg hk)
  have D := Lib.hid (left_any y.p s.size y.A c s.h _ w h1 (RkO.rks enP_len h2) ⟨by have := ho.few; omega, ho.hs⟩ ho.s0 ho.s1)
  clear h hd hm h1 h2 h3 h4
  go_enter Try.func16, Try.ntmps16
  go_wp2_with fail
  refine C.out.mono ?_
  rintro e w1 ⟨rfl, rfl⟩
  go_wp2_with fail
  refine D.out.mono ?_
  rintro e w2 ⟨rfl, hb⟩
  go_wp2_with fail
  go_ret
  exact ⟨rfl, hb⟩
theorem Holders_yes (g b : Nat) (st : Bk) (ys : List Wh) (k : Key) (s : Pst) (y : Wh) (w : World) (h : BkAt w g b st ys) (hg : bkGet st ys k = some (s, y)) (hk : k.length ≤ 1000000) (ho : PoolOk s.size s.h s.l) :
    Calls Try.prog 14 #[.pointer (some ⟨g, 0, none⟩), nm k] w fun e w' => (∃ B d, e = .returned (.slice B s.h.length d) ∧ PlO w.heap.size w' B d s.h) ∧ Below w.heap.size w w' := by
  obtain ⟨es, hm, hd⟩ := h.map
  obtain ⟨c, c', h1, h2, h3, h4⟩ := hd.pool hg
  have C := Lib.hid (find_yes g b st ys k s y w h hg hk)
  have k1 : w.cell? ⟨y.p, 1, none⟩ = some (.slice y.A s.h.length c) := (h1.cell 1).trans rfl
  have hA0 : y.A = none → c = 0 := fun e => by
    rcases h2.form with ⟨_, e2, _⟩ | ⟨g', e2, _⟩
    · exact e2
    · rw [e] at e2; cases e2
  have D := Lib.hid (clone_any y.A c s.h w (RkO.rks enP_len h2) hA0 (by have := ho.few; omega))
  clear h hd hm h1 h2 h3 h4
  go_enter Try.func14, Try.ntmps14
  go_wp2_with fail
  refine C.out.mono ?_
  rintro e w1 ⟨rfl, rfl⟩
  go_wp2_with fail
  refine D.out.mono ?_
  rintro e w2 ⟨⟨B, d, rfl, hB⟩, hb⟩
  have HB := Lib.hid hB
  clear hB
  go_wp2_with fail
  go_ret
  exact ⟨⟨B, d, rfl, HB.out⟩, hb⟩
theorem Line_yes (g b : Nat) (st : Bk) (ys : List Wh) (k : Key) (s : Pst) (y : Wh) (w : World) (h : BkAt w g b st ys) (hg : bkGet st ys k = some (s, y)) (hk : k.length ≤ 1000000) (ho : PoolOk s.size s.h s.l) :
    Calls Try.prog 15 #[.pointer (some ⟨g, 0, none⟩), nm k] w fun e w' => (∃ B d, e = .returned (.slice B s.l.length d) ∧ PlO w.heap.size w' B d s.l) ∧ Below w.heap.size w w' := by
  obtain ⟨es, hm, hd⟩ := h.map
  obtain ⟨c, c', h1, h2, h3, h4⟩ := hd.pool hg
  have C := Lib.hid (find_yes g b st ys k s y w h hg hk)
  have k1 : w.cell? ⟨y.p, 2, none⟩ = some (.slice y.A' s.l.length c') := (h1.cell 2).trans rfl
  have hA0 : y.A' = none → c' = 0 := fun e => by
    rcases h3.form with ⟨_, e2, _⟩ | ⟨g', e2, _⟩
    · exact e2
    · rw [e] at e2; cases e2
  have D := Lib.hid (clone_any y.A' c' s.l w (RkO.rks enP_len h3) hA0 (by have := ho.few; omega))
  clear h hd hm h1 h2 h3 h4
  go_enter Try.func15, Try.ntmps15
  go_wp2_with fail
  refine C.out.mono ?_
  rintro e w1 ⟨rfl, rfl⟩
  go_wp2_with fail
  refine D.out.mono ?_
  rintro e w2 ⟨⟨B, d, rfl, hB⟩, hb⟩
  have HB := Lib.hid hB
  clear hB
  go_wp2_with fail
  go_ret
  exact ⟨⟨B, d, rfl, HB.out⟩, hb⟩
/-- No pool of that name: an empty one, made here. -/
theorem find_no (g b : Nat) (st : Bk) (ys : List Wh) (k : Key) (w : World) (h : BkAt w g b st ys) (hg : bkGet st ys k = none) (hk : k.length ≤ 1000000) :
    Calls Try.prog 31 #[.pointer (some ⟨g, 0, none⟩), nm k] w fun e w' => e = .returned (.pointer (some ⟨w.heap.size, 0, none⟩)) ∧ w' = w.alloc (.cells #[.int .i64 0, .slice none 0 0, .slice none 0 0] 77) := by
  have c := h.row.cell 0
  simp at c
  have hl := h.look k hk
  rw [hg] at hl
  have hl2 : (Instr.lookup 72 (.map (some b)) (nm k) false).run Try.prog w = .ok (.pointer none) w := hl
  clear hl h
  go_enter Try.func31, Try.ntmps31
  go_wp2_with fail
  go_ret
  exact ⟨rfl, rfl⟩
theorem find_nil (k : Key) (w : World) :
    Calls Try.prog 31 #[.pointer none, nm k] w fun e w' => e = .returned (.pointer (some ⟨w.heap.size, 0, none⟩)) ∧ w' = w.alloc (.cells #[.int .i64 0, .slice none 0 0, .slice none 0 0] 77) := by
  go_enter Try.func31, Try.ntmps31
  go_wp2_with fail
  go_ret
  exact ⟨rfl, rfl⟩
end Go.Proofs.Ytaikjobebbighaa
