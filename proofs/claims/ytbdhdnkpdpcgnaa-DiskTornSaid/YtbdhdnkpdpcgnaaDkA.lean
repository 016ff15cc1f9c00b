/- Contracts of disk.New, there, may. -/
import Derived.Test.YtbdhdnkpdpcgnaaDkW
import Derived.Test.YtbdhdnkpdpcgnaaByS
import Derived.Lib.Hide
namespace Go.Proofs.Ytbdhdnkpdpcgnaa
set_option linter.unusedVariables false
open Go.RowKit
variable {FR : Nat → Prop}
/-- A name. -/
abbrev nm (k : Key) : Value := .string ⟨k.toArray⟩
theorem kp_below {w w' : World} (b : Nat) (h : Below w.heap.size w w') : w.grownBy w' (some b) := ⟨h.os, h.tape, h.output, h.size, fun k hk _ => h.block k hk⟩
theorem below_kp {B b : Nat} {w0 w w' : World} (h : Below B w0 w) (hB : B ≤ w.heap.size) (hb : B ≤ b) (hg : w.grownBy w' (some b)) : Below B w0 w' := h.grown hg hB fun k hk => by injection hk with e; omega
theorem ownsMap_below {w w' : World} {k : TypeId} {b n : Nat} {D : DataW Value} (h : w.ownsMap Try.prog k rawR b n D) (hb : Below w.heap.size w w') : w'.ownsMap Try.prog k rawR b n D := h.kept (row := none) ⟨hb.os, hb.tape, hb.output, hb.size, fun i hi _ => hb.block i hi⟩ (by simp)
theorem DiskAt.below {w w' : World} {g b : Nat} {st : Files} (h : DiskAt FR w g b st) (hb : Below w.heap.size w w') : DiskAt FR w' g b st := by
  obtain ⟨es, hm, hd⟩ := h.map
  exact ⟨h.row.over hb, ⟨es, ownsMap_below hm hb, hd.stays (Stays.below hb)⟩, fun x hx => Nat.lt_of_lt_of_le (h.far x hx) hb.size⟩
theorem DiskAt.drewN {w : World} {g b : Nat} {st : Files} (h : DiskAt FR w g b st) (q : Nat) : DiskAt FR (w.drewN q) g b st := h.below (below_drewN (Below.refl _ _) q)
theorem DiskAt.ltg {w : World} {g b : Nat} {st : Files} (h : DiskAt FR w g b st) : g < w.heap.size := h.row.lt
theorem DiskAt.ltb {w : World} {g b : Nat} {st : Files} (h : DiskAt FR w g b st) : b < w.heap.size := by
  obtain ⟨es, hm, hd⟩ := h.map
  exact hm.lt
theorem neq_map (b : Nat) (W : World) : (binOp .neq 37 (.map (some b)) (.map none)).run Try.prog W = .ok (.bool true) W := rfl
theorem neq_map0 (W : World) : (binOp .neq 37 (.map none) (.map none)).run Try.prog W = .ok (.bool false) W := rfl
theorem there_any (g b : Nat) (st : Files) (w : World) (h : DiskAt FR w g b st) : Calls Try.prog 25 #[.pointer (some ⟨g, 0, none⟩)] w fun e w' => e = .returned (.bool true) ∧ w = w' := by
  have c := h.row.cell 0
  simp at c
  clear h
  have hE := neq_map b
  go_enter Try.func25, Try.ntmps25
  go_wp2_with fail
  go_ret
  exact ⟨rfl, rfl⟩
theorem there_nil (w : World) : Calls Try.prog 25 #[.pointer none] w fun e w' => e = .returned (.bool false) ∧ w = w' := by
  go_enter Try.func25, Try.ntmps25
  go_wp2_with fail
  go_ret
  exact ⟨rfl, rfl⟩
theorem there_zero (g : Nat) (w : World) (h : Row w g 39 #[.map none]) : Calls Try.prog 25 #[.pointer (some ⟨g, 0, none⟩)] w fun e w' => e = .returned (.bool false) ∧ w = w' := by
  have c := h.cell 0
  simp at c
  clear h
  have hE := neq_map0
  go_enter Try.func25, Try.ntmps25
  go_wp2_with fail
  go_ret
  exact ⟨rfl, rfl⟩
theorem may_ok (g b : Nat) (st : Files) (k : Key) (w : World) (h : DiskAt FR w g b st) (h1 : 1 ≤ k.length) (h2 : k.length ≤ 64) : Calls Try.prog 17 #[.pointer (some ⟨g, 0, none⟩), nm k] w fun e w' => e = .returned (.int .i64 0) ∧ w = w' := by
  have C := Lib.hid (there_any g b st w h)
  have d1 : decide ((k.length : Int) < 1) = false := decide_eq_false (by omega)
  have d2 : decide ((64 : Int) < (k.length : Int)) = false := decide_eq_false (by omega)
  clear h
  go_enter Try.func17, Try.ntmps17
  go_wp2_with fail
  refine C.out.mono ?_
  rintro e w1 ⟨rfl, rfl⟩
  go_wp2_with fail
  go_ret
  exact ⟨rfl, rfl⟩
theorem may_no (p : Option Addr) (s : ByteArray) (w : World) (C : Calls Try.prog 25 #[.pointer p] w fun e w' => e = .returned (.bool false) ∧ w = w') : Calls Try.prog 17 #[.pointer p, .string s] w fun e w' => e = .returned (.int .i64 1) ∧ w = w' := by
  have C := Lib.hid C
  go_enter Try.func17, Try.ntmps17
  go_wp2_with fail
  refine C.out.mono ?_
  rintro e w1 ⟨rfl, rfl⟩
  go_wp2_with fail
  go_ret
  exact ⟨rfl, rfl⟩
theorem new_any (w : World) (hf : ∀ x, FR x → x < w.heap.size) : Calls Try.prog 6 #[] w fun e w' => ∃ g b, e = .returned (.pointer (some ⟨g, 0, none⟩)) ∧ w.heap.size ≤ g ∧ w.heap.size ≤ b ∧ DiskAt FR w' g b [] ∧ Below w.heap.size w w' := by
  have hmm := @run_makeMap Try.prog
  go_enter Try.func6, Try.ntmps6
  go_wp2_with fail
  go_ret
  refine ⟨_, w.heap.size, rfl, by simp, Nat.le_refl _, ⟨?_, ⟨[], (World.ownsMap_made w _ _ _).alloc _, trivial⟩, fun x hx => by have := hf x hx; simp; omega⟩, ((Below.refl _ w).alloc (Nat.le_refl _) _).alloc (by simp) _⟩
  have := Row.new (w.alloc (.map #[] 0)) 39 #[.map (some w.heap.size)]
  simpa using this
end Go.Proofs.Ytbdhdnkpdpcgnaa
