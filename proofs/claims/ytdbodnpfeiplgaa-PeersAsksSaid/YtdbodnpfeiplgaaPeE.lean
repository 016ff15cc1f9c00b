/- Contracts of peers.Add and of the reference's Add. -/
import Derived.Test.YtdbodnpfeiplgaaPeS
namespace Go.Proofs.Ytdbodnpfeiplgaa
set_option linter.unusedVariables false
open Go.RowKit

/-- What Add answers: the row, the Errno. -/
def addE (l : List Int) (id : Int) : Int := if mayP l = true ∧ id ≠ 0 then (if hasL l id = true then 130 else if 7 ≤ l.length then 6 else 0) else 2
def addL (l : List Int) (id : Int) : List Int := if addE l id = 0 then srt (l ++ [id]) else []
theorem add_bad (A : Option Addr) (c : Nat) (l : List Int) (id : Int) (w : World) (h : Sl w .u64 A l) (hl : l.length ≤ 1000000) (hb : ¬ (mayP l = true ∧ id ≠ 0)) :
    Calls Try.prog 13 #[.slice A l.length c, .int .u64 id] w fun e w' => e = .returned (.tuple #[.slice none 0 0, .int .i64 2]) ∧ w = w' := by
  have C := may_any A c l w h (by omega)
  by_cases hm : mayP l = true
  · have hid : id = 0 := Classical.byContradiction fun hne => hb ⟨hm, hne⟩
    subst hid
    rw [hm] at C
    have C := Lib.hid C
    clear hb hm
    go_enter Try.func13, Try.ntmps13
    go_wp2_with fail
    refine C.out.mono ?_
    rintro e w1 ⟨rfl, rfl⟩
    go_wp2_with fail
    go_ret2
    exact ⟨rfl, rfl⟩
  · rw [Bool.not_eq_true] at hm
    rw [hm] at C
    have C := Lib.hid C
    clear hb hm
    go_enter Try.func13, Try.ntmps13
    go_wp2_with fail
    refine C.out.mono ?_
    rintro e w1 ⟨rfl, rfl⟩
    go_wp2_with fail
    go_ret2
    exact ⟨rfl, rfl⟩

theorem add_twice (A : Option Addr) (c : Nat) (l : List Int) (id : Int) (w : World) (h : Sl w .u64 A l) (hl : l.length ≤ 1000000) (hm : mayP l = true) (h0 : id ≠ 0) (hh : hasL l id = true) :
    Calls Try.prog 13 #[.slice A l.length c, .int .u64 id] w fun e w' => e = .returned (.tuple #[.slice none 0 0, .int .i64 130]) ∧ w = w' := by
  have C := may_any A c l w h (by omega)
  have D := contains_any A c l id w h (by omega)
  rw [hm] at C
  rw [hh] at D
  have C := Lib.hid C
  have D := Lib.hid D
  have b0 : (id == 0) = false := beq_eq_false_iff_ne.2 h0
  clear hm hh h0
  go_enter Try.func13, Try.ntmps13
  go_wp2_with fail
  refine C.out.mono ?_
  rintro e w1 ⟨rfl, rfl⟩
  go_wp2_with fail
  refine D.out.mono ?_
  rintro e w1 ⟨rfl, rfl⟩
  go_wp2_with fail
  go_ret2
  exact ⟨rfl, rfl⟩

theorem add_full (A : Option Addr) (c : Nat) (l : List Int) (id : Int) (w : World) (h : Sl w .u64 A l) (hl : l.length ≤ 1000000) (hm : mayP l = true) (h0 : id ≠ 0) (hh : hasL l id = false) (h7 : 7 ≤ l.length) :
    Calls Try.prog 13 #[.slice A l.length c, .int .u64 id] w fun e w' => e = .returned (.tuple #[.slice none 0 0, .int .i64 6]) ∧ w = w' := by
  have C := may_any A c l w h (by omega)
  have D := contains_any A c l id w h (by omega)
  rw [hm] at C
  rw [hh] at D
  have C := Lib.hid C
  have D := Lib.hid D
  have b0 : (id == 0) = false := beq_eq_false_iff_ne.2 h0
  clear hm hh h0
  go_enter Try.func13, Try.ntmps13
  go_wp2_with fail
  refine C.out.mono ?_
  rintro e w1 ⟨rfl, rfl⟩
  go_wp2_with fail
  refine D.out.mono ?_
  rintro e w1 ⟨rfl, rfl⟩
  go_wp2_with fail
  go_ret2
  exact ⟨rfl, rfl⟩

set_option maxHeartbeats 1000000 in
theorem add_ok (A : Option Addr) (c : Nat) (l : List Int) (id : Int) (w : World) (h : Sl w .u64 A l) (hl : l.length ≤ 1000000) (hm : mayP l = true) (h0 : id ≠ 0) (hh : hasL l id = false) (h7 : l.length < 7) :
    Calls Try.prog 13 #[.slice A l.length c, .int .u64 id] w fun e w' => ∃ B d, e = .returned (.tuple #[.slice B (srt (l ++ [id])).length d, .int .i64 0]) ∧ OwnU w.heap.size w' B d (srt (l ++ [id])) ∧ Below w.heap.size w w' := by
  have C := may_any A c l w h (by omega)
  have D := contains_any A c l id w h (by omega)
  rw [hm] at C
  rw [hh] at D
  have C := Lib.hid C
  have D := Lib.hid D
  have E := Lib.hid (clone_any A c l w h hl)
  have b0 : (id == 0) = false := beq_eq_false_iff_ne.2 h0
  have b7 : decide (7 ≤ l.length) = false := decide_eq_false (by omega)
  clear hm hh h0 h
  go_enter Try.func13, Try.ntmps13
  go_wp2_with fail
  refine C.out.mono ?_
  rintro e w1 ⟨rfl, rfl⟩
  go_wp2_with fail
  refine D.out.mono ?_
  rintro e w1 ⟨rfl, rfl⟩
  go_wp2_with fail
  refine E.out.mono ?_
  rintro e w1 ⟨B, d, rfl, hown, hb1⟩
  have HB := Lib.hid hb1
  have hz := hb1.size
  have HW := Lib.hid hown
  clear hb1 hown
  go_wp2_with (at_builtin; refine app1U rfl _ _ rfl w.heap.size B _ d l id rfl rfl HW.out rfl hz hl ?_)
  intro B' d' w2 hown2 hgrow hb2
  have hn : (l ++ [id]).length = l.length + 1 := by simp
  have S := sort_own w.heap.size B' d' (l ++ [id]) w2 hown2 (by simp) (by rw [hn]; omega)
  rw [hn] at S
  have S := Lib.hid S
  have q2 : Below w.heap.size w w2 := HB.out.trans hb2
  have HO := Lib.hid hown2
  have hz2 := q2.size
  have Q2 := Lib.hid q2
  clear hown2 hgrow hn q2 hb2
  go_wp2_with fail
  refine S.out.mono ?_
  rintro e w3 ⟨rfl, hown4, hgrow4⟩
  have q3 : Below w.heap.size w w3 := Q2.out.grown hgrow4 hz2 (fun g hg => OwnU.base_ HO.out (by simpa using hg))
  go_wp2
  go_ret2
  refine ⟨B', d', by rw [srt_len]; simp, ?_, q3⟩
  unfold OwnU
  rw [srt_len, List.length_append]
  simpa using hown4

theorem add_any (A : Option Addr) (c : Nat) (l : List Int) (id : Int) (w : World) (h : Sl w .u64 A l) (hl : l.length ≤ 1000000) :
    Calls Try.prog 13 #[.slice A l.length c, .int .u64 id] w fun e w' => ∃ B d, e = .returned (.tuple #[.slice B (addL l id).length d, .int .i64 (addE l id)]) ∧ OwnU w.heap.size w' B d (addL l id) ∧ Below w.heap.size w w' := by
  by_cases hb : mayP l = true ∧ id ≠ 0
  · obtain ⟨hm, h0⟩ := hb
    by_cases hh : hasL l id = true
    · have e1 : addE l id = 130 := by unfold addE; rw [if_pos ⟨hm, h0⟩, if_pos hh]
      have e2 : addL l id = [] := by unfold addL; rw [e1]; rfl
      rw [e1, e2]
      exact (add_twice A c l id w h hl hm h0 hh).mono fun e w' ⟨he, hw⟩ => ⟨none, 0, he, .nil _ _, hw ▸ Below.refl _ _⟩
    · by_cases h7 : 7 ≤ l.length
      · have e1 : addE l id = 6 := by unfold addE; rw [if_pos ⟨hm, h0⟩, if_neg hh, if_pos h7]
        have e2 : addL l id = [] := by unfold addL; rw [e1]; rfl
        rw [e1, e2]
        exact (add_full A c l id w h hl hm h0 (by simpa using hh) h7).mono fun e w' ⟨he, hw⟩ => ⟨none, 0, he, .nil _ _, hw ▸ Below.refl _ _⟩
      · have e1 : addE l id = 0 := by unfold addE; rw [if_pos ⟨hm, h0⟩, if_neg hh, if_neg h7]
        have e2 : addL l id = srt (l ++ [id]) := by unfold addL; rw [e1]; rfl
        rw [e1, e2]
        exact add_ok A c l id w h hl hm h0 (by simpa using hh) (by omega)
  · have e1 : addE l id = 2 := by unfold addE; rw [if_neg hb]
    have e2 : addL l id = [] := by unfold addL; rw [e1]; rfl
    rw [e1, e2]
    exact (add_bad A c l id w h hl hb).mono fun e w' ⟨he, hw⟩ => ⟨none, 0, he, .nil _ _, hw ▸ Below.refl _ _⟩
end Go.Proofs.Ytdbodnpfeiplgaa
