/- Contract of graph.Order; contracts at rows of any length. -/
import Derived.Test.YtceeopjmdfefjaaGrY
import Derived.Test.YtceeopjmdfefjaaGrQ
namespace Go.Proofs.Ytceeopjmdfefjaa
set_option linter.unusedVariables false
open Go.RowKit Go.Sort
section
variable (A : Option Addr) (c : Nat) (l : List Nd) (w : World)
theorem mayG_all (h : NdS w A l) (hd : ∀ n ∈ l, n.deps.length ≤ 12) (hw : ∀ n ∈ l, (Lit.int .u64 n.id).wf = true) :
    Calls Try.prog 10 #[.slice A l.length c] w fun e w' => e = .returned (.int .i64 (mayE l)) ∧ Below w.heap.size w w' := by
  by_cases hl : 64 < l.length
  · refine (may_long A c l w hl).mono ?_
    rintro e w' ⟨rfl, rfl⟩
    exact ⟨by rw [mayE_long hl], Below.refl _ _⟩
  · exact may_any A c l w h (by omega) (fun n hn => by have := hd n hn; omega) hw
theorem refMay_all (h : NdS w A l) (hd : ∀ n ∈ l, n.deps.length ≤ 12) (hlc : l.length ≤ c) :
    Calls Try.prog 11 #[.slice A l.length c] w fun e w' => e = .returned (.int .i64 (mayE l)) ∧ Below w.heap.size w w' := by
  by_cases hl : 64 < l.length
  · refine (refMay_long A c l w hl).mono ?_
    rintro e w' ⟨rfl, rfl⟩
    exact ⟨by rw [mayE_long hl], Below.refl _ _⟩
  · exact refMay_any A c l w h (by omega) hlc (fun n hn => by have := hd n hn; omega)
theorem usersG_all (id : Int) (h : NdS w A l) (hd : ∀ n ∈ l, n.deps.length ≤ 12) :
    Calls Try.prog 13 #[.slice A l.length c, .int .u64 id] w fun e w' => ∃ B d us, e = .returned (.slice B us.length d) ∧ UsL l id us ∧ OwnU w.heap.size w' B d us ∧ Below w.heap.size w w' := by
  by_cases hl : 64 < l.length
  · refine (users_long A c l.length id w hl).mono ?_
    rintro e w' ⟨rfl, rfl⟩
    exact ⟨none, 0, [], rfl, .inl ⟨hl, rfl⟩, OwnU.nil _ _, Below.refl _ _⟩
  · refine (users_any A c l id w h (by omega) (fun n hn => by have := hd n hn; omega)).mono ?_
    rintro e w' ⟨B, d, us, rfl, hu, ho, hb⟩
    exact ⟨B, d, us, rfl, .inr ⟨by omega, hu⟩, ho, hb⟩
theorem refUsers_all (id : Int) (h : NdS w A l) (hd : ∀ n ∈ l, n.deps.length ≤ 12) :
    Calls Try.prog 14 #[.slice A l.length c, .int .u64 id] w fun e w' => ∃ B d us, e = .returned (.slice B us.length d) ∧ UsL l id us ∧ OwnU w.heap.size w' B d us ∧ Below w.heap.size w w' := by
  by_cases hl : 64 < l.length
  · refine (refUsers_long A c l.length id w hl).mono ?_
    rintro e w' ⟨rfl, rfl⟩
    exact ⟨none, 0, [], rfl, .inl ⟨hl, rfl⟩, OwnU.nil _ _, Below.refl _ _⟩
  · refine (refUsers_any A c l id w h (by omega) (fun n hn => by have := hd n hn; omega)).mono ?_
    rintro e w' ⟨B, d, us, rfl, hu, ho, hb⟩
    exact ⟨B, d, us, rfl, .inr ⟨by omega, hu⟩, ho, hb⟩
theorem reachG_all (fr tg : Int) (h : NdS w A l) (hd : ∀ n ∈ l, n.deps.length ≤ 12) (hw : ∀ n ∈ l, ∀ x ∈ n.deps, (Lit.int .u64 x).wf = true) :
    Calls Try.prog 15 #[.slice A l.length c, .int .u64 fr, .int .u64 tg] w fun e w' => e = .returned (.bool (rchB l fr tg)) ∧ Below w.heap.size w w' := by
  by_cases hl : 64 < l.length
  · exact reach_long A c l fr tg w hl
  · exact reach_any A c l fr tg w h (by omega) hd hw
theorem refReach_all (fr tg : Int) (h : NdS w A l) (hd : ∀ n ∈ l, n.deps.length ≤ 12) :
    Calls Try.prog 16 #[.slice A l.length c, .int .u64 fr, .int .u64 tg] w fun e w' => e = .returned (.bool (rchB l fr tg)) ∧ Below w.heap.size w w' := by
  by_cases hl : 64 < l.length
  · exact refReach_long A c l fr tg w hl
  · exact refReach_any A c l fr tg w h (by omega) hd
/-- An answer of Order. -/
def OrdA (l : List Nd) (w w' : World) (e : Ending) : Prop := Below w.heap.size w w' ∧ ∃ B d out, e = .returned (.tuple #[.slice B out.length d, .int .i64 (mayE l)]) ∧ (if mayE l = 0 then Ends l out else out = []) ∧ OwnU w.heap.size w' B d out
theorem refOrd_all (h : NdS w A l) (hd : ∀ n ∈ l, n.deps.length ≤ 12) (hlc : l.length ≤ c) :
    Calls Try.prog 9 #[.slice A l.length c] w fun e w' => OrdA l w w' e := by
  by_cases hl : 64 < l.length
  · refine (refOrder_long A c l w hl).mono ?_
    rintro e w' ⟨rfl, rfl⟩
    refine ⟨Below.refl _ _, none, 0, [], by rw [mayE_long hl]; rfl, ?_, OwnU.nil _ _⟩
    rw [mayE_long hl]
    rfl
  · refine (refOrder_any A c l w h (by omega) hlc (fun n hn => by have := hd n hn; omega)).mono ?_
    rintro e w' ⟨hb, ⟨hne, rfl⟩ | ⟨h0, B, d, out, rfl, he, ho⟩⟩
    · exact ⟨hb, none, 0, [], rfl, by rw [if_neg hne], OwnU.nil _ _⟩
    · exact ⟨hb, B, d, out, by rw [h0], by rw [if_pos h0]; exact he, ho⟩
set_option maxHeartbeats 1000000 in
set_option maxRecDepth 100000 in
theorem ordG_all (h : NdS w A l) (hd : ∀ n ∈ l, n.deps.length ≤ 12) (hw : ∀ n ∈ l, (Lit.int .u64 n.id).wf = true) :
    Calls Try.prog 8 #[.slice A l.length c] w fun e w' => OrdA l w w' e := by
  have C1 := Lib.hid (mayG_all A c l w h hd hw)
  have H := Lib.hid h
  have HW := Lib.hid hw
  obtain ⟨e0, he0⟩ : ∃ e0, mayE l = e0 := ⟨_, rfl⟩
  unfold OrdA
  rw [he0] at C1 ⊢
  have HE := Lib.hid he0
  clear h hd hw he0
  by_cases h0 : e0 = 0
  · subst h0
    have hfine := (mayE_ok.1 HE.out).1
    have HF := Lib.hid hfine
    clear hfine
    go_enter Try.func8, Try.ntmps8
    go_wp2_with fail
    refine C1.out.mono ?_
    rintro e w1 ⟨rfl, hb1⟩
    have C2 := Lib.hid (order_any A c l w1 (H.out.over hb1) HF.out HW.out)
    have K1 := Lib.hid hb1
    clear hb1 C1
    go_wp2_with fail
    refine C2.out.mono ?_
    rintro e w2 ⟨B, d, out, rfl, hends, hown, hb2⟩
    have K2 := Lib.hid (nextC K1.out hb2)
    have OW := Lib.hid (show OwnU w.heap.size w2 B d out from hown.low K1.out.size)
    have HE2 := Lib.hid hends
    clear hb2 hown hends C2
    go_wp2_with fail
    go_ret2
    exact ⟨K2.out, B, d, out, rfl, HE2.out, OW.out⟩
  · have t1 : (e0 != 0) = true := by simpa using h0
    have HN := Lib.hid h0
    clear h0
    go_enter Try.func8, Try.ntmps8
    go_wp2_with fail
    refine C1.out.mono ?_
    rintro e w1 ⟨rfl, hb1⟩
    have K1 := Lib.hid hb1
    clear hb1 C1
    go_wp2_with fail
    go_ret2
    exact ⟨K1.out, none, 0, [], rfl, rfl, OwnU.nil _ _⟩
end
end Go.Proofs.Ytceeopjmdfefjaa
