/- DiskNone: a disk that is not there, or that New did not make, has nothing. No condition. -/
import Derived.Test.YtbdhdnkpdpcgnaaDkK
import Derived.Test.YtbdhdnkpdpcgnaaPost
import Derived.Test.YtbdhdnkpdpcgnaaOpenS
namespace Go.Proofs.Ytbdhdnkpdpcgnaa.diskNone
open Go.ChangeShapes Go.WideShapes Go.ChangeAt Go.RowKit
set_option linter.unusedVariables false

theorem laidOut : laidOutB Try.prog = true := by kernel_rfl
theorem own : ownKnob Try.prog.godebug = none := by kernel_rfl
theorem append_no (p : Option Addr) (s : ByteArray) (x : Value) (W : World) (C : Calls Try.prog 25 #[.pointer p] W fun e w' => e = .returned (.bool false) ∧ W = w') : Calls Try.prog 7 #[.pointer p, .string s, x] W fun e w' => e = .returned (.int .i64 1) ∧ W = w' := by
  have C := Lib.hid (may_no p s W C)
  go_enter Try.func7, Try.ntmps7
  go_wp2_with fail
  refine C.out.mono ?_
  rintro e w1 ⟨rfl, rfl⟩
  go_wp2_with fail
  go_ret
  exact ⟨rfl, rfl⟩
theorem replace_no (p : Option Addr) (s : ByteArray) (x : Value) (W : World) (C : Calls Try.prog 25 #[.pointer p] W fun e w' => e = .returned (.bool false) ∧ W = w') : Calls Try.prog 9 #[.pointer p, .string s, x] W fun e w' => e = .returned (.int .i64 1) ∧ W = w' := by
  have C := Lib.hid (may_no p s W C)
  go_enter Try.func9, Try.ntmps9
  go_wp2_with fail
  refine C.out.mono ?_
  rintro e w1 ⟨rfl, rfl⟩
  go_wp2_with fail
  go_ret
  exact ⟨rfl, rfl⟩
theorem remove_no (p : Option Addr) (s : ByteArray) (W : World) (C : Calls Try.prog 25 #[.pointer p] W fun e w' => e = .returned (.bool false) ∧ W = w') : Calls Try.prog 10 #[.pointer p, .string s] W fun e w' => e = .returned (.int .i64 1) ∧ W = w' := by
  have C := Lib.hid (may_no p s W C)
  go_enter Try.func10, Try.ntmps10
  go_wp2_with fail
  refine C.out.mono ?_
  rintro e w1 ⟨rfl, rfl⟩
  go_wp2_with fail
  go_ret
  exact ⟨rfl, rfl⟩
theorem sync_no (p : Option Addr) (s : ByteArray) (W : World) (C : Calls Try.prog 25 #[.pointer p] W fun e w' => e = .returned (.bool false) ∧ W = w') : Calls Try.prog 8 #[.pointer p, .string s] W fun e w' => e = .returned (.int .i64 1) ∧ W = w' := by
  have C := Lib.hid (may_no p s W C)
  go_enter Try.func8, Try.ntmps8
  go_wp2_with fail
  refine C.out.mono ?_
  rintro e w1 ⟨rfl, rfl⟩
  go_wp2_with fail
  go_ret
  exact ⟨rfl, rfl⟩
theorem read_no (p : Option Addr) (s : ByteArray) (W : World) (C : Calls Try.prog 25 #[.pointer p] W fun e w' => e = .returned (.bool false) ∧ W = w') : Calls Try.prog 13 #[.pointer p, .string s] W fun e w' => e = .returned (.tuple #[.slice none 0 0, .bool false]) ∧ W = w' := by
  have C := Lib.hid (C)
  go_enter Try.func13, Try.ntmps13
  go_wp2_with fail
  refine C.out.mono ?_
  rintro e w1 ⟨rfl, rfl⟩
  go_wp2_with fail
  go_ret2
  exact ⟨rfl, rfl⟩
theorem sure_no (p : Option Addr) (s : ByteArray) (W : World) (C : Calls Try.prog 25 #[.pointer p] W fun e w' => e = .returned (.bool false) ∧ W = w') : Calls Try.prog 14 #[.pointer p, .string s] W fun e w' => e = .returned (.tuple #[.slice none 0 0, .bool false]) ∧ W = w' := by
  have C := Lib.hid (C)
  go_enter Try.func14, Try.ntmps14
  go_wp2_with fail
  refine C.out.mono ?_
  rintro e w1 ⟨rfl, rfl⟩
  go_wp2_with fail
  go_ret2
  exact ⟨rfl, rfl⟩
theorem copy_no (p : Option Addr)  (W : World) (C : Calls Try.prog 25 #[.pointer p] W fun e w' => e = .returned (.bool false) ∧ W = w') : Calls Try.prog 16 #[.pointer p] W fun e w' => e = .returned (.pointer none) ∧ W = w' := by
  have C := Lib.hid (C)
  go_enter Try.func16, Try.ntmps16
  go_wp2_with fail
  refine C.out.mono ?_
  rintro e w1 ⟨rfl, rfl⟩
  go_wp2_with fail
  go_ret
  exact ⟨rfl, rfl⟩
theorem names_no (p : Option Addr) (G : Nat) (W : World) (C : Calls Try.prog 25 #[.pointer p] W fun e w' => e = .returned (.bool false) ∧ W = w') : Calls Try.prog 22 #[.pointer p, .func (.func G) #[] #[]] W fun e w' => e = .returned (.slice none 0 0) ∧ W = w' := by
  have C := Lib.hid (C)
  go_enter Try.func22, Try.ntmps22
  go_wp2_with fail
  refine C.out.mono ?_
  rintro e w1 ⟨rfl, rfl⟩
  go_wp2_with fail
  go_ret
  exact ⟨rfl, rfl⟩
theorem Names_no (p : Option Addr)  (W : World) (C : Calls Try.prog 25 #[.pointer p] W fun e w' => e = .returned (.bool false) ∧ W = w') : Calls Try.prog 15 #[.pointer p] W fun e w' => e = .returned (.slice none 0 0) ∧ W = w' := by
  have C := Lib.hid (names_no p 26 W C)
  go_enter Try.func15, Try.ntmps15
  go_wp2_with fail
  refine C.out.mono ?_
  rintro e w1 ⟨rfl, rfl⟩
  go_wp2_with fail
  go_ret
  exact ⟨rfl, rfl⟩
theorem Loose_no (p : Option Addr)  (W : World) (C : Calls Try.prog 25 #[.pointer p] W fun e w' => e = .returned (.bool false) ∧ W = w') : Calls Try.prog 11 #[.pointer p] W fun e w' => e = .returned (.slice none 0 0) ∧ W = w' := by
  have C := Lib.hid (names_no p 23 W C)
  go_enter Try.func11, Try.ntmps11
  go_wp2_with fail
  refine C.out.mono ?_
  rintro e w1 ⟨rfl, rfl⟩
  go_wp2_with fail
  go_ret
  exact ⟨rfl, rfl⟩
theorem crash_no (p : Option Addr) (x : Value) (W : World) (C : Calls Try.prog 25 #[.pointer p] W fun e w' => e = .returned (.bool false) ∧ W = w') : Calls Try.prog 12 #[.pointer p, x] W fun e w' => e = .returned (.tuple #[]) ∧ W = w' := by
  have C := Lib.hid (Loose_no p W C)
  go_enter Try.func12, Try.ntmps12
  go_wp2_with fail
  refine C.out.mono ?_
  rintro e w1 ⟨rfl, rfl⟩
  go_wp2_with fail
  go_loop [15] (fun i => i = .int .i64 0) (fun _ => 0)
  case atStart => rfl
  case round =>
    obtain rfl := hrel
    go_wp2_with fail
    refine bodyPost_end (results_none rfl _ _ _) rfl ?_
    exact ⟨rfl, rfl⟩
set_option maxHeartbeats 4000000 in
set_option maxRecDepth 100000 in
theorem walk (s : ByteArray) (A : Option Addr) (c : Nat) (bs : List Int) (w : World) (hs : ¬ (1000 : Int) < (s.size : Int)) (hb : bs.length ≤ 1000) :
    Calls Try.prog 4 #[.string s, .slice A bs.length c] w fun e w' => e = .returned (.bool true) ∧ Below w.heap.size w w' := by
  have KN := Lib.hid (fun W => known_any W)
  have d1 : decide ((1000 : Int) < (s.size : Int)) = false := decide_eq_false hs
  have d2 : decide ((1000 : Int) < (bs.length : Int)) = false := decide_eq_false (by omega)
  go_enter Try.func4, Try.ntmps4
  go_wp2_with fail
  obtain ⟨W0, hW0⟩ : ∃ W0, (w.alloc (.cells #[.map none] 39)).alloc (.cells #[.pointer none, .pointer (some ⟨w.heap.size, 0, none⟩)] 40) = W0 := ⟨_, rfl⟩
  have r1 : Row W0 w.heap.size 39 #[.map none] := by rw [← hW0]; exact (Row.new w _ _).alloc _
  have r2 : Row W0 (w.heap.size + 1) 40 #[.pointer none, .pointer (some ⟨w.heap.size, 0, none⟩)] := by
    have := Row.new (w.alloc (.cells #[.map none] 39)) 40 #[.pointer none, .pointer (some ⟨w.heap.size, 0, none⟩)]
    rw [← hW0]; simpa using this
  have b0 : Below w.heap.size w W0 := by rw [← hW0]; exact nextB ((Below.refl _ w).alloc (Nat.le_refl _) _)
  rw [hW0]
  have R1 := Lib.hid r1
  have R2 := Lib.hid r2
  have B0 := Lib.hid b0
  clear r1 r2 b0 hW0
  go_loopw [7] (fun i wr => ∃ k : Nat, k ≤ 2 ∧ i = .int .i64 k ∧ Below W0.heap.size W0 wr) (fun i _ => 2 - (intOf i).toNat)
  case atStart => exact ⟨0, by omega, rfl, Below.refl _ _⟩
  case round =>
    obtain ⟨k, hk, rfl, hbr⟩ := hrel
    have BR := Lib.hid hbr
    have p0 := (R2.out.over hbr).cell 0
    have p1 := (R2.out.over hbr).cell 1
    simp at p0 p1
    clear hbr
    by_cases hk2 : k = 2
    · subst hk2
      go_wp2_with fail
      refine (KN.out _).mono ?_
      rintro e w2 ⟨rfl, hb2⟩
      have B2 := Lib.hid (nextC (nextC B0.out BR.out) hb2)
      clear hb2
      go_wp2_with fail
      go_ret
      exact ⟨rfl, B2.out⟩
    · have TH : ∃ q : Option Addr, (k = 0 ∧ q = none ∨ k = 1 ∧ q = some ⟨w.heap.size, 0, none⟩) ∧ ∀ W, Below W0.heap.size W0 W → Calls Try.prog 25 #[.pointer q] W fun e w' => e = .returned (.bool false) ∧ W = w' := by
        rcases (show k = 0 ∨ k = 1 by omega) with rfl | rfl
        · exact ⟨none, .inl ⟨rfl, rfl⟩, fun W _ => there_nil W⟩
        · exact ⟨_, .inr ⟨rfl, rfl⟩, fun W hW => there_zero _ W (R1.out.over hW)⟩
      obtain ⟨q, hq, hth⟩ := TH
      have ad : wr.cell? ⟨w.heap.size + 1, k, none⟩ = some (.pointer q) := by
        rcases hq with ⟨rfl, rfl⟩ | ⟨rfl, rfl⟩
        · exact p0
        · exact p1
      have hk3 : (k : Int) < 2 := by omega
      have T := Lib.hid hth
      clear hth hq p0 p1
      go_upto_region 9 with fail
      have B4 : Below W0.heap.size W0 (wr.alloc (.cells #[.int .i64 1] 3)) := BR.out.alloc BR.out.size _
      have TC := Lib.hid (T.out _ B4)
      have B5 := Lib.hid B4
      clear T B4 ad
      go_wp2_with fail
      refine (crash_no q _ _ TC.out).mono ?_
      rintro e w2 ⟨rfl, rfl⟩
      go_wp2_with fail
      refine (read_no q s _ TC.out).mono ?_
      rintro e w2 ⟨rfl, rfl⟩
      go_wp2_with fail
      refine (sure_no q s _ TC.out).mono ?_
      rintro e w2 ⟨rfl, rfl⟩
      go_wp2_with fail
      refine (append_no q s _ _ TC.out).mono ?_
      rintro e w2 ⟨rfl, rfl⟩
      go_wp2_with fail
      refine (replace_no q s _ _ TC.out).mono ?_
      rintro e w2 ⟨rfl, rfl⟩
      go_wp2_with fail
      refine (remove_no q s _ TC.out).mono ?_
      rintro e w2 ⟨rfl, rfl⟩
      go_wp2_with fail
      refine (sync_no q s _ TC.out).mono ?_
      rintro e w2 ⟨rfl, rfl⟩
      go_wp2_with fail
      refine (Names_no q _ TC.out).mono ?_
      rintro e w2 ⟨rfl, rfl⟩
      go_wp2_with fail
      refine (Loose_no q _ TC.out).mono ?_
      rintro e w2 ⟨rfl, rfl⟩
      go_wp2_with fail
      refine (copy_no q _ TC.out).mono ?_
      rintro e w2 ⟨rfl, rfl⟩
      go_wp2_with fail
      go_round
      case rel => exact ⟨k + 1, by omega, by go_num, B5.out⟩
      case measure => simp [intOf]; omega
set_option maxHeartbeats 4000000 in
set_option maxRecDepth 100000 in
theorem walk_triv (s : ByteArray) (A : Option Addr) (c : Nat) (bs : List Int) (w : World) (hn : (1000 : Int) < (s.size : Int) ∨ ¬ (1000 : Int) < (s.size : Int) ∧ 1000 < bs.length) :
    Calls Try.prog 4 #[.string s, .slice A bs.length c] w fun e w' => e = .returned (.bool true) ∧ Below w.heap.size w w' := by
  have KN := Lib.hid (fun W => known_any W)
  rcases hn with h1 | ⟨h1, h2⟩
  · go_enter Try.func4, Try.ntmps4
    go_wp2_with fail
    refine (KN.out _).mono ?_
    rintro e w2 ⟨rfl, hb2⟩
    go_wp2_with fail
    go_ret
    exact ⟨rfl, hb2⟩
  · have d1 : decide ((1000 : Int) < (s.size : Int)) = false := decide_eq_false h1
    have d2 : (1000 : Int) < (bs.length : Int) := by omega
    clear h1 h2
    go_enter Try.func4, Try.ntmps4
    go_wp2_with fail
    refine (KN.out _).mono ?_
    rintro e w2 ⟨rfl, hb2⟩
    go_wp2_with fail
    go_ret
    exact ⟨rfl, hb2⟩

theorem opened (H : Type) (enc : TypeId × Value → H) (W : World) (base : Nat) (args : Array Value) (ds gs : List (DataW H)) (before : List MemPlace)
    (hval : ∀ (j : Nat) t v, Try.f4.params[j]? = some t → args[j]? = some v → Value.okWide Try.prog W .any base t v)
    (hW : DataW.Whole enc Try.prog Try.f4.params.toList Rows.diskNoneSpec.vars false W args.toList ds gs before) :
    Calls Try.prog 4 args W fun e w' => e = .returned (.bool true) ∧ Below W.heap.size W w' := by
  obtain ⟨p, q, hA, hV, rfl, hfz, hnd⟩ := hW
  rw [Try.params4] at hA hval
  obtain ⟨v0, vs0, d0, ds0, p0, q0, hargs, rfl, rfl, h0, r0⟩ := trodAll_cons hA
  obtain ⟨v1, vs1, d1, ds1, p1, q1, rfl, rfl, rfl, h1, r1⟩ := trodAll_cons r0
  obtain ⟨rfl, rfl, rfl⟩ := trodAll_nil r1
  obtain rfl : args = #[v0, v1] := by cases args; simp_all
  obtain ⟨s, rfl⟩ := okWide_string Try.underlying9 (hval 0 9 v0 rfl rfl)
  obtain ⟨A, c, l, rfl, s1, c1, m1, w1, n1⟩ := open_row Try.underlying23 Try.underlying5 (by kernel_rfl) (hval 1 23 v1 rfl rfl) h1
  by_cases e1 : (1000 : Int) < (s.size : Int)
  · exact walk_triv s A c l W (.inl e1)
  by_cases e2 : 1000 < l.length
  · exact walk_triv s A c l W (.inr ⟨e1, e2⟩)
  exact walk s A c l W e1 (by omega)

set_option maxRecDepth 100000 in
theorem lifted (os : Os) (started : os.Started) (H : Type) (enc : TypeId × Value → H) :
    ReturnsInHanded {} Try.checked os 4 .any (Rows.diskNoneSpec.pre6 enc Try.prog Try.f4 Rows.diskNoneRow.domain false) (Rows.diskNoneSpec.post enc Try.prog Try.f4 false true false false) := by
  refine returnsInHanded_of_change (C := Try.checked) own started (by kernel_rfl) Try.func4
    (ChangeSpec.witness6 (enc := enc) (C := Try.checked) false ⟨#[], #[.string ⟨#[]⟩, .slice none 0 0], []⟩ 8 (by kernel_rfl) (by kernel_rfl) (by kernel_rfl) (by kernel_rfl)) ?_
  intro W base args ds gs before hval hW hcnd hh
  refine (opened H enc W base args ds gs before hval hW).mono fun e W' ⟨he, hg⟩ => ?_
  subst he
  exact ⟨_, rfl, law_post hW rfl laidOut (by kernel_rfl) rfl Try.underlying4 (fun l hl => by match l, hl with | [d0, d1], _ => rfl) hg⟩

theorem over : Rows.diskNoneRow.holds Try.pinned (OpenSpec.ofChange Rows.diskNoneSpec) :=
  OpenClaim.holds_of_wide 4 Try.f4 rfl rfl rfl rfl rfl rfl rfl ⟨rfl, rfl, rfl, rfl, rfl⟩ rfl rfl rfl rfl rfl (by kernel_rfl) Try.func4 (by kernel_rfl)
    (of_decide_eq_true (by kernel_rfl)) (by unfold Func.isWrapper; first | (rw [if_pos (by decide +kernel)]; kernel_rfl) | (rw [if_neg (by decide +kernel)]; exact ⟨rfl, rfl⟩))
    (fun os started H enc _ => lifted os started H enc)

/-- THE STATEMENT. -/
theorem proved : Rows.DiskNoneSaid :=
  over
#print axioms proved
end Go.Proofs.Ytbdhdnkpdpcgnaa.diskNone
