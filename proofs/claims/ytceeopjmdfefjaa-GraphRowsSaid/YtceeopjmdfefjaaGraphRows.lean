/- GraphRows: whether any row may be, its order, who waits for whom, and who is reached, is the document's. No condition. -/
import Derived.Test.YtceeopjmdfefjaaGrT
import Derived.Test.YtceeopjmdfefjaaGrD
import Derived.Test.YtceeopjmdfefjaaGrO
import Derived.Test.YtceeopjmdfefjaaPost
import Derived.Test.YtceeopjmdfefjaaOpenS
namespace Go.Proofs.Ytceeopjmdfefjaa.graphRows
open Go.ChangeShapes Go.WideShapes Go.ChangeAt Go.RowKit
set_option linter.unusedVariables false

theorem laidOut : laidOutB Try.prog = true := by kernel_rfl
theorem own : ownKnob Try.prog.godebug = none := by kernel_rfl
set_option maxHeartbeats 4000000 in
set_option maxRecDepth 100000 in
theorem walk (A : Option Addr) (c : Nat) (l : List Nd) (x y : Int) (w : World) (h : NdS w A l) (hlc : l.length ≤ c) (hcm : c ≤ maxLen) (hw : ∀ n ∈ l, (Lit.int .u64 n.id).wf = true ∧ ∀ x ∈ n.deps, (Lit.int .u64 x).wf = true) :
    Calls Try.prog 3 #[.slice A l.length c, .int .u64 x, .int .u64 y] w fun e w' => e = .returned (.bool true) ∧ Below w.heap.size w w' := by
  have H := Lib.hid h
  have HW := Lib.hid hw
  have hl63 : l.length ≤ 9223372036854775807 := by unfold maxLen at hcm; omega
  clear h hw
  go_enter Try.func3, Try.ntmps3
  go_wp2_with fail
  refine (known_any w).mono ?_
  rintro e w1 ⟨rfl, hb1⟩
  have K1 := Lib.hid hb1
  clear hb1
  go_wp2_with fail
  refine (great_any A c l w1 (H.out.over K1.out) hl63).mono ?_
  rintro e w2 ⟨rfl, rfl⟩
  rcases hg : greatB l with _ | _
  · obtain ⟨hl70, hd12⟩ := greatB_no hg
    have HD := Lib.hid hd12
    clear hg hd12
    go_wp2_with fail
    refine (ordG_all A c l _ (H.out.over K1.out) HD.out (fun n hn => (HW.out n hn).1)).mono ?_
    rintro e w3 ⟨hb3, B3, d3, o3, rfl, hi3, ho3⟩
    have K3 := Lib.hid (nextC K1.out hb3)
    have S3 := Lib.hid ho3.sl
    have I3 := Lib.hid hi3
    clear hb3 ho3 hi3 K1
    have hol : o3.length ≤ 1000 := by
      have := I3.out
      by_cases h0 : mayE l = 0
      · rw [if_pos h0] at this
        have := this.1.le
        omega
      · rw [if_neg h0] at this
        subst this
        simp
    go_wp2_with fail
    refine (refOrd_all A c l _ (H.out.over K3.out) HD.out hlc).mono ?_
    rintro e w4 ⟨hb4, B4, d4, o4, rfl, hi4, ho4⟩
    have K4 := Lib.hid (nextC K3.out hb4)
    have S4 := Lib.hid ho4.sl
    have S34 := Lib.hid (S3.out.over hb4)
    obtain rfl : o3 = o4 := by
      have h3 := I3.out
      by_cases h0 : mayE l = 0
      · rw [if_pos h0] at h3 hi4
        exact h3.eq hi4
      · rw [if_neg h0] at h3 hi4
        rw [h3, hi4]
    clear hb4 ho4 hi4 K3 I3 S3
    have C5 := Lib.hid (mayG_all A c l _ (H.out.over K4.out) HD.out (fun n hn => (HW.out n hn).1))
    have C6 := Lib.hid (fun W (hW : Below w.heap.size w W) => refMay_all A c l W (H.out.over hW) HD.out hlc)
    obtain ⟨m0, hm0⟩ : ∃ m0, mayE l = m0 := ⟨_, rfl⟩
    rw [hm0] at C5 C6 ⊢
    have tm : (m0 == m0) = true := beq_self_eq_true _
    clear hm0
    go_wp2_with fail
    refine C5.out.mono ?_
    rintro e w5 ⟨rfl, hb5⟩
    have K5 := Lib.hid (nextC K4.out hb5)
    have S5 := Lib.hid (S4.out.over hb5)
    have S6 := Lib.hid (S34.out.over hb5)
    clear hb5 K4 S4 S34 C5
    go_wp2_with fail
    refine (C6.out _ K5.out).mono ?_
    rintro e w6 ⟨rfl, hb6⟩
    have K6 := Lib.hid (nextC K5.out hb6)
    have S7 := Lib.hid (S5.out.over hb6)
    have S8 := Lib.hid (S6.out.over hb6)
    clear hb6 K5 S5 S6 C6
    go_wp2_with fail
    refine (same_any B3 B4 d3 d4 o3 o3 _ S8.out S7.out (by omega)).mono ?_
    rintro e w7 ⟨rfl, q, rfl⟩
    rw [decide_eq_true (rfl : o3 = o3)]
    have K7 := Lib.hid (below_drewN K6.out q)
    obtain ⟨W7, hW7⟩ : ∃ W7, w6.drewN q = W7 := ⟨_, rfl⟩
    rw [hW7] at K7 ⊢
    clear hW7 K6 S7 S8
    go_wp2_with fail
    refine (usersG_all A c l _ x (H.out.over K7.out) HD.out).mono ?_
    rintro e w8 ⟨B8, d8, u8, rfl, hu8, ho8, hb8⟩
    have K8 := Lib.hid (nextC K7.out hb8)
    have S9 := Lib.hid ho8.sl
    have U8 := Lib.hid hu8
    clear hb8 ho8 hu8 K7
    go_wp2_with fail
    refine (refUsers_all A c l _ x (H.out.over K8.out) HD.out).mono ?_
    rintro e w9 ⟨B9, d9, u9, rfl, hu9, ho9, hb9⟩
    obtain rfl := U8.out.eq hu9
    have hul := hu9.len
    have K9 := Lib.hid (nextC K8.out hb9)
    have SA := Lib.hid ho9.sl
    have SB := Lib.hid (S9.out.over hb9)
    clear hb9 ho9 hu9 K8 S9 U8
    go_wp2_with fail
    refine (same_any B8 B9 d8 d9 u8 u8 _ SB.out SA.out (by omega)).mono ?_
    rintro e wa ⟨rfl, q2, rfl⟩
    rw [decide_eq_true (rfl : u8 = u8)]
    have KA := Lib.hid (below_drewN K9.out q2)
    obtain ⟨W8, hW8⟩ : ∃ W8, w9.drewN q2 = W8 := ⟨_, rfl⟩
    rw [hW8] at KA ⊢
    clear hW8 K9 SA SB
    have CA := Lib.hid (reachG_all A c l _ x y (H.out.over KA.out) HD.out (fun n hn => (HW.out n hn).2))
    have CB := Lib.hid (fun W (hW : Below w.heap.size w W) => refReach_all A c l W x y (H.out.over hW) HD.out)
    obtain ⟨r0, hr0⟩ : ∃ r0, rchB l x y = r0 := ⟨_, rfl⟩
    rw [hr0] at CA CB
    have tr : (r0 == r0) = true := beq_self_eq_true _
    clear hr0
    go_wp2_with fail
    refine CA.out.mono ?_
    rintro e wb ⟨rfl, hbb⟩
    have KB := Lib.hid (nextC KA.out hbb)
    clear hbb KA CA
    go_wp2_with fail
    refine (CB.out _ KB.out).mono ?_
    rintro e wc ⟨rfl, hbc⟩
    have KC := Lib.hid (nextC KB.out hbc)
    clear hbc KB CB
    go_wp2_with fail
    go_ret
    exact ⟨rfl, KC.out⟩
  · go_wp2_with fail
    go_ret
    exact ⟨rfl, K1.out⟩
theorem opened (H : Type) (enc : TypeId × Value → H) (W : World) (base : Nat) (args : Array Value) (ds gs : List (DataW H)) (before : List MemPlace)
    (hval : ∀ (j : Nat) t v, Try.f3.params[j]? = some t → args[j]? = some v → Value.okWide Try.prog W .any base t v)
    (hW : DataW.Whole enc Try.prog Try.f3.params.toList Rows.graphRowsSpec.vars false W args.toList ds gs before) :
    Calls Try.prog 3 args W fun e w' => e = .returned (.bool true) ∧ Below W.heap.size W w' := by
  obtain ⟨p, q, hA, hV, rfl, hfz, hnd⟩ := hW
  rw [Try.params3] at hA hval
  obtain ⟨v0, vs0, d0, ds0, p0, q0, hargs, rfl, rfl, h0, r0⟩ := trodAll_cons hA
  obtain ⟨v1, vs1, d1, ds1, p1, q1, rfl, rfl, rfl, h1, r1⟩ := trodAll_cons r0
  obtain ⟨v2, vs2, d2, ds2, p2, q2, rfl, rfl, rfl, h2, r2⟩ := trodAll_cons r1
  obtain ⟨rfl, rfl, rfl⟩ := trodAll_nil r2
  obtain rfl : args = #[v0, v1, v2] := by cases args; simp_all
  obtain ⟨A, c, l, rfl, s0, c0, m0, w0⟩ := open_nodes Try.underlying22 Try.underlying35 (by kernel_rfl) rfl rfl (by kernel_rfl) (by kernel_rfl) Try.underlying23 Try.underlying26 Try.underlying23 (by kernel_rfl) (hval 0 22 v0 rfl rfl) h0
  obtain ⟨x, rfl, _, _, w1⟩ := open_int Try.underlying23 (hval 1 23 v1 rfl rfl) h1
  obtain ⟨y, rfl, _, _, w2⟩ := open_int Try.underlying23 (hval 2 23 v2 rfl rfl) h2
  exact walk A c l x y W s0 c0 m0 w0

set_option maxRecDepth 100000 in
theorem lifted (os : Os) (started : os.Started) (H : Type) (enc : TypeId × Value → H) :
    ReturnsInHanded {} Try.checked os 3 .any (Rows.graphRowsSpec.pre6 enc Try.prog Try.f3 Rows.graphRowsRow.domain false) (Rows.graphRowsSpec.post enc Try.prog Try.f3 false true false false) := by
  refine returnsInHanded_of_change (C := Try.checked) own started (by kernel_rfl) Try.func3
    (ChangeSpec.witness6 (enc := enc) (C := Try.checked) false ⟨#[], #[.slice none 0 0, .int .u64 0, .int .u64 0], []⟩ 8 (by kernel_rfl) (by kernel_rfl) (by kernel_rfl) (by kernel_rfl)) ?_
  intro W base args ds gs before hval hW hcnd hh
  refine (opened H enc W base args ds gs before hval hW).mono fun e W' ⟨he, hg⟩ => ?_
  subst he
  exact ⟨_, rfl, law_post hW rfl laidOut (by kernel_rfl) rfl Try.underlying4 (fun l hl => by match l, hl with | [d0, d1, d2], _ => rfl) hg⟩

theorem over : Rows.graphRowsRow.holds Try.pinned (OpenSpec.ofChange Rows.graphRowsSpec) :=
  OpenClaim.holds_of_wide 3 Try.f3 rfl rfl rfl rfl rfl rfl rfl ⟨rfl, rfl, rfl, rfl, rfl⟩ rfl rfl rfl rfl rfl (by kernel_rfl) Try.func3 (by kernel_rfl)
    (of_decide_eq_true (by kernel_rfl)) (by unfold Func.isWrapper; first | (rw [if_pos (by decide +kernel)]; kernel_rfl) | (rw [if_neg (by decide +kernel)]; exact ⟨rfl, rfl⟩))
    (fun os started H enc _ => lifted os started H enc)

/-- THE STATEMENT. -/
theorem proved : Rows.GraphRowsSaid :=
  over
#print axioms proved
end Go.Proofs.Ytceeopjmdfefjaa.graphRows
