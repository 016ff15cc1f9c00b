/- CalendarCounts. -/
import Derived.Test.YthigmjjafilbcaaCbQ
import Derived.Test.YthigmjjafilbcaaOpC
import Derived.Test.YthigmjjafilbcaaPost
namespace Go.Proofs.Ythigmjjafilbcaa.calendarCounts
open Go.ChangeShapes Go.WideShapes Go.ChangeAt Go.RowKit
set_option linter.unusedVariables false
set_option maxRecDepth 100000

theorem laidOut : laidOutB Try.prog = true := by kernel_rfl
theorem own : ownKnob Try.prog.godebug = none := by kernel_rfl
theorem clsC {w : World} {g : Nat} {t : TypeId} {cs : Array Value} {T : Type} {F : T → World} (hF : ∀ n, Row (F n) g t cs ∧ Below w.heap.size w (F n)) (hG : ∀ v, Row v g t cs ∧ Below w.heap.size w v → ∃ n, v = F n) {P : Program} {f : FuncId} {args : Array Value} {r : Value}
    (C : ∀ W, Below w.heap.size w W → Calls P f args W fun e w' => e = .returned r ∧ Below W.heap.size W w') : ∀ n, Calls P f args (F n) fun e w' => e = .returned r ∧ ∃ m, w' = F m :=
  fun n => (C _ (hF n).2).mono fun e w' ⟨he, hb⟩ => ⟨he, hG w' ⟨(hF n).1.over hb, nextC (hF n).2 hb⟩⟩
theorem heavy_raw (A : Option Addr) (cA : Nat) (B : Option Addr) (cB : Nat) (k : Nat) (off on : List Int) (w : World) (hh : 30 < off.length ∨ 30 < on.length) :
    Calls Try.prog 7 #[.agg #[.int .u8 k, .slice A off.length cA, .slice B on.length cB]] w fun e w' => e = .returned (.bool true) ∧ Below w.heap.size w w' := by
  obtain ⟨WB, hWB⟩ : ∃ WB, w.alloc (.cells #[.int .u8 k, .slice A off.length cA, .slice B on.length cB] 24) = WB := ⟨_, rfl⟩
  have K := Lib.hid (show Row WB w.heap.size _ _ by rw [← hWB]; exact Row.new _ _ _)
  have Q0 := Lib.hid (show Below w.heap.size w WB by rw [← hWB]; exact nextB (Below.refl _ _))
  have HW := Lib.hid hWB
  clear hWB
  have hh' : (30 : Int) < (off.length : Int) ∨ decide ((30 : Int) < (off.length : Int)) = false ∧ (30 : Int) < (on.length : Int) := by
    by_cases h : 30 < off.length
    · exact .inl (by omega)
    · exact .inr ⟨decide_eq_false (by omega), by omega⟩
  clear hh
  go_enter Try.func7, Try.ntmps7
  go_upto_region 1 with fail
  rw [HW.out]
  have kd0 := fun o => K.out.cell o
  rcases hh' with h1 | ⟨h1, h2⟩
  · go_wp2_with fail
    go_ret
    exact ⟨rfl, Q0.out⟩
  · have h1' : decide (30 < off.length) = false := decide_eq_false (by have := of_decide_eq_false h1; omega)
    go_wp2_with fail
    go_ret
    exact ⟨rfl, Q0.out⟩
set_option maxHeartbeats 2000000 in
theorem walk_heavy (A : Option Addr) (cA : Nat) (B : Option Addr) (cB : Nat) (k : Nat) (off on : List Int) (a b many : Int) (w : World) (hh : 30 < off.length ∨ 30 < on.length) :
    Calls Try.prog 3 #[.agg #[.int .u8 k, .slice A off.length cA, .slice B on.length cB], .int .i64 a, .int .i64 b, .int .i64 many] w fun e w' => e = .returned (.bool true) ∧ Below w.heap.size w w' := by
  have KN := Lib.hid known_any
  have CH := Lib.hid (fun W => heavy_raw A cA B cB k off on W hh)
  obtain ⟨WB, hWB⟩ : ∃ WB, w.alloc (.cells #[.int .u8 k, .slice A off.length cA, .slice B on.length cB] 24) = WB := ⟨_, rfl⟩
  have K := Lib.hid (show Row WB w.heap.size 24 #[.int .u8 k, .slice A off.length cA, .slice B on.length cB] by rw [← hWB]; exact Row.new _ _ _)
  have Q0 := Lib.hid (show Below w.heap.size w WB by rw [← hWB]; exact nextB (Below.refl _ _))
  have HW := Lib.hid hWB
  clear hWB hh
  go_enter Try.func3, Try.ntmps3
  go_upto_region 1 with fail
  rw [HW.out]
  go_wp2_with fail
  refine (KN.out _).mono ?_
  rintro e w1 ⟨rfl, hb1⟩
  have B1 := Lib.hid (nextC Q0.out hb1)
  have kd1 := fun o => (K.out.over hb1).cell o
  clear hb1
  go_wp2_with fail
  refine (CH.out _).mono ?_
  rintro e w2 ⟨rfl, hb2⟩
  have B2 := Lib.hid (nextC B1.out hb2)
  clear hb2 kd1
  go_wp2_with fail
  all_goals (go_ret; exact ⟨rfl, B2.out⟩)
set_option maxHeartbeats 4000000 in
theorem walk_any (v : Value) (k : Nat) (off on : List Int) (a b many : Int) (w : World) (h : CalAt w v k off on) (wa : (Lit.int .i64 a).wf = true) (wb : (Lit.int .i64 b).wf = true) :
    Calls Try.prog 3 #[v, .int .i64 a, .int .i64 b, .int .i64 many] w fun e w' => e = .returned (.bool true) ∧ Below w.heap.size w w' := by
  have CH := Lib.hid (fun W (hW : Below w.heap.size w W) => heavy_any v k off on W (h.over hW))
  have H := Lib.hid h
  obtain ⟨A, cA, B, cB, hv, ha, hb⟩ := h.ex
  clear h ha hb
  subst hv
  obtain ⟨hB, hhB⟩ : ∃ x, (decide (30 < (off.length : Int)) || decide (30 < (on.length : Int))) = x := ⟨_, rfl⟩
  rw [hhB] at CH
  clear hhB
  have KN := Lib.hid known_any
  obtain ⟨WB, hWB⟩ : ∃ WB, w.alloc (.cells #[.int .u8 k, .slice A off.length cA, .slice B on.length cB] 24) = WB := ⟨_, rfl⟩
  have K := Lib.hid (show Row WB w.heap.size 24 #[.int .u8 k, .slice A off.length cA, .slice B on.length cB] by rw [← hWB]; exact Row.new _ _ _)
  have Q0 := Lib.hid (show Below w.heap.size w WB by rw [← hWB]; exact nextB (Below.refl _ _))
  have HW := Lib.hid hWB
  clear hWB
  go_enter Try.func3, Try.ntmps3
  go_upto_region 1 with fail
  rw [HW.out]
  go_wp2_with fail
  refine (KN.out _).mono ?_
  rintro e w1 ⟨rfl, hb1⟩
  have B1 := Lib.hid (nextC Q0.out hb1)
  have K1 := Lib.hid (K.out.over hb1)
  clear hb1
  go_upto_region 3 with fail
  go_cut [34] (fun s wx => ∃ E : Bool, s = .bool E ∧ (E = true ↔ (hB = true ∨ (wrap64 (a + 2000) < b ∧ b < 157054) ∨ (500 < many ∧ many ≤ 10000))) ∧ Below w1.heap.size w1 wx)
  case first =>
    have kd1 := fun o => K1.out.cell o
    go_wp2_with fail
    refine (CH.out _ B1.out).mono ?_
    rintro e w2 ⟨rfl, hb2⟩
    have B2 := Lib.hid (nextC B1.out hb2)
    have H2 := Lib.hid hb2
    clear hb2 kd1
    cases hB
    · go_wp2_with fail
      all_goals (go_meet; exact ⟨_, rfl, by simp; omega, H2.out⟩)
    · go_wp2_with fail
      all_goals (go_meet; exact ⟨_, rfl, by simp, H2.out⟩)
  case rest =>
    obtain ⟨E, rfl, hE, hbc⟩ := hcut
    have BC := Lib.hid (nextC B1.out hbc)
    have KC := Lib.hid (K1.out.over hbc)
    have HE := Lib.hid hE
    clear hbc hE
    cases E
    · have kdC := fun o => KC.out.cell o
      cases hm : mayC k off on
      · as_aux_lemma =>
          have hbad : badC k off on a = 2 := by unfold badC; rw [hm]; rfl
          have CC := Lib.hid (fun W (hW : Below w.heap.size w W) => count_bad _ k off on a b W (H.out.over hW) (by rw [hbad]; decide))
          have CA := Lib.hid (fun W (hW : Below w.heap.size w W) => add_bad _ k off on a many W (H.out.over hW) (by rw [hbad]; decide))
          rw [hbad] at CC CA
          have CO := Lib.hid (fun W (hW : Below w.heap.size w W) => ofC_any _ k off on W (H.out.over hW))
          have CR := Lib.hid (fun W (hW : Below w.heap.size w W) => refCMay_any _ k off on W (H.out.over hW))
          rw [hm] at CR
          clear hbad hm
          go_wp2_with fail
          refine (CC.out _ BC.out).mono ?_
          rintro e w3 ⟨rfl, hb3⟩
          have B3 := Lib.hid (nextC BC.out hb3)
          have K3 := Lib.hid (KC.out.over hb3)
          have kd3 := fun o => K3.out.cell o
          clear hb3 kdC
          go_wp2_with fail
          refine (CA.out _ B3.out).mono ?_
          rintro e w4 ⟨rfl, hb4⟩
          have B4 := Lib.hid (nextC B3.out hb4)
          have K4 := Lib.hid (K3.out.over hb4)
          have kd4 := fun o => K4.out.cell o
          clear hb4 kd3
          go_wp2_with fail
          refine (CO.out _ B4.out).mono ?_
          rintro e w5 ⟨rfl, hb5⟩
          have B5 := Lib.hid (nextC B4.out hb5)
          have K5 := Lib.hid (K4.out.over hb5)
          have kd5 := fun o => K5.out.cell o
          clear hb5 kd4
          go_wp2_with fail
          refine (CR.out _ B5.out).mono ?_
          rintro e w6 ⟨rfl, hb6⟩
          have B6 := Lib.hid (nextC B5.out hb6)
          have K6 := Lib.hid (K5.out.over hb6)
          have kd6 := fun o => K6.out.cell o
          clear hb6 kd5
          go_wp2_with fail
          go_ret
          exact ⟨rfl, B6.out⟩
      · by_cases h0 : a < 0
        · as_aux_lemma =>
            have hbad : badC k off on a = 50 := by unfold badC; rw [hm, show inB a = false from by unfold inB; simp; omega]; rfl
            have CC := Lib.hid (fun W (hW : Below w.heap.size w W) => count_bad _ k off on a b W (H.out.over hW) (by rw [hbad]; decide))
            have CA := Lib.hid (fun W (hW : Below w.heap.size w W) => add_bad _ k off on a many W (H.out.over hW) (by rw [hbad]; decide))
            rw [hbad] at CC CA
            have CO := Lib.hid (fun W (hW : Below w.heap.size w W) => ofC_any _ k off on W (H.out.over hW))
            have CR := Lib.hid (fun W (hW : Below w.heap.size w W) => refCMay_any _ k off on W (H.out.over hW))
            rw [hm] at CR
            clear hbad hm
            go_wp2_with fail
            refine (CC.out _ BC.out).mono ?_
            rintro e w3 ⟨rfl, hb3⟩
            have B3 := Lib.hid (nextC BC.out hb3)
            have K3 := Lib.hid (KC.out.over hb3)
            have kd3 := fun o => K3.out.cell o
            clear hb3 kdC
            go_wp2_with fail
            refine (CA.out _ B3.out).mono ?_
            rintro e w4 ⟨rfl, hb4⟩
            have B4 := Lib.hid (nextC B3.out hb4)
            have K4 := Lib.hid (K3.out.over hb4)
            have kd4 := fun o => K4.out.cell o
            clear hb4 kd3
            go_wp2_with fail
            refine (CO.out _ B4.out).mono ?_
            rintro e w5 ⟨rfl, hb5⟩
            have B5 := Lib.hid (nextC B4.out hb5)
            have K5 := Lib.hid (K4.out.over hb5)
            have kd5 := fun o => K5.out.cell o
            clear hb5 kd4
            go_wp2_with fail
            refine (CR.out _ B5.out).mono ?_
            rintro e w6 ⟨rfl, hb6⟩
            have B6 := Lib.hid (nextC B5.out hb6)
            have K6 := Lib.hid (K5.out.over hb6)
            have kd6 := fun o => K6.out.cell o
            clear hb6 kd5
            go_wp2_with fail
            go_ret
            exact ⟨rfl, B6.out⟩
        · by_cases h1 : 157054 ≤ a
          · as_aux_lemma =>
              have hbad : badC k off on a = 50 := by unfold badC; rw [hm, show inB a = false from by unfold inB; simp; omega]; rfl
              have h0d : decide (a < 0) = false := decide_eq_false h0
              clear h0
              have CC := Lib.hid (fun W (hW : Below w.heap.size w W) => count_bad _ k off on a b W (H.out.over hW) (by rw [hbad]; decide))
              have CA := Lib.hid (fun W (hW : Below w.heap.size w W) => add_bad _ k off on a many W (H.out.over hW) (by rw [hbad]; decide))
              rw [hbad] at CC CA
              have CO := Lib.hid (fun W (hW : Below w.heap.size w W) => ofC_any _ k off on W (H.out.over hW))
              have CR := Lib.hid (fun W (hW : Below w.heap.size w W) => refCMay_any _ k off on W (H.out.over hW))
              rw [hm] at CR
              clear hbad hm
              go_wp2_with fail
              refine (CC.out _ BC.out).mono ?_
              rintro e w3 ⟨rfl, hb3⟩
              have B3 := Lib.hid (nextC BC.out hb3)
              have K3 := Lib.hid (KC.out.over hb3)
              have kd3 := fun o => K3.out.cell o
              clear hb3 kdC
              go_wp2_with fail
              refine (CA.out _ B3.out).mono ?_
              rintro e w4 ⟨rfl, hb4⟩
              have B4 := Lib.hid (nextC B3.out hb4)
              have K4 := Lib.hid (K3.out.over hb4)
              have kd4 := fun o => K4.out.cell o
              clear hb4 kd3
              go_wp2_with fail
              refine (CO.out _ B4.out).mono ?_
              rintro e w5 ⟨rfl, hb5⟩
              have B5 := Lib.hid (nextC B4.out hb5)
              have K5 := Lib.hid (K4.out.over hb5)
              have kd5 := fun o => K5.out.cell o
              clear hb5 kd4
              go_wp2_with fail
              refine (CR.out _ B5.out).mono ?_
              rintro e w6 ⟨rfl, hb6⟩
              have B6 := Lib.hid (nextC B5.out hb6)
              have K6 := Lib.hid (K5.out.over hb6)
              have kd6 := fun o => K6.out.cell o
              clear hb6 kd5
              go_wp2_with fail
              go_ret
              exact ⟨rfl, B6.out⟩
          · have hin : inB a = true := inB_iff.2 ⟨by omega, by omega⟩
            have hwrap : wrap64 (a + 2000) = a + 2000 := IntWalk.wrap64_in _ ⟨by omega, by omega⟩
            rw [hwrap] at HE
            have hE : ¬ ((a + 2000 < b ∧ b < 157054) ∨ (500 < many ∧ many ≤ 10000)) := fun h => by have := HE.out.2 (.inr h); cases this
            have h0d : decide (a < 0) = false := decide_eq_false h0
            have h1d : decide (157054 ≤ a) = false := decide_eq_false h1
            clear HE hwrap
            by_cases hba : b < a
            · by_cases hm1 : many < 1
              · as_aux_lemma =>
                  have CC := Lib.hid (fun W (hW : Below w.heap.size w W) => count_range _ k off on a b W (H.out.over hW) hm hin (.inr hba))
                  have CA := Lib.hid (fun W (hW : Below w.heap.size w W) => add_arg _ k off on a many W (H.out.over hW) hm hin (.inl hm1))
                  have CO := Lib.hid (fun W (hW : Below w.heap.size w W) => ofC_any _ k off on W (H.out.over hW))
                  have CR := Lib.hid (fun W (hW : Below w.heap.size w W) => refCMay_any _ k off on W (H.out.over hW))
                  rw [hm] at CR
                  clear hm hin
                  go_wp2_with fail
                  refine (CC.out _ BC.out).mono ?_
                  rintro e w3 ⟨rfl, hb3⟩
                  have B3 := Lib.hid (nextC BC.out hb3)
                  have K3 := Lib.hid (KC.out.over hb3)
                  have kd3 := fun o => K3.out.cell o
                  clear hb3 kdC
                  go_wp2_with fail
                  refine (CA.out _ B3.out).mono ?_
                  rintro e w4 ⟨rfl, hb4⟩
                  have B4 := Lib.hid (nextC B3.out hb4)
                  have K4 := Lib.hid (K3.out.over hb4)
                  have kd4 := fun o => K4.out.cell o
                  clear hb4 kd3
                  go_wp2_with fail
                  refine (CO.out _ B4.out).mono ?_
                  rintro e w5 ⟨rfl, hb5⟩
                  have B5 := Lib.hid (nextC B4.out hb5)
                  have K5 := Lib.hid (K4.out.over hb5)
                  have kd5 := fun o => K5.out.cell o
                  clear hb5 kd4
                  go_wp2_with fail
                  refine (CR.out _ B5.out).mono ?_
                  rintro e w6 ⟨rfl, hb6⟩
                  have B6 := Lib.hid (nextC B5.out hb6)
                  have K6 := Lib.hid (K5.out.over hb6)
                  have kd6 := fun o => K6.out.cell o
                  clear hb6 kd5
                  go_wp2_with fail
                  go_ret
                  exact ⟨rfl, B6.out⟩
              · by_cases hm2 : 10000 < many
                · as_aux_lemma =>
                    have CC := Lib.hid (fun W (hW : Below w.heap.size w W) => count_range _ k off on a b W (H.out.over hW) hm hin (.inr hba))
                    have CA := Lib.hid (fun W (hW : Below w.heap.size w W) => add_arg _ k off on a many W (H.out.over hW) hm hin (.inr hm2))
                    have hm1d : decide (many < 1) = false := decide_eq_false hm1
                    clear hm1
                    have CO := Lib.hid (fun W (hW : Below w.heap.size w W) => ofC_any _ k off on W (H.out.over hW))
                    have CR := Lib.hid (fun W (hW : Below w.heap.size w W) => refCMay_any _ k off on W (H.out.over hW))
                    rw [hm] at CR
                    clear hm hin
                    go_wp2_with fail
                    refine (CC.out _ BC.out).mono ?_
                    rintro e w3 ⟨rfl, hb3⟩
                    have B3 := Lib.hid (nextC BC.out hb3)
                    have K3 := Lib.hid (KC.out.over hb3)
                    have kd3 := fun o => K3.out.cell o
                    clear hb3 kdC
                    go_wp2_with fail
                    refine (CA.out _ B3.out).mono ?_
                    rintro e w4 ⟨rfl, hb4⟩
                    have B4 := Lib.hid (nextC B3.out hb4)
                    have K4 := Lib.hid (K3.out.over hb4)
                    have kd4 := fun o => K4.out.cell o
                    clear hb4 kd3
                    go_wp2_with fail
                    refine (CO.out _ B4.out).mono ?_
                    rintro e w5 ⟨rfl, hb5⟩
                    have B5 := Lib.hid (nextC B4.out hb5)
                    have K5 := Lib.hid (K4.out.over hb5)
                    have kd5 := fun o => K5.out.cell o
                    clear hb5 kd4
                    go_wp2_with fail
                    refine (CR.out _ B5.out).mono ?_
                    rintro e w6 ⟨rfl, hb6⟩
                    have B6 := Lib.hid (nextC B5.out hb6)
                    have K6 := Lib.hid (K5.out.over hb6)
                    have kd6 := fun o => K6.out.cell o
                    clear hb6 kd5
                    go_wp2_with fail
                    go_ret
                    exact ⟨rfl, B6.out⟩
                · as_aux_lemma =>
                    have CC := Lib.hid (fun W (hW : Below w.heap.size w W) => count_range _ k off on a b W (H.out.over hW) hm hin (.inr hba))
                    have CA := Lib.hid (fun W (hW : Below w.heap.size w W) => add_ok _ k off on a many W (H.out.over hW) hm hin (by omega) (by omega))
                    have CW := Lib.hid (fun x W (hW : Below w.heap.size w W) => refWorks_any _ k off on x W (H.out.over hW))
                    have CM := Lib.hid (fun x h1 h2 W (hW : Below w.heap.size w W) => refCount_any _ k off on a x (by omega) h1 h2 W (H.out.over hW) hm)
                    have hm1d : decide (many < 1) = false := decide_eq_false hm1
                    have hm2d : decide (10000 < many) = false := decide_eq_false hm2
                    rw [hm] at CW
                    clear hm1 hm2
                    have CO := Lib.hid (fun W (hW : Below w.heap.size w W) => ofC_any _ k off on W (H.out.over hW))
                    have CR := Lib.hid (fun W (hW : Below w.heap.size w W) => refCMay_any _ k off on W (H.out.over hW))
                    rw [hm] at CR
                    clear hm hin
                    go_wp2_with fail
                    refine (CC.out _ BC.out).mono ?_
                    rintro e w3 ⟨rfl, hb3⟩
                    have B3 := Lib.hid (nextC BC.out hb3)
                    have K3 := Lib.hid (KC.out.over hb3)
                    have kd3 := fun o => K3.out.cell o
                    clear hb3 kdC
                    go_wp2_with fail
                    refine (CA.out _ B3.out).mono ?_
                    rintro e w4 ⟨⟨r0, e0, rfl, hr0⟩, hb4⟩
                    have B4 := Lib.hid (nextC B3.out hb4)
                    have K4 := Lib.hid (K3.out.over hb4)
                    have kd4 := fun o => K4.out.cell o
                    have HR := Lib.hid hr0
                    clear hr0 hb4 kd3
                    go_wp2_with fail
                    refine (CO.out _ B4.out).mono ?_
                    rintro e w5 ⟨rfl, hb5⟩
                    have B5 := Lib.hid (nextC B4.out hb5)
                    have K5 := Lib.hid (K4.out.over hb5)
                    have kd5 := fun o => K5.out.cell o
                    clear hb5 kd4
                    go_wp2_with fail
                    refine (CR.out _ B5.out).mono ?_
                    rintro e w6 ⟨rfl, hb6⟩
                    have B6 := Lib.hid (nextC B5.out hb6)
                    have K6 := Lib.hid (K5.out.over hb6)
                    have kd6 := fun o => K6.out.cell o
                    clear hb6 kd5
                    rcases HR.out with ⟨i, i1, i2, i3, rfl, rfl⟩ | ⟨i, i1, i2, rfl, rfl⟩
                    · obtain ⟨j1, j2⟩ := inB_iff.1 i1
                      have CW := Lib.hid (CW.out (a + 1 + i))
                      rw [i1, i2] at CW
                      have CM := Lib.hid (CM.out (a + 1 + i) (by omega) (by omega))
                      rw [show (a + 1 + (i : Int) - a).toNat = i + 1 by omega, i3] at CM
                      clear i1 i2 i3 HR
                      obtain ⟨r, hr⟩ : ∃ r : Int, a + 1 + (i : Int) = r := ⟨_, rfl⟩
                      have hr1 : a < r := by omega
                      have hr2 : r < 157054 := by omega
                      rw [hr] at CW CM ⊢
                      clear hr j1 j2
                      go_wp2_with fail
                      refine (CO.out _ B6.out).mono ?_
                      rintro e w7 ⟨rfl, hb7⟩
                      have B7 := Lib.hid (nextC B6.out hb7)
                      have K7 := Lib.hid (K6.out.over hb7)
                      have kd7 := fun o => K7.out.cell o
                      clear hb7 kd6
                      go_wp2_with fail
                      refine (CW.out _ B7.out).mono ?_
                      rintro e w8 ⟨rfl, hb8⟩
                      have B8 := Lib.hid (nextC B7.out hb8)
                      have K8 := Lib.hid (K7.out.over hb8)
                      have kd8 := fun o => K8.out.cell o
                      clear hb8 kd7
                      go_wp2_with fail
                      refine (CO.out _ B8.out).mono ?_
                      rintro e w9 ⟨rfl, hb9⟩
                      have B9 := Lib.hid (nextC B8.out hb9)
                      have K9 := Lib.hid (K8.out.over hb9)
                      have kd9 := fun o => K9.out.cell o
                      clear hb9 kd8
                      go_wp2_with fail
                      refine (CM.out _ B9.out).mono ?_
                      rintro e w10 ⟨rfl, hb10⟩
                      have B10 := Lib.hid (nextC B9.out hb10)
                      have K10 := Lib.hid (K9.out.over hb10)
                      have kd10 := fun o => K10.out.cell o
                      clear hb10 kd9
                      go_wp2_with fail
                      go_ret
                      exact ⟨rfl, B10.out⟩
                    · have CM := Lib.hid (CM.out 157053 (by omega) (by omega))
                      rw [show ((157053 : Int) - a).toNat = i by omega] at CM
                      obtain ⟨N', hN'⟩ : ∃ N' : Int, (cntC k off on a i : Int) = N' := ⟨_, rfl⟩
                      rw [hN'] at CM i2
                      have i2 := i2
                      clear i1 hN' HR CW
                      go_wp2_with fail
                      refine (CO.out _ B6.out).mono ?_
                      rintro e w7 ⟨rfl, hb7⟩
                      have B7 := Lib.hid (nextC B6.out hb7)
                      have K7 := Lib.hid (K6.out.over hb7)
                      have kd7 := fun o => K7.out.cell o
                      clear hb7 kd6
                      go_wp2_with fail
                      refine (CM.out _ B7.out).mono ?_
                      rintro e w8 ⟨rfl, hb8⟩
                      have B8 := Lib.hid (nextC B7.out hb8)
                      have K8 := Lib.hid (K7.out.over hb8)
                      have kd8 := fun o => K8.out.cell o
                      clear hb8 kd7
                      go_wp2_with fail
                      go_ret
                      exact ⟨rfl, B8.out⟩
            · by_cases hbh : 157054 ≤ b
              · by_cases hm1 : many < 1
                · as_aux_lemma =>
                    have CC := Lib.hid (fun W (hW : Below w.heap.size w W) => count_range _ k off on a b W (H.out.over hW) hm hin (.inl (by unfold inB; simp; omega)))
                    have hbad : decide (b < a) = false := decide_eq_false hba
                    clear hba
                    have CA := Lib.hid (fun W (hW : Below w.heap.size w W) => add_arg _ k off on a many W (H.out.over hW) hm hin (.inl hm1))
                    have CO := Lib.hid (fun W (hW : Below w.heap.size w W) => ofC_any _ k off on W (H.out.over hW))
                    have CR := Lib.hid (fun W (hW : Below w.heap.size w W) => refCMay_any _ k off on W (H.out.over hW))
                    rw [hm] at CR
                    clear hm hin
                    go_wp2_with fail
                    refine (CC.out _ BC.out).mono ?_
                    rintro e w3 ⟨rfl, hb3⟩
                    have B3 := Lib.hid (nextC BC.out hb3)
                    have K3 := Lib.hid (KC.out.over hb3)
                    have kd3 := fun o => K3.out.cell o
                    clear hb3 kdC
                    go_wp2_with fail
                    refine (CA.out _ B3.out).mono ?_
                    rintro e w4 ⟨rfl, hb4⟩
                    have B4 := Lib.hid (nextC B3.out hb4)
                    have K4 := Lib.hid (K3.out.over hb4)
                    have kd4 := fun o => K4.out.cell o
                    clear hb4 kd3
                    go_wp2_with fail
                    refine (CO.out _ B4.out).mono ?_
                    rintro e w5 ⟨rfl, hb5⟩
                    have B5 := Lib.hid (nextC B4.out hb5)
                    have K5 := Lib.hid (K4.out.over hb5)
                    have kd5 := fun o => K5.out.cell o
                    clear hb5 kd4
                    go_wp2_with fail
                    refine (CR.out _ B5.out).mono ?_
                    rintro e w6 ⟨rfl, hb6⟩
                    have B6 := Lib.hid (nextC B5.out hb6)
                    have K6 := Lib.hid (K5.out.over hb6)
                    have kd6 := fun o => K6.out.cell o
                    clear hb6 kd5
                    go_wp2_with fail
                    go_ret
                    exact ⟨rfl, B6.out⟩
                · by_cases hm2 : 10000 < many
                  · as_aux_lemma =>
                      have CC := Lib.hid (fun W (hW : Below w.heap.size w W) => count_range _ k off on a b W (H.out.over hW) hm hin (.inl (by unfold inB; simp; omega)))
                      have hbad : decide (b < a) = false := decide_eq_false hba
                      clear hba
                      have CA := Lib.hid (fun W (hW : Below w.heap.size w W) => add_arg _ k off on a many W (H.out.over hW) hm hin (.inr hm2))
                      have hm1d : decide (many < 1) = false := decide_eq_false hm1
                      clear hm1
                      have CO := Lib.hid (fun W (hW : Below w.heap.size w W) => ofC_any _ k off on W (H.out.over hW))
                      have CR := Lib.hid (fun W (hW : Below w.heap.size w W) => refCMay_any _ k off on W (H.out.over hW))
                      rw [hm] at CR
                      clear hm hin
                      go_wp2_with fail
                      refine (CC.out _ BC.out).mono ?_
                      rintro e w3 ⟨rfl, hb3⟩
                      have B3 := Lib.hid (nextC BC.out hb3)
                      have K3 := Lib.hid (KC.out.over hb3)
                      have kd3 := fun o => K3.out.cell o
                      clear hb3 kdC
                      go_wp2_with fail
                      refine (CA.out _ B3.out).mono ?_
                      rintro e w4 ⟨rfl, hb4⟩
                      have B4 := Lib.hid (nextC B3.out hb4)
                      have K4 := Lib.hid (K3.out.over hb4)
                      have kd4 := fun o => K4.out.cell o
                      clear hb4 kd3
                      go_wp2_with fail
                      refine (CO.out _ B4.out).mono ?_
                      rintro e w5 ⟨rfl, hb5⟩
                      have B5 := Lib.hid (nextC B4.out hb5)
                      have K5 := Lib.hid (K4.out.over hb5)
                      have kd5 := fun o => K5.out.cell o
                      clear hb5 kd4
                      go_wp2_with fail
                      refine (CR.out _ B5.out).mono ?_
                      rintro e w6 ⟨rfl, hb6⟩
                      have B6 := Lib.hid (nextC B5.out hb6)
                      have K6 := Lib.hid (K5.out.over hb6)
                      have kd6 := fun o => K6.out.cell o
                      clear hb6 kd5
                      go_wp2_with fail
                      go_ret
                      exact ⟨rfl, B6.out⟩
                  · as_aux_lemma =>
                      have CC := Lib.hid (fun W (hW : Below w.heap.size w W) => count_range _ k off on a b W (H.out.over hW) hm hin (.inl (by unfold inB; simp; omega)))
                      have hbad : decide (b < a) = false := decide_eq_false hba
                      clear hba
                      have CA := Lib.hid (fun W (hW : Below w.heap.size w W) => add_ok _ k off on a many W (H.out.over hW) hm hin (by omega) (by omega))
                      have CW := Lib.hid (fun x W (hW : Below w.heap.size w W) => refWorks_any _ k off on x W (H.out.over hW))
                      have CM := Lib.hid (fun x h1 h2 W (hW : Below w.heap.size w W) => refCount_any _ k off on a x (by omega) h1 h2 W (H.out.over hW) hm)
                      have hm1d : decide (many < 1) = false := decide_eq_false hm1
                      have hm2d : decide (10000 < many) = false := decide_eq_false hm2
                      rw [hm] at CW
                      clear hm1 hm2
                      have CO := Lib.hid (fun W (hW : Below w.heap.size w W) => ofC_any _ k off on W (H.out.over hW))
                      have CR := Lib.hid (fun W (hW : Below w.heap.size w W) => refCMay_any _ k off on W (H.out.over hW))
                      rw [hm] at CR
                      clear hm hin
                      go_wp2_with fail
                      refine (CC.out _ BC.out).mono ?_
                      rintro e w3 ⟨rfl, hb3⟩
                      have B3 := Lib.hid (nextC BC.out hb3)
                      have K3 := Lib.hid (KC.out.over hb3)
                      have kd3 := fun o => K3.out.cell o
                      clear hb3 kdC
                      go_wp2_with fail
                      refine (CA.out _ B3.out).mono ?_
                      rintro e w4 ⟨⟨r0, e0, rfl, hr0⟩, hb4⟩
                      have B4 := Lib.hid (nextC B3.out hb4)
                      have K4 := Lib.hid (K3.out.over hb4)
                      have kd4 := fun o => K4.out.cell o
                      have HR := Lib.hid hr0
                      clear hr0 hb4 kd3
                      go_wp2_with fail
                      refine (CO.out _ B4.out).mono ?_
                      rintro e w5 ⟨rfl, hb5⟩
                      have B5 := Lib.hid (nextC B4.out hb5)
                      have K5 := Lib.hid (K4.out.over hb5)
                      have kd5 := fun o => K5.out.cell o
                      clear hb5 kd4
                      go_wp2_with fail
                      refine (CR.out _ B5.out).mono ?_
                      rintro e w6 ⟨rfl, hb6⟩
                      have B6 := Lib.hid (nextC B5.out hb6)
                      have K6 := Lib.hid (K5.out.over hb6)
                      have kd6 := fun o => K6.out.cell o
                      clear hb6 kd5
                      rcases HR.out with ⟨i, i1, i2, i3, rfl, rfl⟩ | ⟨i, i1, i2, rfl, rfl⟩
                      · obtain ⟨j1, j2⟩ := inB_iff.1 i1
                        have CW := Lib.hid (CW.out (a + 1 + i))
                        rw [i1, i2] at CW
                        have CM := Lib.hid (CM.out (a + 1 + i) (by omega) (by omega))
                        rw [show (a + 1 + (i : Int) - a).toNat = i + 1 by omega, i3] at CM
                        clear i1 i2 i3 HR
                        obtain ⟨r, hr⟩ : ∃ r : Int, a + 1 + (i : Int) = r := ⟨_, rfl⟩
                        have hr1 : a < r := by omega
                        have hr2 : r < 157054 := by omega
                        rw [hr] at CW CM ⊢
                        clear hr j1 j2
                        go_wp2_with fail
                        refine (CO.out _ B6.out).mono ?_
                        rintro e w7 ⟨rfl, hb7⟩
                        have B7 := Lib.hid (nextC B6.out hb7)
                        have K7 := Lib.hid (K6.out.over hb7)
                        have kd7 := fun o => K7.out.cell o
                        clear hb7 kd6
                        go_wp2_with fail
                        refine (CW.out _ B7.out).mono ?_
                        rintro e w8 ⟨rfl, hb8⟩
                        have B8 := Lib.hid (nextC B7.out hb8)
                        have K8 := Lib.hid (K7.out.over hb8)
                        have kd8 := fun o => K8.out.cell o
                        clear hb8 kd7
                        go_wp2_with fail
                        refine (CO.out _ B8.out).mono ?_
                        rintro e w9 ⟨rfl, hb9⟩
                        have B9 := Lib.hid (nextC B8.out hb9)
                        have K9 := Lib.hid (K8.out.over hb9)
                        have kd9 := fun o => K9.out.cell o
                        clear hb9 kd8
                        go_wp2_with fail
                        refine (CM.out _ B9.out).mono ?_
                        rintro e w10 ⟨rfl, hb10⟩
                        have B10 := Lib.hid (nextC B9.out hb10)
                        have K10 := Lib.hid (K9.out.over hb10)
                        have kd10 := fun o => K10.out.cell o
                        clear hb10 kd9
                        go_wp2_with fail
                        go_ret
                        exact ⟨rfl, B10.out⟩
                      · have CM := Lib.hid (CM.out 157053 (by omega) (by omega))
                        rw [show ((157053 : Int) - a).toNat = i by omega] at CM
                        obtain ⟨N', hN'⟩ : ∃ N' : Int, (cntC k off on a i : Int) = N' := ⟨_, rfl⟩
                        rw [hN'] at CM i2
                        have i2 := i2
                        clear i1 hN' HR CW
                        go_wp2_with fail
                        refine (CO.out _ B6.out).mono ?_
                        rintro e w7 ⟨rfl, hb7⟩
                        have B7 := Lib.hid (nextC B6.out hb7)
                        have K7 := Lib.hid (K6.out.over hb7)
                        have kd7 := fun o => K7.out.cell o
                        clear hb7 kd6
                        go_wp2_with fail
                        refine (CM.out _ B7.out).mono ?_
                        rintro e w8 ⟨rfl, hb8⟩
                        have B8 := Lib.hid (nextC B7.out hb8)
                        have K8 := Lib.hid (K7.out.over hb8)
                        have kd8 := fun o => K8.out.cell o
                        clear hb8 kd7
                        go_wp2_with fail
                        go_ret
                        exact ⟨rfl, B8.out⟩
              · by_cases hm1 : many < 1
                · as_aux_lemma =>
                    have CC := Lib.hid (fun W (hW : Below w.heap.size w W) => count_ok _ k off on a b W (H.out.over hW) hm hin (inB_iff.2 ⟨by omega, by omega⟩) (by omega))
                    have CN := Lib.hid (fun W (hW : Below w.heap.size w W) => refCount_any _ k off on a b (by omega) (by omega) (by omega) W (H.out.over hW) hm)
                    obtain ⟨N, hN⟩ : ∃ N, (cntC k off on a (b - a).toNat : Nat) = N := ⟨_, rfl⟩
                    rw [hN] at CC CN
                    have hbad : decide (b < a) = false := decide_eq_false hba
                    have hbhd : decide (157054 ≤ b) = false := decide_eq_false hbh
                    clear hba hbh hN
                    have CA := Lib.hid (fun W (hW : Below w.heap.size w W) => add_arg _ k off on a many W (H.out.over hW) hm hin (.inl hm1))
                    have CO := Lib.hid (fun W (hW : Below w.heap.size w W) => ofC_any _ k off on W (H.out.over hW))
                    have CR := Lib.hid (fun W (hW : Below w.heap.size w W) => refCMay_any _ k off on W (H.out.over hW))
                    rw [hm] at CR
                    clear hm hin
                    go_wp2_with fail
                    refine (CC.out _ BC.out).mono ?_
                    rintro e w3 ⟨rfl, hb3⟩
                    have B3 := Lib.hid (nextC BC.out hb3)
                    have K3 := Lib.hid (KC.out.over hb3)
                    have kd3 := fun o => K3.out.cell o
                    clear hb3 kdC
                    go_wp2_with fail
                    refine (CA.out _ B3.out).mono ?_
                    rintro e w4 ⟨rfl, hb4⟩
                    have B4 := Lib.hid (nextC B3.out hb4)
                    have K4 := Lib.hid (K3.out.over hb4)
                    have kd4 := fun o => K4.out.cell o
                    clear hb4 kd3
                    go_wp2_with fail
                    refine (CO.out _ B4.out).mono ?_
                    rintro e w5 ⟨rfl, hb5⟩
                    have B5 := Lib.hid (nextC B4.out hb5)
                    have K5 := Lib.hid (K4.out.over hb5)
                    have kd5 := fun o => K5.out.cell o
                    clear hb5 kd4
                    go_wp2_with fail
                    refine (CR.out _ B5.out).mono ?_
                    rintro e w6 ⟨rfl, hb6⟩
                    have B6 := Lib.hid (nextC B5.out hb6)
                    have K6 := Lib.hid (K5.out.over hb6)
                    have kd6 := fun o => K6.out.cell o
                    clear hb6 kd5
                    go_wp2_with fail
                    refine (CO.out _ B6.out).mono ?_
                    rintro e w7 ⟨rfl, hb7⟩
                    have B7 := Lib.hid (nextC B6.out hb7)
                    have K7 := Lib.hid (K6.out.over hb7)
                    have kd7 := fun o => K7.out.cell o
                    clear hb7 kd6
                    go_wp2_with fail
                    refine (CN.out _ B7.out).mono ?_
                    rintro e w8 ⟨rfl, hb8⟩
                    have B8 := Lib.hid (nextC B7.out hb8)
                    have K8 := Lib.hid (K7.out.over hb8)
                    have kd8 := fun o => K8.out.cell o
                    clear hb8 kd7
                    go_wp2_with fail
                    go_ret
                    exact ⟨rfl, B8.out⟩
                · by_cases hm2 : 10000 < many
                  · as_aux_lemma =>
                      have CC := Lib.hid (fun W (hW : Below w.heap.size w W) => count_ok _ k off on a b W (H.out.over hW) hm hin (inB_iff.2 ⟨by omega, by omega⟩) (by omega))
                      have CN := Lib.hid (fun W (hW : Below w.heap.size w W) => refCount_any _ k off on a b (by omega) (by omega) (by omega) W (H.out.over hW) hm)
                      obtain ⟨N, hN⟩ : ∃ N, (cntC k off on a (b - a).toNat : Nat) = N := ⟨_, rfl⟩
                      rw [hN] at CC CN
                      have hbad : decide (b < a) = false := decide_eq_false hba
                      have hbhd : decide (157054 ≤ b) = false := decide_eq_false hbh
                      clear hba hbh hN
                      have CA := Lib.hid (fun W (hW : Below w.heap.size w W) => add_arg _ k off on a many W (H.out.over hW) hm hin (.inr hm2))
                      have hm1d : decide (many < 1) = false := decide_eq_false hm1
                      clear hm1
                      have CO := Lib.hid (fun W (hW : Below w.heap.size w W) => ofC_any _ k off on W (H.out.over hW))
                      have CR := Lib.hid (fun W (hW : Below w.heap.size w W) => refCMay_any _ k off on W (H.out.over hW))
                      rw [hm] at CR
                      clear hm hin
                      go_wp2_with fail
                      refine (CC.out _ BC.out).mono ?_
                      rintro e w3 ⟨rfl, hb3⟩
                      have B3 := Lib.hid (nextC BC.out hb3)
                      have K3 := Lib.hid (KC.out.over hb3)
                      have kd3 := fun o => K3.out.cell o
                      clear hb3 kdC
                      go_wp2_with fail
                      refine (CA.out _ B3.out).mono ?_
                      rintro e w4 ⟨rfl, hb4⟩
                      have B4 := Lib.hid (nextC B3.out hb4)
                      have K4 := Lib.hid (K3.out.over hb4)
                      have kd4 := fun o => K4.out.cell o
                      clear hb4 kd3
                      go_wp2_with fail
                      refine (CO.out _ B4.out).mono ?_
                      rintro e w5 ⟨rfl, hb5⟩
                      have B5 := Lib.hid (nextC B4.out hb5)
                      have K5 := Lib.hid (K4.out.over hb5)
                      have kd5 := fun o => K5.out.cell o
                      clear hb5 kd4
                      go_wp2_with fail
                      refine (CR.out _ B5.out).mono ?_
                      rintro e w6 ⟨rfl, hb6⟩
                      have B6 := Lib.hid (nextC B5.out hb6)
                      have K6 := Lib.hid (K5.out.over hb6)
                      have kd6 := fun o => K6.out.cell o
                      clear hb6 kd5
                      go_wp2_with fail
                      refine (CO.out _ B6.out).mono ?_
                      rintro e w7 ⟨rfl, hb7⟩
                      have B7 := Lib.hid (nextC B6.out hb7)
                      have K7 := Lib.hid (K6.out.over hb7)
                      have kd7 := fun o => K7.out.cell o
                      clear hb7 kd6
                      go_wp2_with fail
                      refine (CN.out _ B7.out).mono ?_
                      rintro e w8 ⟨rfl, hb8⟩
                      have B8 := Lib.hid (nextC B7.out hb8)
                      have K8 := Lib.hid (K7.out.over hb8)
                      have kd8 := fun o => K8.out.cell o
                      clear hb8 kd7
                      go_wp2_with fail
                      go_ret
                      exact ⟨rfl, B8.out⟩
                  · as_aux_lemma =>
                      have CC := Lib.hid (fun W (hW : Below w.heap.size w W) => count_ok _ k off on a b W (H.out.over hW) hm hin (inB_iff.2 ⟨by omega, by omega⟩) (by omega))
                      have CN := Lib.hid (fun W (hW : Below w.heap.size w W) => refCount_any _ k off on a b (by omega) (by omega) (by omega) W (H.out.over hW) hm)
                      obtain ⟨N, hN⟩ : ∃ N, (cntC k off on a (b - a).toNat : Nat) = N := ⟨_, rfl⟩
                      rw [hN] at CC CN
                      have hbad : decide (b < a) = false := decide_eq_false hba
                      have hbhd : decide (157054 ≤ b) = false := decide_eq_false hbh
                      clear hba hbh hN
                      have CA := Lib.hid (fun W (hW : Below w.heap.size w W) => add_ok _ k off on a many W (H.out.over hW) hm hin (by omega) (by omega))
                      have CW := Lib.hid (fun x W (hW : Below w.heap.size w W) => refWorks_any _ k off on x W (H.out.over hW))
                      have CM := Lib.hid (fun x h1 h2 W (hW : Below w.heap.size w W) => refCount_any _ k off on a x (by omega) h1 h2 W (H.out.over hW) hm)
                      have hm1d : decide (many < 1) = false := decide_eq_false hm1
                      have hm2d : decide (10000 < many) = false := decide_eq_false hm2
                      rw [hm] at CW
                      clear hm1 hm2
                      have CO := Lib.hid (fun W (hW : Below w.heap.size w W) => ofC_any _ k off on W (H.out.over hW))
                      have CR := Lib.hid (fun W (hW : Below w.heap.size w W) => refCMay_any _ k off on W (H.out.over hW))
                      rw [hm] at CR
                      clear hm hin
                      go_wp2_with fail
                      refine (CC.out _ BC.out).mono ?_
                      rintro e w3 ⟨rfl, hb3⟩
                      have B3 := Lib.hid (nextC BC.out hb3)
                      have K3 := Lib.hid (KC.out.over hb3)
                      have kd3 := fun o => K3.out.cell o
                      clear hb3 kdC
                      go_wp2_with fail
                      refine (CA.out _ B3.out).mono ?_
                      rintro e w4 ⟨⟨r0, e0, rfl, hr0⟩, hb4⟩
                      have B4 := Lib.hid (nextC B3.out hb4)
                      have K4 := Lib.hid (K3.out.over hb4)
                      have kd4 := fun o => K4.out.cell o
                      have HR := Lib.hid hr0
                      clear hr0 hb4 kd3
                      go_wp2_with fail
                      refine (CO.out _ B4.out).mono ?_
                      rintro e w5 ⟨rfl, hb5⟩
                      have B5 := Lib.hid (nextC B4.out hb5)
                      have K5 := Lib.hid (K4.out.over hb5)
                      have kd5 := fun o => K5.out.cell o
                      clear hb5 kd4
                      go_wp2_with fail
                      refine (CR.out _ B5.out).mono ?_
                      rintro e w6 ⟨rfl, hb6⟩
                      have B6 := Lib.hid (nextC B5.out hb6)
                      have K6 := Lib.hid (K5.out.over hb6)
                      have kd6 := fun o => K6.out.cell o
                      clear hb6 kd5
                      go_wp2_with fail
                      refine (CO.out _ B6.out).mono ?_
                      rintro e w7 ⟨rfl, hb7⟩
                      have B7 := Lib.hid (nextC B6.out hb7)
                      have K7 := Lib.hid (K6.out.over hb7)
                      have kd7 := fun o => K7.out.cell o
                      clear hb7 kd6
                      go_wp2_with fail
                      refine (CN.out _ B7.out).mono ?_
                      rintro e w8 ⟨rfl, hb8⟩
                      have B8 := Lib.hid (nextC B7.out hb8)
                      have K8 := Lib.hid (K7.out.over hb8)
                      have kd8 := fun o => K8.out.cell o
                      clear hb8 kd7
                      rcases HR.out with ⟨i, i1, i2, i3, rfl, rfl⟩ | ⟨i, i1, i2, rfl, rfl⟩
                      · obtain ⟨j1, j2⟩ := inB_iff.1 i1
                        have CW := Lib.hid (CW.out (a + 1 + i))
                        rw [i1, i2] at CW
                        have CM := Lib.hid (CM.out (a + 1 + i) (by omega) (by omega))
                        rw [show (a + 1 + (i : Int) - a).toNat = i + 1 by omega, i3] at CM
                        clear i1 i2 i3 HR
                        obtain ⟨r, hr⟩ : ∃ r : Int, a + 1 + (i : Int) = r := ⟨_, rfl⟩
                        have hr1 : a < r := by omega
                        have hr2 : r < 157054 := by omega
                        rw [hr] at CW CM ⊢
                        clear hr j1 j2
                        go_wp2_with fail
                        refine (CO.out _ B8.out).mono ?_
                        rintro e w9 ⟨rfl, hb9⟩
                        have B9 := Lib.hid (nextC B8.out hb9)
                        have K9 := Lib.hid (K8.out.over hb9)
                        have kd9 := fun o => K9.out.cell o
                        clear hb9 kd8
                        go_wp2_with fail
                        refine (CW.out _ B9.out).mono ?_
                        rintro e w10 ⟨rfl, hb10⟩
                        have B10 := Lib.hid (nextC B9.out hb10)
                        have K10 := Lib.hid (K9.out.over hb10)
                        have kd10 := fun o => K10.out.cell o
                        clear hb10 kd9
                        go_wp2_with fail
                        refine (CO.out _ B10.out).mono ?_
                        rintro e w11 ⟨rfl, hb11⟩
                        have B11 := Lib.hid (nextC B10.out hb11)
                        have K11 := Lib.hid (K10.out.over hb11)
                        have kd11 := fun o => K11.out.cell o
                        clear hb11 kd10
                        go_wp2_with fail
                        refine (CM.out _ B11.out).mono ?_
                        rintro e w12 ⟨rfl, hb12⟩
                        have B12 := Lib.hid (nextC B11.out hb12)
                        have K12 := Lib.hid (K11.out.over hb12)
                        have kd12 := fun o => K12.out.cell o
                        clear hb12 kd11
                        go_wp2_with fail
                        go_ret
                        exact ⟨rfl, B12.out⟩
                      · have CM := Lib.hid (CM.out 157053 (by omega) (by omega))
                        rw [show ((157053 : Int) - a).toNat = i by omega] at CM
                        obtain ⟨N', hN'⟩ : ∃ N' : Int, (cntC k off on a i : Int) = N' := ⟨_, rfl⟩
                        rw [hN'] at CM i2
                        have i2 := i2
                        clear i1 hN' HR CW
                        go_wp2_with fail
                        refine (CO.out _ B8.out).mono ?_
                        rintro e w9 ⟨rfl, hb9⟩
                        have B9 := Lib.hid (nextC B8.out hb9)
                        have K9 := Lib.hid (K8.out.over hb9)
                        have kd9 := fun o => K9.out.cell o
                        clear hb9 kd8
                        go_wp2_with fail
                        refine (CM.out _ B9.out).mono ?_
                        rintro e w10 ⟨rfl, hb10⟩
                        have B10 := Lib.hid (nextC B9.out hb10)
                        have K10 := Lib.hid (K9.out.over hb10)
                        have kd10 := fun o => K10.out.cell o
                        clear hb10 kd9
                        go_wp2_with fail
                        go_ret
                        exact ⟨rfl, B10.out⟩
    · clear HE
      go_wp2_with fail
      go_ret
      exact ⟨rfl, BC.out⟩
theorem walk (A : Option Addr) (cA : Nat) (B : Option Addr) (cB : Nat) (k : Nat) (off on : List Int) (a b many : Int) (w : World) (hk : k < 256) (ha : Sl w .i64 A off) (hb : Sl w .i64 B on) (wa : (Lit.int .i64 a).wf = true) (wb : (Lit.int .i64 b).wf = true) :
    Calls Try.prog 3 #[.agg #[.int .u8 k, .slice A off.length cA, .slice B on.length cB], .int .i64 a, .int .i64 b, .int .i64 many] w fun e w' => e = .returned (.bool true) ∧ Below w.heap.size w w' := by
  by_cases hh : 30 < off.length ∨ 30 < on.length
  · exact walk_heavy A cA B cB k off on a b many w hh
  · exact walk_any _ k off on a b many w ⟨⟨A, cA, B, cB, rfl, ha, hb⟩, hk, by omega, by omega⟩ wa wb

theorem opened (H : Type) (enc : TypeId × Value → H) (W : World) (base : Nat) (args : Array Value) (ds gs : List (DataW H)) (before : List MemPlace)
    (hval : ∀ (j : Nat) t v, Try.f3.params[j]? = some t → args[j]? = some v → Value.okWide Try.prog W .any base t v)
    (hW : DataW.Whole enc Try.prog Try.f3.params.toList Rows.calendarCountsSpec.vars false W args.toList ds gs before) :
    Calls Try.prog 3 args W fun e w' => e = .returned (.bool true) ∧ Below W.heap.size W w' := by
  obtain ⟨p, q, hA, hV, rfl, hfz, hnd⟩ := hW
  rw [Try.params3] at hA hval
  obtain ⟨v0, vs0, d0, ds0, p0, q0, hargs, rfl, rfl, h0, r0⟩ := trodAll_cons hA
  obtain ⟨v1, vs1, d1, ds1, p1, q1, rfl, rfl, rfl, h1, r1⟩ := trodAll_cons r0
  obtain ⟨v2, vs2, d2, ds2, p2, q2, rfl, rfl, rfl, h2, r2⟩ := trodAll_cons r1
  obtain ⟨v3, vs3, d3, ds3, p3, q3, rfl, rfl, rfl, h3, r3⟩ := trodAll_cons r2
  obtain ⟨rfl, rfl, rfl⟩ := trodAll_nil r3
  obtain rfl : args = #[v0, v1, v2, v3] := by cases args; simp_all
  obtain ⟨k, A, cA, off, B, cB, on, rfl, hk, s0, s1, w0, w1⟩ := open_cal (hval 0 24 v0 rfl rfl) h0
  obtain ⟨a, rfl, _, _, wa⟩ := open_int Try.underlying3 (hval 1 3 v1 rfl rfl) h1
  obtain ⟨b, rfl, _, _, wb⟩ := open_int Try.underlying3 (hval 2 3 v2 rfl rfl) h2
  obtain ⟨m, rfl, _, _, wm⟩ := open_int Try.underlying3 (hval 3 3 v3 rfl rfl) h3
  exact walk A cA B cB k off on a b m W hk s0 s1 wa wb

set_option maxRecDepth 100000 in
theorem lifted (os : Os) (started : os.Started) (H : Type) (enc : TypeId × Value → H) :
    ReturnsInHanded {} Try.checked os 3 .any (Rows.calendarCountsSpec.pre6 enc Try.prog Try.f3 Rows.calendarCountsRow.domain false) (Rows.calendarCountsSpec.post enc Try.prog Try.f3 false true false false) := by
  refine returnsInHanded_of_change (C := Try.checked) own started (by kernel_rfl) Try.func3
    (ChangeSpec.witness6 (enc := enc) (C := Try.checked) false ⟨#[], #[.agg #[.int .u8 0, .slice none 0 0, .slice none 0 0], .int .i64 0, .int .i64 0, .int .i64 0], []⟩ 8 (by kernel_rfl) (by kernel_rfl) (by kernel_rfl) (by kernel_rfl)) ?_
  intro W base args ds gs before hval hW hcnd hh
  refine (opened H enc W base args ds gs before hval hW).mono fun e W' ⟨he, hg⟩ => ?_
  subst he
  exact ⟨_, rfl, law_post hW rfl laidOut (by kernel_rfl) rfl Try.underlying4 (fun l hl => by match l, hl with | [d0, d1, d2, d3], _ => rfl) hg⟩

theorem over : Rows.calendarCountsRow.holds Try.pinned (OpenSpec.ofChange Rows.calendarCountsSpec) :=
  OpenClaim.holds_of_wide 3 Try.f3 rfl rfl rfl rfl rfl rfl rfl ⟨rfl, rfl, rfl, rfl, rfl⟩ rfl rfl rfl rfl rfl (by kernel_rfl) Try.func3 (by kernel_rfl)
    (of_decide_eq_true (by kernel_rfl)) (by unfold Func.isWrapper; first | (rw [if_pos (by decide +kernel)]; kernel_rfl) | (rw [if_neg (by decide +kernel)]; exact ⟨rfl, rfl⟩))
    (fun os started H enc _ => lifted os started H enc)

/-- THE STATEMENT. -/
theorem proved : Rows.CalendarCountsSaid :=
  over
#print axioms proved
end Go.Proofs.Ythigmjjafilbcaa.calendarCounts
