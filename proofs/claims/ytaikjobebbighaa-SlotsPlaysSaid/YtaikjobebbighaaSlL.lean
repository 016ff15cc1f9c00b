/- Slots: slices.Equal at places. -/
import Derived.Test.YtaikjobebbighaaSlK
namespace Go.Proofs.Ytaikjobebbighaa
set_option linter.unusedVariables false
set_option maxRecDepth 100000
open Go.RowKit
theorem getElem_ne {l m : List Pl} {k : Nat} (h1 : k < l.length) (h2 : k < m.length) (h : l[k] ≠ m[k]) : l ≠ m := fun e => h (by subst e; rfl)
set_option maxHeartbeats 4000000 in
theorem equal_any (A : Option Addr) (c : Nat) (l : List Pl) (B : Option Addr) (d : Nat) (m : List Pl) (w : World) (hA : PlS w A l) (hB : PlS w B m) (hl : l.length ≤ 1000000) (hm : m.length ≤ 1000000) :
    Calls Try.prog 17 #[.slice A l.length c, .slice B m.length d] w fun e w' => e = .returned (.bool (decide (l = m))) ∧ Below w.heap.size w w' := by
  by_cases hlen : l.length = m.length
  · rw [← hlen]
    have HA := Lib.hid hA
    have HB := Lib.hid hB
    have HL := Lib.hid hlen
    clear hA hB hlen
    go_enter Try.func17, Try.ntmps17
    go_wp2_with fail
    go_loopw [13] (fun i wr => ∃ k : Nat, k ≤ l.length ∧ i = .int .i64 k ∧ Hid (l.take k = m.take k) ∧ Hid (Below w.heap.size w wr)) (fun i _ => l.length - (intOf i).toNat)
    case atStart => exact ⟨0, by omega, rfl, Lib.hid (by simp), Lib.hid (Below.refl _ _)⟩
    case round =>
      obtain ⟨k, hk, rfl, hT, hbw⟩ := hrel
      by_cases hlt : k < l.length
      · have hlt2 : k < m.length := by have := HL.out; omega
        obtain ⟨ad, rfl, hb, hc⟩ := (HA.out.over hbw.out) k hlt
        obtain ⟨ad2, rfl, hb2, hc2⟩ := (HB.out.over hbw.out) k hlt2
        have hsA := HA.out.over hbw.out
        have hsB := HB.out.over hbw.out
        obtain ⟨T, F, hT2, hF, hG⟩ := class_of (fun v => Below wr.heap.size wr v) wr.drew (Below.refl _ _).drew
        have c1 := fun n => ((hsA.over (hF n)).cells2 k hlt (u := .int .u64 (l[k]).1) (v := .int .i64 (l[k]).2) rfl).2.1
        have c2 := fun n => ((hsA.over (hF n)).cells2 k hlt (u := .int .u64 (l[k]).1) (v := .int .i64 (l[k]).2) rfl).2.2
        have c3 := fun n => ((hsB.over (hF n)).cells2 k hlt2 (u := .int .u64 (m[k]).1) (v := .int .i64 (m[k]).2) rfl).2.1
        have c4 := fun n => ((hsB.over (hF n)).cells2 k hlt2 (u := .int .u64 (m[k]).1) (v := .int .i64 (m[k]).2) rfl).2.2
        have HF := Lib.hid hF
        have HG := Lib.hid hG
        have HS1 := Lib.hid (List.take_succ_eq_append_getElem hlt)
        have HS2 := Lib.hid (List.take_succ_eq_append_getElem hlt2)
        have HN := Lib.hid (fun h : l[k] ≠ m[k] => getElem_ne hlt hlt2 h)
        generalize l[k] = x at *
        generalize m[k] = y at *
        obtain ⟨x1, x2⟩ := x
        obtain ⟨y1, y2⟩ := y
        dsimp only at c1 c2 c3 c4
        clear hc hc2 hb hb2 hsA hsB hF hG
        by_cases e1 : x1 = y1
        · subst e1
          by_cases e2 : x2 = y2
          · subst e2
            go_upto_region 6 with fail
            refine wp_region_class F (by kernel_rfl) (by kernel_rfl) (HG.out _ (Below.refl _ _).drew) ?_
            repeat (go_big_quiet_step (fail))
            refine wpQuiet_nil ?_
            rintro _ ⟨nq, rfl⟩
            go_wp2_with fail
            go_roundw
            case rel => exact ⟨k + 1, by omega, by go_num, Lib.hid (by rw [HS1.out, HS2.out, hT.out]), Lib.hid (nextC hbw.out (HF.out nq))⟩
            case measure => simp [intOf]; omega
          · have HM := Lib.hid (HN.out (fun h => e2 (by injection h)))
            have e3 : (x2 == y2) = false := by simpa using e2
            go_upto_region 6 with fail
            refine wp_region_class F (by kernel_rfl) (by kernel_rfl) (HG.out _ (Below.refl _ _).drew) ?_
            repeat (go_big_quiet_step (fail))
            refine wpQuiet_nil ?_
            rintro _ ⟨nq, rfl⟩
            go_wp2_with fail
            go_ret
            exact ⟨by rw [decide_eq_false HM.out]; rfl, nextC hbw.out (HF.out nq)⟩
        · have HM := Lib.hid (HN.out (fun h => e1 (by injection h)))
          have e3 : (x1 == y1) = false := by simpa using e1
          go_upto_region 6 with fail
          refine wp_region_class F (by kernel_rfl) (by kernel_rfl) (HG.out _ (Below.refl _ _).drew) ?_
          repeat (go_big_quiet_step (fail))
          refine wpQuiet_nil ?_
          rintro _ ⟨nq, rfl⟩
          go_wp2_with fail
          go_ret
          exact ⟨by rw [decide_eq_false HM.out]; rfl, nextC hbw.out (HF.out nq)⟩
      · have e : k = l.length := by omega
        have he : l = m := by
          have h1 := hT.out
          rw [e, List.take_length] at h1
          rw [h1, HL.out, List.take_length]
        subst e
        go_wp2_with fail
        go_ret
        exact ⟨by rw [decide_eq_true he]; rfl, hbw.out⟩
  · have hne : ¬ ((l.length : Int) = (m.length : Int)) := by omega
    have hlm : l ≠ m := fun e => hlen (by rw [e])
    clear hA hB hlen
    go_enter Try.func17, Try.ntmps17
    go_wp2_with fail
    go_ret
    exact ⟨by rw [decide_eq_false hlm]; rfl, Below.refl _ _⟩
end Go.Proofs.Ytaikjobebbighaa
