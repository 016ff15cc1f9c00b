/- Contracts of calendar.day, list, May, works, Works, bad, and of the library's IndexFunc, ContainsFunc at []int. -/
import Derived.Test.YthigmjjafilbcaaDoorCaL
import Derived.Test.YthigmjjafilbcaaDoorCaN
namespace Go.Proofs.YthigmjjafilbcaaDoor
set_option linter.unusedVariables false
set_option maxRecDepth 100000
open Go.RowKit
theorem day_any (n : Int) (w : World) : Calls Tryd.prog 49 #[.int .i64 n] w fun e w' => e = .returned (.bool (inB n)) ∧ w' = w := by
  unfold inB
  go_enter Tryd.func49, Tryd.ntmps49
  by_cases h0 : 0 ≤ n
  · by_cases h1 : n < 157054
    · go_wp2_with fail
      go_ret
      exact ⟨ret_bool (by simp [h0, h1]), rfl⟩
    · go_wp2_with fail
      go_ret
      exact ⟨ret_bool (by rw [decide_eq_false (show ¬ n < 157054 by omega)]), rfl⟩
  · go_wp2_with fail
    go_ret
    exact ⟨ret_bool (by rw [decide_eq_false (show ¬ 0 ≤ n by omega)]; rfl), rfl⟩
theorem not_okL {l : List Int} {i : Nat} (hi : i < l.length) (h : inB (l.getD i 0) = false ∨ (0 < i ∧ ¬ l.getD (i - 1) 0 < l.getD i 0)) : listB l = false := by
  cases hb : listB l with
  | false => rfl
  | true =>
    unfold listB at hb
    rw [Bool.and_eq_true] at hb
    have := okL_iff.1 hb.1 i hi
    rcases h with h | ⟨h1, h2⟩
    · rw [h] at this; cases this.1
    · rcases this.2 with h3 | h3
      · omega
      · exact absurd h3 h2
theorem list_any (A : Option Addr) (c : Nat) (l : List Int) (w : World) (h : Sl w .i64 A l) (hl : l.length ≤ 2305843009213693952) :
    Calls Tryd.prog 53 #[.slice A l.length c] w fun e w' => e = .returned (.bool (listB l)) ∧ w' = w := by
  have CD := Lib.hid day_any
  go_enter Tryd.func53, Tryd.ntmps53
  go_wp2_with fail
  go_loop [7] (fun i => ∃ k : Nat, k ≤ l.length ∧ i = .int .i64 k ∧ ∀ i, i < k → inB (l.getD i 0) = true ∧ (i = 0 ∨ l.getD (i - 1) 0 < l.getD i 0)) (fun i => l.length - (intOf i).toNat)
  case atStart => exact ⟨0, by omega, rfl, fun j hj => absurd hj (by omega)⟩
  case round =>
    obtain ⟨k, hk, rfl, hall⟩ := hrel
    have H := Lib.hid hall; clear hall
    by_cases hlt : k < l.length
    · obtain ⟨ad, rfl, hb, hc⟩ := h k hlt
      obtain ⟨x, hx⟩ : ∃ x, l[k] = x := ⟨_, rfl⟩
      rw [hx] at hc
      have HX := Lib.hid (show l.getD k 0 = x by rw [getD_of hlt]; exact hx)
      clear hx
      cases hin : inB x
      · have HN := Lib.hid (not_okL hlt (.inl (by rw [HX.out]; exact hin)))
        go_wp2_with fail
        refine (CD.out _ _).mono ?_
        rintro e w1 ⟨rfl, rfl⟩
        rw [hin]
        go_wp2_with fail
        go_ret
        exact ⟨ret_bool HN.out.symm, rfl⟩
      · by_cases hk0 : k = 0
        · have k0 : ¬ (0 < (k : Int)) := by omega
          have K0 := Lib.hid hk0
          clear hk0
          go_wp2_with fail
          refine (CD.out _ _).mono ?_
          rintro e w1 ⟨rfl, rfl⟩
          rw [hin]
          go_wp2_with fail
          go_round
          case rel =>
            refine ⟨k + 1, by omega, by go_num, fun j hj => ?_⟩
            have e : j = k := by have := K0.out; omega
            subst e
            exact ⟨by rw [HX.out]; exact hin, .inl K0.out⟩
          case measure => simp [intOf]; omega
        · have k0 : 0 < (k : Int) := by omega
          obtain ⟨m, hm⟩ : ∃ m, k - 1 = m := ⟨_, rfl⟩
          have hml : m < l.length := by omega
          have hc2 := h.at_ hml
          obtain ⟨y, hy⟩ : ∃ y, l[m] = y := ⟨_, rfl⟩
          rw [hy] at hc2
          have HY := Lib.hid (show l.getD (k - 1) 0 = y by rw [hm, getD_of (by omega)]; exact hy)
          have e1 : (k : Int) - 1 = (m : Int) := by omega
          clear hy hm
          by_cases hyx : y < x
          · go_wp2_with fail
            refine (CD.out _ _).mono ?_
            rintro e w1 ⟨rfl, rfl⟩
            rw [hin]
            go_wp2_with fail
            go_round
            case rel =>
              refine ⟨k + 1, by omega, by go_num, fun j hj => ?_⟩
              by_cases e : j = k
              · subst e
                exact ⟨by rw [HX.out]; exact hin, .inr (by rw [HX.out, HY.out]; exact hyx)⟩
              · exact H.out j (by omega)
            case measure => simp [intOf]; omega
          · have HN := Lib.hid (not_okL hlt (.inr ⟨by omega, by rw [HX.out, HY.out]; exact hyx⟩))
            go_wp2_with fail
            refine (CD.out _ _).mono ?_
            rintro e w1 ⟨rfl, rfl⟩
            rw [hin]
            go_wp2_with fail
            go_ret
            exact ⟨ret_bool HN.out.symm, rfl⟩
    · have e : k = l.length := by omega
      subst e
      have HO := Lib.hid (okL_iff.2 H.out)
      go_wp2_with fail
      go_ret
      exact ⟨ret_bool (by unfold listB; rw [HO.out]; simp; try omega), rfl⟩
theorem indexF1 (G : Nat) (P0 : Value) (hG : ∀ (args : Array Value) (W : World), (callFunc G args).run Tryd.prog W = .ok (.enter G args) W) (p : Int → Bool) (A : Option Addr) (c : Nat) (l : List Int) (w : World) (h : Sl w .i64 A l) (hl : l.length ≤ 2305843009213693952)
    (hp : ∀ (x : Int) (W : World), x ∈ l → Below w.heap.size w W → Calls Tryd.prog G #[.int .i64 x, P0] W fun e w' => e = .returned (.bool (p x)) ∧ Below W.heap.size W w') :
    Calls Tryd.prog 66 #[.slice A l.length c, .func (.func G) #[] #[P0]] w fun e w' => (∃ q : Int, e = .returned (.int .i64 q) ∧ (0 ≤ q ↔ l.any p = true) ∧ ((q = -1 ∧ ∀ j, j < l.length → p (l.getD j 0) = false) ∨ ∃ k : Nat, q = k ∧ k < l.length ∧ p (l.getD k 0) = true ∧ ∀ j, j < k → p (l.getD j 0) = false)) ∧ Below w.heap.size w w' := by
  have HP := Lib.hid hp
  clear hp
  go_enter Tryd.func66, Tryd.ntmps66
  go_wp2_with fail
  go_loopw [8] (fun i wr => ∃ k : Nat, k ≤ l.length ∧ i = .int .i64 k ∧ (∀ j, j < k → p (l.getD j 0) = false) ∧ Below w.heap.size w wr) (fun i _ => l.length - (intOf i).toNat)
  case atStart => exact ⟨0, by omega, rfl, fun j hj => absurd hj (by omega), Below.refl _ _⟩
  case round =>
    obtain ⟨k, hk, rfl, hall, hbw⟩ := hrel
    have H := Lib.hid hall; clear hall
    have HB := Lib.hid hbw
    by_cases hlt : k < l.length
    · have h2 := h.over hbw
      obtain ⟨ad, rfl, hb, hc⟩ := h2 k hlt
      obtain ⟨x, hx⟩ : ∃ x, l[k] = x := ⟨_, rfl⟩
      rw [hx] at hc
      have HX := Lib.hid (show l.getD k 0 = x by rw [getD_of hlt]; exact hx)
      have HM := Lib.hid (show x ∈ l by rw [← hx]; exact List.getElem_mem _)
      clear hx hbw h2
      cases hpx : p x
      · have hpx := Lib.hid hpx
        go_wp2_with fail
        refine (HP.out x _ HM.out HB.out).mono ?_
        rintro e w1 ⟨rfl, hb1⟩
        rw [hpx.out]
        go_wp2_with fail
        go_roundw
        case rel =>
          refine ⟨k + 1, by omega, by go_num, fun j hj => ?_, nextC HB.out hb1⟩
          by_cases e : j = k
          · subst e; rw [HX.out]; exact hpx.out
          · exact H.out j (by omega)
        case measure => simp [intOf]; omega
      · have hpx := Lib.hid hpx
        go_wp2_with fail
        refine (HP.out x _ HM.out HB.out).mono ?_
        rintro e w1 ⟨rfl, hb1⟩
        rw [hpx.out]
        go_wp2_with fail
        go_ret
        exact ⟨⟨(k : Int), rfl, ⟨fun _ => List.any_eq_true.2 ⟨x, HM.out, hpx.out⟩, fun _ => by omega⟩, .inr ⟨k, rfl, hlt, by rw [HX.out]; exact hpx.out, H.out⟩⟩, nextC HB.out hb1⟩
    · have e : k = l.length := by omega
      subst e
      go_wp2_with fail
      go_ret
      refine ⟨⟨-1, rfl, ⟨fun h => by omega, fun h => ?_⟩, .inl ⟨rfl, H.out⟩⟩, HB.out⟩
      obtain ⟨x, hx, hpx⟩ := List.any_eq_true.1 h
      obtain ⟨j, hj, rfl⟩ := List.mem_iff_getElem.1 hx
      have := H.out j hj
      rw [getD_of hj, hpx] at this
      cases this
theorem containsF1 (G : Nat) (P0 : Value) (hG : ∀ (args : Array Value) (W : World), (callFunc G args).run Tryd.prog W = .ok (.enter G args) W) (p : Int → Bool) (A : Option Addr) (c : Nat) (l : List Int) (w : World) (h : Sl w .i64 A l) (hl : l.length ≤ 2305843009213693952)
    (hp : ∀ (x : Int) (W : World), x ∈ l → Below w.heap.size w W → Calls Tryd.prog G #[.int .i64 x, P0] W fun e w' => e = .returned (.bool (p x)) ∧ Below W.heap.size W w') :
    Calls Tryd.prog 40 #[.slice A l.length c, .func (.func G) #[] #[P0]] w fun e w' => e = .returned (.bool (l.any p)) ∧ Below w.heap.size w w' := by
  have C := Lib.hid (indexF1 G P0 hG p A c l w h hl hp)
  go_enter Tryd.func40, Tryd.ntmps40
  go_wp2_with fail
  refine C.out.mono ?_
  rintro e w1 ⟨⟨q, rfl, hq, -⟩, hb1⟩
  have HQ := Lib.hid hq
  clear hq
  go_wp2_with fail
  go_ret
  exact ⟨ret_bool (by rw [Bool.eq_iff_iff, decide_eq_true_eq]; exact HQ.out), hb1⟩
theorem indexF2 (G : Nat) (P0 P1 : Value) (hG : ∀ (args : Array Value) (W : World), (callFunc G args).run Tryd.prog W = .ok (.enter G args) W) (p : Int → Bool) (A : Option Addr) (c : Nat) (l : List Int) (w : World) (h : Sl w .i64 A l) (hl : l.length ≤ 2305843009213693952)
    (hp : ∀ (x : Int) (W : World), x ∈ l → Below w.heap.size w W → Calls Tryd.prog G #[.int .i64 x, P0, P1] W fun e w' => e = .returned (.bool (p x)) ∧ Below W.heap.size W w') :
    Calls Tryd.prog 66 #[.slice A l.length c, .func (.func G) #[] #[P0, P1]] w fun e w' => (∃ q : Int, e = .returned (.int .i64 q) ∧ (0 ≤ q ↔ l.any p = true) ∧ ((q = -1 ∧ ∀ j, j < l.length → p (l.getD j 0) = false) ∨ ∃ k : Nat, q = k ∧ k < l.length ∧ p (l.getD k 0) = true ∧ ∀ j, j < k → p (l.getD j 0) = false)) ∧ Below w.heap.size w w' := by
  have HP := Lib.hid hp
  clear hp
  go_enter Tryd.func66, Tryd.ntmps66
  go_wp2_with fail
  go_loopw [8] (fun i wr => ∃ k : Nat, k ≤ l.length ∧ i = .int .i64 k ∧ (∀ j, j < k → p (l.getD j 0) = false) ∧ Below w.heap.size w wr) (fun i _ => l.length - (intOf i).toNat)
  case atStart => exact ⟨0, by omega, rfl, fun j hj => absurd hj (by omega), Below.refl _ _⟩
  case round =>
    obtain ⟨k, hk, rfl, hall, hbw⟩ := hrel
    have H := Lib.hid hall; clear hall
    have HB := Lib.hid hbw
    by_cases hlt : k < l.length
    · have h2 := h.over hbw
      obtain ⟨ad, rfl, hb, hc⟩ := h2 k hlt
      obtain ⟨x, hx⟩ : ∃ x, l[k] = x := ⟨_, rfl⟩
      rw [hx] at hc
      have HX := Lib.hid (show l.getD k 0 = x by rw [getD_of hlt]; exact hx)
      have HM := Lib.hid (show x ∈ l by rw [← hx]; exact List.getElem_mem _)
      clear hx hbw h2
      cases hpx : p x
      · have hpx := Lib.hid hpx
        go_wp2_with fail
        refine (HP.out x _ HM.out HB.out).mono ?_
        rintro e w1 ⟨rfl, hb1⟩
        rw [hpx.out]
        go_wp2_with fail
        go_roundw
        case rel =>
          refine ⟨k + 1, by omega, by go_num, fun j hj => ?_, nextC HB.out hb1⟩
          by_cases e : j = k
          · subst e; rw [HX.out]; exact hpx.out
          · exact H.out j (by omega)
        case measure => simp [intOf]; omega
      · have hpx := Lib.hid hpx
        go_wp2_with fail
        refine (HP.out x _ HM.out HB.out).mono ?_
        rintro e w1 ⟨rfl, hb1⟩
        rw [hpx.out]
        go_wp2_with fail
        go_ret
        exact ⟨⟨(k : Int), rfl, ⟨fun _ => List.any_eq_true.2 ⟨x, HM.out, hpx.out⟩, fun _ => by omega⟩, .inr ⟨k, rfl, hlt, by rw [HX.out]; exact hpx.out, H.out⟩⟩, nextC HB.out hb1⟩
    · have e : k = l.length := by omega
      subst e
      go_wp2_with fail
      go_ret
      refine ⟨⟨-1, rfl, ⟨fun h => by omega, fun h => ?_⟩, .inl ⟨rfl, H.out⟩⟩, HB.out⟩
      obtain ⟨x, hx, hpx⟩ := List.any_eq_true.1 h
      obtain ⟨j, hj, rfl⟩ := List.mem_iff_getElem.1 hx
      have := H.out j hj
      rw [getD_of hj, hpx] at this
      cases this
theorem containsF2 (G : Nat) (P0 P1 : Value) (hG : ∀ (args : Array Value) (W : World), (callFunc G args).run Tryd.prog W = .ok (.enter G args) W) (p : Int → Bool) (A : Option Addr) (c : Nat) (l : List Int) (w : World) (h : Sl w .i64 A l) (hl : l.length ≤ 2305843009213693952)
    (hp : ∀ (x : Int) (W : World), x ∈ l → Below w.heap.size w W → Calls Tryd.prog G #[.int .i64 x, P0, P1] W fun e w' => e = .returned (.bool (p x)) ∧ Below W.heap.size W w') :
    Calls Tryd.prog 40 #[.slice A l.length c, .func (.func G) #[] #[P0, P1]] w fun e w' => e = .returned (.bool (l.any p)) ∧ Below w.heap.size w w' := by
  have C := Lib.hid (indexF2 G P0 P1 hG p A c l w h hl hp)
  go_enter Tryd.func40, Tryd.ntmps40
  go_wp2_with fail
  refine C.out.mono ?_
  rintro e w1 ⟨⟨q, rfl, hq, -⟩, hb1⟩
  have HQ := Lib.hid hq
  clear hq
  go_wp2_with fail
  go_ret
  exact ⟨ret_bool (by rw [Bool.eq_iff_iff, decide_eq_true_eq]; exact HQ.out), hb1⟩
/-- A calendar's value, and where its lists lie. -/
structure CalAt (w : World) (v : Value) (k : Nat) (off on : List Int) : Prop where
  ex : ∃ A cA B cB, v = .agg #[.int .u8 k, .slice A off.length cA, .slice B on.length cB] ∧ Sl w .i64 A off ∧ Sl w .i64 B on
  hk : k < 256
  ho : off.length ≤ 2305843009213693952
  hn : on.length ≤ 2305843009213693952
theorem CalAt.over {w w' : World} {v : Value} {k : Nat} {off on : List Int} (h : CalAt w v k off on) (hb : Below w.heap.size w w') : CalAt w' v k off on :=
  ⟨by obtain ⟨A, cA, B, cB, e, h1, h2⟩ := h.ex; exact ⟨A, cA, B, cB, e, h1.over hb, h2.over hb⟩, h.hk, h.ho, h.hn⟩
theorem may1_any (g : Nat) (s0 s1 : Value) (B : Option Addr) (cB : Nat) (on : List Int) (n : Int) (w : World) (hr : Row w g 24 #[s0, s1, .slice B on.length cB]) (h : Sl w .i64 B on) (hl : on.length ≤ 2305843009213693952) :
    Calls Tryd.prog 51 #[.int .i64 n, .pointer (some ⟨g, 0, none⟩)] w fun e w' => e = .returned (.bool (decide (n ∈ on))) ∧ w' = w := by
  have C := Lib.hid (contains_any B cB on n w h (by omega))
  have kc := fun o => hr.cell o
  go_enter Tryd.func51, Tryd.ntmps51
  go_wp2_with fail
  refine C.out.mono ?_
  rintro e w1 ⟨rfl, rfl⟩
  go_wp2_with fail
  go_ret
  exact ⟨rfl, rfl⟩
theorem mayCal_any (v : Value) (k : Nat) (off on : List Int) (w : World) (h : CalAt w v k off on) :
    Calls Tryd.prog 22 #[v] w fun e w' => e = .returned (.bool (mayC k off on)) ∧ Below w.heap.size w w' := by
  obtain ⟨A, cA, B, cB, rfl, ha, hb⟩ := h.ex
  have hk := h.hk
  have K := Lib.hid (Row.new w 24 #[.int .u8 k, .slice A off.length cA, .slice B on.length cB])
  have kc := fun o => K.out.cell o
  have C1 := Lib.hid (fun W hW => list_any A cA off W (ha.over hW) h.ho)
  have C2 := Lib.hid (fun W hW => list_any B cB on W (hb.over hW) h.hn)
  have C3 := Lib.hid (fun W (hW : Below (w.alloc (.cells #[.int .u8 k, .slice A off.length cA, .slice B on.length cB] 24)).heap.size (w.alloc (.cells #[.int .u8 k, .slice A off.length cA, .slice B on.length cB] 24)) W) =>
    containsF1 51 (.pointer (some ⟨w.heap.size, 0, none⟩)) (fun _ _ => rfl) (fun n => decide (n ∈ on)) A cA off W (ha.over (nextA (Below.refl _ _) hW)) h.ho
      (fun x V _ hV => (may1_any w.heap.size _ _ B cB on x V ((K.out.over hW).over hV) (hb.over (nextC (nextA (Below.refl _ _) hW) hV)) h.hn).mono fun e w' ⟨he, hw⟩ => ⟨he, hw ▸ Below.refl _ _⟩))
  have Q0 := Lib.hid (nextB (o := (.cells #[.int .u8 k, .slice A off.length cA, .slice B on.length cB] 24)) (Below.refl w.heap.size w))
  clear h ha hb
  unfold mayC
  by_cases h0 : k < 127
  · have g0 : (k : Int) < 127 := by omega
    rw [decide_eq_true h0]
    cases h1 : listB off
    · rw [h1] at C1
      go_enter Tryd.func22, Tryd.ntmps22
      go_wp2_with fail
      refine (C1.out _ Q0.out).mono ?_
      rintro e w1 ⟨rfl, rfl⟩
      go_wp2_with fail
      go_ret
      exact ⟨rfl, Q0.out⟩
    · rw [h1] at C1
      cases h2 : listB on
      · rw [h2] at C2
        go_enter Tryd.func22, Tryd.ntmps22
        go_wp2_with fail
        refine (C1.out _ Q0.out).mono ?_
        rintro e w1 ⟨rfl, rfl⟩
        go_wp2_with fail
        refine (C2.out _ Q0.out).mono ?_
        rintro e w1 ⟨rfl, rfl⟩
        go_wp2_with fail
        go_ret
        exact ⟨rfl, Q0.out⟩
      · rw [h2] at C2
        generalize (off.any fun n => decide (n ∈ on)) = r at *
        go_enter Tryd.func22, Tryd.ntmps22
        go_wp2_with fail
        refine (C1.out _ Q0.out).mono ?_
        rintro e w1 ⟨rfl, rfl⟩
        go_wp2_with fail
        refine (C2.out _ Q0.out).mono ?_
        rintro e w1 ⟨rfl, rfl⟩
        go_wp2_with fail
        refine (C3.out _ (Below.refl _ _)).mono ?_
        rintro e w1 ⟨rfl, hb1⟩
        go_wp2_with fail
        go_ret
        exact ⟨rfl, nextC Q0.out hb1⟩
  · have g0 : ¬ (k : Int) < 127 := by omega
    rw [decide_eq_false h0]
    go_enter Tryd.func22, Tryd.ntmps22
    go_wp2_with fail
    go_ret
    exact ⟨rfl, Q0.out⟩
theorem shr8 (k : Nat) (n : Nat) (hk : k < 256) : (bits .and .u8 ((k : Int) / 2 ^ n) 1 == 0) = !k.testBit n := by
  have e : ((k : Int) / 2 ^ n) = ((k / 2 ^ n : Nat) : Int) := by simp
  have hlt : k / 2 ^ n < 256 := Nat.lt_of_le_of_lt (Nat.div_le_self _ _) hk
  rw [e, show (1 : Int) = ((1 : Nat) : Int) from rfl, u8_and_nat _ 1 hlt (by decide), Nat.and_one_is_mod]
  rw [Nat.testBit_eq_decide_div_mod_eq]
  rcases Nat.mod_two_eq_zero_or_one (k / 2 ^ n) with h | h <;> simp [h]
theorem works_any (v : Value) (k : Nat) (off on : List Int) (n : Int) (w : World) (h : CalAt w v k off on) (h1 : off.Pairwise (· ≤ ·)) (h2 : on.Pairwise (· ≤ ·)) :
    Calls Tryd.prog 34 #[v, .int .i64 n] w fun e w' => e = .returned (.bool (worksC k off on n)) ∧ Below w.heap.size w w' := by
  obtain ⟨A, cA, B, cB, rfl, ha, hb⟩ := h.ex
  have hk := h.hk
  have K := Lib.hid (Row.new w 24 #[.int .u8 k, .slice A off.length cA, .slice B on.length cB])
  have kc := fun o => K.out.cell o
  have C1 := Lib.hid (fun W hW => search_any A cA off n W (ha.over hW) h.ho h1)
  have C2 := Lib.hid (fun W hW => search_any B cB on n W (hb.over hW) h.hn h2)
  have Q0 := Lib.hid (nextB (o := (.cells #[.int .u8 k, .slice A off.length cA, .slice B on.length cB] 24)) (Below.refl w.heap.size w))
  have CW := Lib.hid (weekday_any n)
  have HS := Lib.hid (shr8 k ((n + 4) % 7).toNat hk)
  have hm : 0 ≤ (n + 4) % 7 := Int.emod_nonneg _ (by decide)
  have hm2 : (n + 4) % 7 ≤ 7 := by omega
  unfold worksC
  generalize (n + 4) % 7 = m at *
  generalize k.testBit m.toNat = r at *
  clear h ha hb h1 h2
  cases hon : decide (n ∈ on)
  · rw [hon] at C2
    cases hoff : decide (n ∈ off)
    · rw [hoff] at C1
      go_enter Tryd.func34, Tryd.ntmps34
      go_wp2_with fail
      refine (C2.out _ Q0.out).mono ?_
      rintro e w1 ⟨⟨q, rfl⟩, rfl⟩
      go_wp2_with fail
      refine (C1.out _ Q0.out).mono ?_
      rintro e w1 ⟨⟨q2, rfl⟩, rfl⟩
      go_wp2_with fail
      go_quiet ((go_at_call 65; exact quiet_left (CW.out _)))
      go_wp2_with fail
      go_ret
      exact ⟨ret_bool (by rw [HS.out]; rfl), below_drewN Q0.out _⟩
    · rw [hoff] at C1
      go_enter Tryd.func34, Tryd.ntmps34
      go_wp2_with fail
      refine (C2.out _ Q0.out).mono ?_
      rintro e w1 ⟨⟨q, rfl⟩, rfl⟩
      go_wp2_with fail
      refine (C1.out _ Q0.out).mono ?_
      rintro e w1 ⟨⟨q2, rfl⟩, rfl⟩
      go_wp2_with fail
      go_quiet ((go_at_call 65; exact quiet_left (CW.out _)))
      go_wp2_with fail
      go_ret
      exact ⟨rfl, below_drewN Q0.out _⟩
  · rw [hon] at C2
    generalize decide (n ∈ off) = o at *
    go_enter Tryd.func34, Tryd.ntmps34
    go_wp2_with fail
    refine (C2.out _ Q0.out).mono ?_
    rintro e w1 ⟨⟨q, rfl⟩, rfl⟩
    go_wp2_with fail
    refine (C1.out _ Q0.out).mono ?_
    rintro e w1 ⟨⟨q2, rfl⟩, rfl⟩
    go_wp2_with fail
    go_quiet ((go_at_call 65; exact quiet_left (CW.out _)))
    go_wp2_with fail
    go_ret
    exact ⟨rfl, below_drewN Q0.out _⟩
theorem inB_false {n : Int} (h : ¬ inB n = true) : inB n = false := by simpa using h
/-- What is wrong with a calendar, a day. -/
def badC (k : Nat) (off on : List Int) (n : Int) : Int := if mayC k off on = true then (if inB n = true then 0 else 50) else 2
theorem bad_any (v : Value) (k : Nat) (off on : List Int) (n : Int) (w : World) (h : CalAt w v k off on) :
    Calls Tryd.prog 47 #[v, .int .i64 n] w fun e w' => e = .returned (.int .i64 (badC k off on n)) ∧ Below w.heap.size w w' := by
  have CM := Lib.hid (fun W (hW : Below w.heap.size w W) => mayCal_any v k off on W (h.over hW))
  have CD := Lib.hid day_any
  obtain ⟨A, cA, B, cB, rfl, ha, hb⟩ := h.ex
  have K := Lib.hid (Row.new w 24 #[.int .u8 k, .slice A off.length cA, .slice B on.length cB])
  have Q0 := Lib.hid (nextB (o := (.cells #[.int .u8 k, .slice A off.length cA, .slice B on.length cB] 24)) (Below.refl w.heap.size w))
  clear h ha hb
  cases hm : mayC k off on
  · rw [hm] at CM
    have hR : badC k off on n = 2 := by unfold badC; rw [hm]; rfl
    rw [hR]
    clear hR
    go_enter Tryd.func47, Tryd.ntmps47
    go_wp2_with fail
    refine (CM.out _ Q0.out).mono ?_
    rintro e w1 ⟨rfl, hb1⟩
    go_wp2_with fail
    go_ret
    exact ⟨rfl, nextC Q0.out hb1⟩
  · rw [hm] at CM
    cases hi : inB n
    · have hR : badC k off on n = 50 := by unfold badC; rw [hm, hi]; rfl
      rw [hR]
      have HI := Lib.hid hi
      clear hi hR hm
      go_enter Tryd.func47, Tryd.ntmps47
      go_wp2_with fail
      refine (CM.out _ Q0.out).mono ?_
      rintro e w1 ⟨rfl, hb1⟩
      go_wp2_with fail
      refine (CD.out _ _).mono ?_
      rintro e w2 ⟨rfl, rfl⟩
      rw [HI.out]
      go_wp2_with fail
      go_ret
      exact ⟨rfl, nextC Q0.out hb1⟩
    · have hR : badC k off on n = 0 := by unfold badC; rw [hm, hi]; rfl
      rw [hR]
      have HI := Lib.hid hi
      clear hi hR hm
      go_enter Tryd.func47, Tryd.ntmps47
      go_wp2_with fail
      refine (CM.out _ Q0.out).mono ?_
      rintro e w1 ⟨rfl, hb1⟩
      go_wp2_with fail
      refine (CD.out _ _).mono ?_
      rintro e w2 ⟨rfl, rfl⟩
      rw [HI.out]
      go_wp2_with fail
      go_ret
      exact ⟨rfl, nextC Q0.out hb1⟩
end Go.Proofs.YthigmjjafilbcaaDoor
