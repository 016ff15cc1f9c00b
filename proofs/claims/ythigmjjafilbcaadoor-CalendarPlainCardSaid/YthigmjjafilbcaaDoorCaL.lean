/- Lists of days: looked through, searched, and whether they may be one. -/
import Derived.Test.YthigmjjafilbcaaDoorCaS
import Derived.Test.YthigmjjafilbcaaDoorMa
import Derived.Test.YthigmjjafilbcaaDoorShelf
namespace Go.Proofs.YthigmjjafilbcaaDoor
set_option linter.unusedVariables false
set_option maxRecDepth 100000
open Go.RowKit
theorem getD_ne {l : List Int} {x : Int} (h : ∀ j, j < l.length → l.getD j 0 ≠ x) : ¬ x ∈ l := fun hx => by
  obtain ⟨j, hj, rfl⟩ := List.mem_iff_getElem.1 hx
  exact h j hj (by simp [hj])
theorem getD_mem {l : List Int} {x : Int} {k : Nat} (hk : k < l.length) (h : l.getD k 0 = x) : x ∈ l := by
  rw [List.getD_eq_getElem?_getD, List.getElem?_eq_getElem hk] at h
  exact h ▸ List.getElem_mem _
theorem has_any (A : Option Addr) (c : Nat) (l : List Int) (n : Int) (w : World) (h : Sl w .i64 A l) (hl : l.length ≤ 4611686018427387904) :
    Calls Tryd.prog 24 #[.slice A l.length c, .int .i64 n] w fun e w' => e = .returned (.bool (decide (n ∈ l))) ∧ w' = w := by
  go_enter Tryd.func24, Tryd.ntmps24
  go_wp2_with fail
  go_loop [5] (fun i => ∃ k : Nat, k ≤ l.length ∧ i = .int .i64 k ∧ ∀ j, j < k → l.getD j 0 ≠ n) (fun i => l.length - (intOf i).toNat)
  case atStart => exact ⟨0, by omega, rfl, fun j hj => absurd hj (by omega)⟩
  case round =>
    obtain ⟨k, hk, rfl, hall⟩ := hrel
    have H := Lib.hid hall; clear hall
    by_cases hlt : k < l.length
    · obtain ⟨ad, rfl, hb, hc⟩ := h k hlt
      obtain ⟨x, hx⟩ : ∃ x, l[k] = x := ⟨_, rfl⟩
      rw [hx] at hc
      have hx' : l.getD k 0 = x := by simp [hlt, hx]
      by_cases ht : x = n
      · subst ht
        have P2 := Lib.hid hx'; clear hx hx'
        go_wp2_with fail
        go_ret
        exact ⟨by rw [decide_eq_true (getD_mem hlt P2.out)]; rfl, rfl⟩
      · have t1 : (x == n) = false := beq_eq_false_iff_ne.2 ht
        have t2 : (n == x) = false := beq_eq_false_iff_ne.2 (Ne.symm ht)
        have P2 := Lib.hid hx'; clear hx hx'
        have P3 := Lib.hid ht; clear ht
        go_wp2_with fail
        go_round
        case rel =>
          refine ⟨k + 1, by omega, by go_num, fun j hj => ?_⟩
          rcases Nat.lt_succ_iff_lt_or_eq.1 hj with hj | rfl
          · exact H.out j hj
          · rw [P2.out]; exact P3.out
        case measure => simp [intOf]; omega
    · have e : k = l.length := by omega
      subst e
      go_wp2_with fail
      go_ret
      exact ⟨by rw [decide_eq_false (getD_ne H.out)]; rfl, rfl⟩
theorem index_any (A : Option Addr) (c : Nat) (l : List Int) (n : Int) (w : World) (h : Sl w .i64 A l) (hl : l.length ≤ 4611686018427387904) :
    Calls Tryd.prog 73 #[.slice A l.length c, .int .i64 n] w fun e w' => ∃ q : Int, e = .returned (.int .i64 q) ∧ (0 ≤ q ↔ n ∈ l) ∧ w' = w := by
  go_enter Tryd.func73, Tryd.ntmps73
  go_wp2_with fail
  go_loop [8] (fun i => ∃ k : Nat, k ≤ l.length ∧ i = .int .i64 k ∧ ∀ j, j < k → l.getD j 0 ≠ n) (fun i => l.length - (intOf i).toNat)
  case atStart => exact ⟨0, by omega, rfl, fun j hj => absurd hj (by omega)⟩
  case round =>
    obtain ⟨k, hk, rfl, hall⟩ := hrel
    have H := Lib.hid hall; clear hall
    by_cases hlt : k < l.length
    · obtain ⟨ad, rfl, hb, hc⟩ := h k hlt
      obtain ⟨x, hx⟩ : ∃ x, l[k] = x := ⟨_, rfl⟩
      rw [hx] at hc
      have hx' : l.getD k 0 = x := by simp [hlt, hx]
      by_cases ht : x = n
      · subst ht
        have P2 := Lib.hid hx'; clear hx hx'
        go_wp2_with fail
        go_ret
        exact ⟨(k : Int), rfl, ⟨fun _ => getD_mem hlt P2.out, fun _ => by omega⟩, rfl⟩
      · have t1 : (x == n) = false := beq_eq_false_iff_ne.2 ht
        have t2 : (n == x) = false := beq_eq_false_iff_ne.2 (Ne.symm ht)
        have P2 := Lib.hid hx'; clear hx hx'
        have P3 := Lib.hid ht; clear ht
        go_wp2_with fail
        go_round
        case rel =>
          refine ⟨k + 1, by omega, by go_num, fun j hj => ?_⟩
          rcases Nat.lt_succ_iff_lt_or_eq.1 hj with hj | rfl
          · exact H.out j hj
          · rw [P2.out]; exact P3.out
        case measure => simp [intOf]; omega
    · have e : k = l.length := by omega
      subst e
      go_wp2_with fail
      go_ret
      exact ⟨-1, rfl, ⟨fun h => by omega, fun h => absurd h (getD_ne H.out)⟩, rfl⟩
theorem contains_any (A : Option Addr) (c : Nat) (l : List Int) (n : Int) (w : World) (h : Sl w .i64 A l) (hl : l.length ≤ 4611686018427387904) :
    Calls Tryd.prog 52 #[.slice A l.length c, .int .i64 n] w fun e w' => e = .returned (.bool (decide (n ∈ l))) ∧ w' = w := by
  have C := Lib.hid (index_any A c l n w h hl)
  go_enter Tryd.func52, Tryd.ntmps52
  go_wp2_with fail
  refine C.out.mono ?_
  rintro e w1 ⟨q, rfl, hq, rfl⟩
  have HQ := Lib.hid (show decide (0 ≤ q) = decide (n ∈ l) from decide_eq_decide.2 hq)
  clear hq
  go_wp2_with fail
  go_ret
  exact ⟨congrArg (fun b => Ending.returned (.bool b)) HQ.out, rfl⟩
theorem getD_of {l : List Int} {k : Nat} (hk : k < l.length) : l.getD k 0 = l[k] := by simp [hk]
theorem pw_le {l : List Int} (hs : l.Pairwise (· ≤ ·)) {i j : Nat} (hij : i ≤ j) (hj : j < l.length) : l.getD i 0 ≤ l.getD j 0 := by
  rw [getD_of hj, getD_of (show i < l.length by omega)]
  rcases Nat.lt_or_eq_of_le hij with h | rfl
  · exact List.pairwise_iff_getElem.1 hs i j (by omega) hj h
  · exact Int.le_refl _
theorem half_nat (i j n : Nat) (hij : i < j) (hj : j ≤ n) (hl : n ≤ 2305843009213693952) : IntKind.u64.wrap ((i : Int) + (j : Int)) = (i : Int) + j ∧ IntKind.i64.wrap (((i : Int) + (j : Int)) / 2) = (((i + j) / 2 : Nat) : Int) ∧ i ≤ (i + j) / 2 ∧ (i + j) / 2 < j := by
  refine ⟨IntWalk.u64_in _ (by omega), ?_, by omega, by omega⟩
  have : ((i : Int) + (j : Int)) / 2 = (((i + j) / 2 : Nat) : Int) := by omega
  rw [this]
  exact IntWalk.i64_in _ (by omega)
theorem search_any (A : Option Addr) (c : Nat) (l : List Int) (x : Int) (w : World) (h : Sl w .i64 A l) (hl : l.length ≤ 2305843009213693952) (hs : l.Pairwise (· ≤ ·)) :
    Calls Tryd.prog 64 #[.slice A l.length c, .int .i64 x] w fun e w' => (∃ q : Int, e = .returned (.tuple #[.int .i64 q, .bool (decide (x ∈ l))])) ∧ w' = w := by
  have CL := Lib.hid (Tryd.cmp_Less_int2)
  have CN := Lib.hid (Tryd.slices_isNaN_int2)
  have HS := Lib.hid hs
  clear hs
  go_enter Tryd.func64, Tryd.ntmps64
  go_wp2_with fail
  go_loop [7, 8] (fun i j => ∃ p q : Nat, p ≤ q ∧ q ≤ l.length ∧ i = .int .i64 p ∧ j = .int .i64 q ∧ (∀ r, r < p → l.getD r 0 < x) ∧ (∀ r, q ≤ r → r < l.length → x ≤ l.getD r 0)) (fun i j => (intOf j).toNat - (intOf i).toNat)
  case atStart => exact ⟨0, l.length, by omega, by omega, rfl, rfl, fun r hr => absurd hr (by omega), fun r h1 h2 => absurd h1 (by omega)⟩
  case round =>
    obtain ⟨p, q, hpq, hq, rfl, rfl, hlo, hhi⟩ := hrel
    have HL := Lib.hid hlo
    have HH := Lib.hid hhi
    clear hlo hhi
    by_cases hlt : p < q
    · obtain ⟨e1, e2, e3, e4⟩ := half_nat p q l.length hlt hq hl
      obtain ⟨m, hm⟩ : ∃ m, (p + q) / 2 = m := ⟨_, rfl⟩
      rw [hm] at e2 e3 e4
      obtain ⟨ad, rfl, hb, hc⟩ := h m (by omega)
      obtain ⟨y, hy⟩ : ∃ y, l[m]'(by omega) = y := ⟨_, rfl⟩
      rw [hy] at hc
      have HY := Lib.hid (show l.getD m 0 = y by rw [getD_of (by omega)]; exact hy)
      clear hy hm
      by_cases hxy : y < x
      · have HX := Lib.hid hxy
        clear hxy
        go_wp2_with fail
        refine (CL.out _ _ _).mono ?_
        rintro e w1 ⟨rfl, rfl⟩
        rw [decide_eq_true HX.out]
        go_wp2_with fail
        go_round
        case rel =>
          refine ⟨m + 1, q, by omega, by omega, by go_num, rfl, fun r hr => ?_, HH.out⟩
          exact Int.lt_of_le_of_lt (pw_le HS.out (show r ≤ m by omega) (by omega)) (by rw [HY.out]; exact HX.out)
        case measure => simp [intOf]; omega
      · have HX := Lib.hid hxy
        clear hxy
        go_wp2_with fail
        refine (CL.out _ _ _).mono ?_
        rintro e w1 ⟨rfl, rfl⟩
        rw [decide_eq_false (Int.not_lt.2 HX.out)]
        go_wp2_with fail
        go_round
        case rel =>
          refine ⟨p, m, by omega, by omega, rfl, rfl, HL.out, fun r h1 h2 => ?_⟩
          exact Int.le_trans (by rw [HY.out]; exact HX.out) (pw_le HS.out h1 h2)
        case measure => simp [intOf]; omega
    · have e : p = q := by omega
      subst e
      by_cases hpl : p < l.length
      · obtain ⟨ad, rfl, hb, hc⟩ := h p hpl
        obtain ⟨y, hy⟩ : ∃ y, l[p] = y := ⟨_, rfl⟩
        rw [hy] at hc
        have HY := Lib.hid (show l.getD p 0 = y by rw [getD_of (by omega)]; exact hy)
        clear hy
        by_cases hyx : y = x
        · subst hyx
          have HM := Lib.hid (decide_eq_true (getD_mem hpl HY.out))
          go_wp2_with fail
          go_ret2
          exact ⟨⟨(p : Int), by rw [HM.out]; rfl⟩, rfl⟩
        · have HM := Lib.hid (decide_eq_false (getD_ne (l := l) (x := x) (fun j hj => by
            by_cases hjp : j < p
            · exact Int.ne_of_lt (HL.out j hjp)
            · by_cases hjp2 : j = p
              · rw [hjp2, HY.out]; exact hyx
              · have h1 := pw_le HS.out (show p ≤ j by omega) hj
                have h2 := HH.out p (Nat.le_refl _) hpl
                rw [HY.out] at h1 h2
                omega)))
          have t1 : (y == x) = false := beq_eq_false_iff_ne.2 hyx
          go_wp2_with fail
          refine (CN.out _ _).mono ?_
          rintro e w1 ⟨rfl, rfl⟩
          go_wp2_with fail
          go_ret2
          exact ⟨⟨(p : Int), by rw [HM.out]; rfl⟩, rfl⟩
      · have HM := Lib.hid (decide_eq_false (getD_ne (l := l) (x := x) (fun j hj => Int.ne_of_lt (HL.out j (by omega)))))
        go_wp2_with fail
        go_ret2
        exact ⟨⟨(p : Int), by rw [HM.out]; rfl⟩, rfl⟩
end Go.Proofs.YthigmjjafilbcaaDoor
