/- Contracts that look for a number in a row: slices.Index, slices.Contains, the reference's has; majorities. -/
import Derived.Test.YtdbodnpfeiplgaaPeA
namespace Go.Proofs.Ytdbodnpfeiplgaa
set_option linter.unusedVariables false
open Go.RowKit
theorem index_any (A : Option Addr) (c : Nat) (l : List Int) (n : Int) (w : World) (h : Sl w .u64 A l) (hl : l.length ≤ 4611686018427387904) :
    Calls Try.prog 34 #[.slice A l.length c, .int .u64 n] w fun e w' => e = .returned (.int .i64 (idxL l n)) ∧ w = w' := by
  go_enter Try.func34, Try.ntmps34
  go_wp2_with fail
  go_loop [8] (fun i => ∃ k : Nat, k ≤ l.length ∧ i = .int .i64 k ∧ ∀ j, j < k → l.getD j 0 ≠ n) (fun i => l.length - (intOf i).toNat)
  case atStart => exact ⟨0, by omega, rfl, fun j hj => absurd hj (by omega)⟩
  case round =>
    obtain ⟨k, hk, rfl, hall⟩ := hrel
    have H := Lib.hid hall; clear hall
    by_cases hlt : k < l.length
    · obtain ⟨ad, rfl, hb, hc⟩ := h k hlt
      obtain ⟨x, hx⟩ : ∃ x, l[k] = x := ⟨_, rfl⟩
      rw [hx] at hc
      have hx' : l.getD k 0 = x := by simp [hlt, hx]
      by_cases ht : x = n
      · subst ht
        have P2 := Lib.hid hx'; clear hx hx'
        go_wp2_with fail
        go_ret
        exact ⟨ret_int (by rw [idx_at (by omega) P2.out H.out]), rfl⟩
      · have t1 : (x == n) = false := beq_eq_false_iff_ne.2 ht
        have t2 : (n == x) = false := beq_eq_false_iff_ne.2 (Ne.symm ht)
        have P2 := Lib.hid hx'; clear hx hx'
        have P3 := Lib.hid ht; clear ht
        go_wp2_with fail
        go_round
        case rel =>
          refine ⟨k + 1, by omega, by go_num, fun j hj => ?_⟩
          rcases Nat.lt_succ_iff_lt_or_eq.1 hj with hj | rfl
          · exact H.out j hj
          · rw [P2.out]; exact P3.out
        case measure => simp [intOf]; omega
    · have e : k = l.length := by omega
      subst e
      go_wp2_with fail
      go_ret
      exact ⟨ret_int (by rw [idx_none H.out]), rfl⟩


theorem contains_any (A : Option Addr) (c : Nat) (l : List Int) (n : Int) (w : World) (h : Sl w .u64 A l) (hl : l.length ≤ 4611686018427387904) :
    Calls Try.prog 31 #[.slice A l.length c, .int .u64 n] w fun e w' => e = .returned (.bool (hasL l n)) ∧ w = w' := by
  have C := Lib.hid (index_any A c l n w h hl)
  unfold idxL at C
  cases hc : hasL l n
  · rw [hc, if_neg (by simp)] at C
    clear hc
    go_enter Try.func31, Try.ntmps31
    go_wp2_with fail
    refine C.out.mono ?_
    rintro e w1 ⟨rfl, rfl⟩
    go_wp2_with fail
    go_ret
    exact ⟨rfl, rfl⟩
  · rw [hc, if_pos rfl] at C
    clear hc
    generalize l.idxOf n = q at C
    go_enter Try.func31, Try.ntmps31
    go_wp2_with fail
    refine C.out.mono ?_
    rintro e w1 ⟨rfl, rfl⟩
    go_wp2_with fail
    go_ret
    exact ⟨ret_bool (by simp), rfl⟩

theorem refHas_any (A : Option Addr) (c : Nat) (l : List Int) (n : Int) (w : World) (h : Sl w .u64 A l) (hl : l.length ≤ 4611686018427387904) :
    Calls Try.prog 33 #[.slice A l.length c, .int .u64 n] w fun e w' => e = .returned (.bool (hasL l n)) ∧ w = w' := by
  go_enter Try.func33, Try.ntmps33
  go_wp2_with fail
  go_loop [5] (fun i => ∃ k : Nat, k ≤ l.length ∧ i = .int .i64 k ∧ ∀ j, j < k → l.getD j 0 ≠ n) (fun i => l.length - (intOf i).toNat)
  case atStart => exact ⟨0, by omega, rfl, fun j hj => absurd hj (by omega)⟩
  case round =>
    obtain ⟨k, hk, rfl, hall⟩ := hrel
    have H := Lib.hid hall; clear hall
    by_cases hlt : k < l.length
    · obtain ⟨ad, rfl, hb, hc⟩ := h k hlt
      obtain ⟨x, hx⟩ : ∃ x, l[k] = x := ⟨_, rfl⟩
      rw [hx] at hc
      have hx' : l.getD k 0 = x := by simp [hlt, hx]
      by_cases ht : x = n
      · subst ht
        have P2 := Lib.hid hx'; clear hx hx'
        go_wp2_with fail
        go_ret
        exact ⟨ret_bool (has_at (by omega) P2.out).symm, rfl⟩
      · have t1 : (x == n) = false := beq_eq_false_iff_ne.2 ht
        have t2 : (n == x) = false := beq_eq_false_iff_ne.2 (Ne.symm ht)
        have P2 := Lib.hid hx'; clear hx hx'
        have P3 := Lib.hid ht; clear ht
        go_wp2_with fail
        go_round
        case rel =>
          refine ⟨k + 1, by omega, by go_num, fun j hj => ?_⟩
          rcases Nat.lt_succ_iff_lt_or_eq.1 hj with hj | rfl
          · exact H.out j hj
          · rw [P2.out]; exact P3.out
        case measure => simp [intOf]; omega
    · have e : k = l.length := by omega
      subst e
      go_wp2_with fail
      go_ret
      exact ⟨ret_bool (has_none H.out).symm, rfl⟩


theorem major_any (n : Int) (w : World) (hn : n ≤ 9223372036854775807) : Calls Try.prog 25 #[.int .i64 n] w fun e w' => e = .returned (.int .i64 (max 0 n / 2 + 1)) ∧ w = w' := by
  go_enter Try.func25, Try.ntmps25
  go_wp2_with fail
  all_goals
    go_ret
    exact ⟨ret_int (by omega), rfl⟩

theorem take_snoc {l : List Int} {k : Nat} (hk : k < l.length) : l.take (k + 1) = l.take k ++ [l[k]] := List.take_succ_eq_append_getElem hk

set_option maxHeartbeats 1000000 in
theorem wins_any (A B : Option Addr) (c d : Nat) (l yes : List Int) (w : World) (h : Sl w .u64 A l) (g : Sl w .u64 B yes) (hl : l.length ≤ 4611686018427387904) (hy : yes.length ≤ 4611686018427387904) :
    Calls Try.prog 12 #[.slice A l.length c, .slice B yes.length d] w fun e w' => e = .returned (.bool (winsP l yes)) ∧ w = w' := by
  have CM := Lib.hid (may_any A c l w h (by omega))
  go_enter Try.func12, Try.ntmps12
  go_wp2_with fail
  go_loop [5, 10] (fun a i => ∃ k : Nat, k ≤ l.length ∧ i = .int .i64 k ∧ a = .int .i64 (cnt (l.take k) yes : Nat)) (fun _ i => l.length - (intOf i).toNat)
  case atStart => exact ⟨0, by omega, rfl, by simp [cnt]⟩
  case round =>
    obtain ⟨k, hk, rfl, rfl⟩ := hrel
    have hcb : cnt (l.take k) yes ≤ k := Nat.le_trans (cnt_le _ _) (List.length_take_le _ _)
    by_cases hlt : k < l.length
    · obtain ⟨ad, rfl, hb, hc⟩ := h k hlt
      have hs := cnt_snoc (l.take k) l[k] yes
      rw [← take_snoc hlt] at hs
      obtain ⟨x, hx⟩ : ∃ x, l[k] = x := ⟨_, rfl⟩
      rw [hx] at hc hs
      clear hx
      have H := Lib.hid hs; clear hs
      have C := Lib.hid (contains_any B d yes x w g hy)
      cases hq : hasL yes x
      all_goals
        rw [hq] at C H
        clear hq
        go_wp2_with fail
        refine C.out.mono ?_
        rintro e w1 ⟨rfl, rfl⟩
        go_wp2_with fail
        go_round
        case rel => exact ⟨k + 1, by omega, by go_num, by rw [H.out]; simp⟩
        case measure => simp [intOf]; omega
    · have e : k = l.length := by omega
      subst e
      have CJ := Lib.hid fun W => major_any (l.length : Int) W (by omega)
      have hw : winsP l yes = (mayP l && decide (l.length / 2 + 1 ≤ cnt (l.take l.length) yes)) := by unfold winsP; rw [List.take_length]
      generalize cnt (l.take l.length) yes = q at *
      have HW := Lib.hid hw; clear hw
      cases hm : mayP l
      · rw [hm] at CM HW
        clear hm
        go_wp2_with fail
        refine CM.out.mono ?_
        rintro e w1 ⟨rfl, rfl⟩
        go_wp2_with fail
        go_ret
        exact ⟨ret_bool (by rw [HW.out]; rfl), rfl⟩
      · rw [hm] at CM HW
        clear hm
        go_wp2_with fail
        refine CM.out.mono ?_
        rintro e w1 ⟨rfl, rfl⟩
        go_wp2_with fail
        refine (CJ.out _).mono ?_
        rintro e w2 ⟨rfl, rfl⟩
        go_wp2_with fail
        go_ret
        refine ⟨ret_bool ?_, rfl⟩
        rw [HW.out, Bool.true_and]
        apply decide_eq_decide.2
        omega

/-- The reference's count: those that are less those that are not. -/
def dif (l yes : List Int) : Int := 2 * (cnt l yes : Int) - l.length
theorem dif_snoc (l : List Int) (x : Int) (yes : List Int) : dif (l ++ [x]) yes = dif l yes + if hasL yes x = true then 1 else -1 := by
  unfold dif
  rw [cnt_snoc, List.length_append]
  split <;> simp <;> omega

theorem refMay_any (A : Option Addr) (c : Nat) (l : List Int) (w : World) (h : Sl w .u64 A l) (hl : l.length ≤ 4611686018427387904) (hp : ∀ x ∈ l, 0 ≤ x) :
    Calls Try.prog 22 #[.slice A l.length c] w fun e w' => e = .returned (.bool (mayP l)) ∧ ∃ q, w' = w.drewN q := by
  by_cases h0 : l.length = 0
  · have hv : mayP l = false := by
      rw [Bool.eq_false_iff]
      intro hm
      have := mayP_iff.1 hm
      omega
    have HV := Lib.hid hv; clear hv
    obtain rfl : l = [] := List.length_eq_zero_iff.1 h0
    clear h0
    go_enter Try.func22, Try.ntmps22
    go_wp2_with fail
    go_ret
    exact ⟨ret_bool HV.out.symm, 0, by simp [World.drewN_zero]⟩
  by_cases h7 : 7 < l.length
  · have hv : mayP l = false := by
      rw [Bool.eq_false_iff]
      intro hm
      have := mayP_iff.1 hm
      omega
    have HV := Lib.hid hv; clear hv
    have b0 : ((l.length : Int) == 0) = false := by rw [beq_eq_false_iff_ne]; omega
    clear h0
    go_enter Try.func22, Try.ntmps22
    go_wp2_with fail
    go_ret
    exact ⟨ret_bool HV.out.symm, 0, by simp [World.drewN_zero]⟩
  obtain ⟨ad, rfl, hb, hc⟩ := h 0 (by omega)
  have hc0 : w.cell? ad = some (.int .u64 l[0]) := by simpa [Addr.add] using hc
  have hx0 : 0 ≤ l[0] := hp _ (List.getElem_mem _)
  obtain ⟨x, hx⟩ : ∃ x, l[0] = x := ⟨_, rfl⟩
  rw [hx] at hc0 hx0
  clear hc
  have hg0 : l.getD 0 0 = x := by rw [List.getD_eq_getElem?_getD, List.getElem?_eq_getElem (by omega), hx]; rfl
  have G0 := Lib.hid hg0; clear hg0 hx
  have hl7 : l.length ≤ 7 := by omega
  have hl1 : 1 ≤ l.length := by omega
  have b0 : ((l.length : Int) == 0) = false := by rw [beq_eq_false_iff_ne]; omega
  have b7 : decide (7 < l.length) = false := decide_eq_false h7
  by_cases hz : x = 0
  · have hv : mayP l = false := by
      rw [Bool.eq_false_iff]
      intro hm
      have := (rise_iff l 0).1 (mayP_iff.1 hm).1 0 (by omega)
      rw [G0.out] at this
      simp [prev] at this
      omega
    have HV := Lib.hid hv; clear hv
    subst hz
    clear h0 h7
    go_enter Try.func22, Try.ntmps22
    go_wp2_with fail
    go_ret
    exact ⟨ret_bool HV.out.symm, 0, by simp [World.drewN_zero]⟩
  have bz : (x == 0) = false := beq_eq_false_iff_ne.2 hz
  go_enter Try.func22, Try.ntmps22
  go_wp2_with fail
  go_loopw [3] (fun i wr => ∃ (k q : Nat), 1 ≤ k ∧ k ≤ l.length ∧ i = .int .i64 k ∧ wr = w.drewN q ∧ ∀ j, j < k → prev 0 l j < l.getD j 0) (fun i _ => l.length - (intOf i).toNat)
  case atStart =>
    refine ⟨1, 0, by omega, hl1, rfl, by simp [World.drewN_zero], fun j hj => ?_⟩
    obtain rfl : j = 0 := by omega
    rw [G0.out]
    simp [prev]
    omega
  case round =>
    obtain ⟨k, q, hk1, hk, rfl, rfl, hall⟩ := hrel
    have H := Lib.hid hall; clear hall
    by_cases hlt : k < l.length
    · have c1 := h.at_ hlt
      have c2 := h.at_ (j := k - 1) (by omega)
      obtain ⟨y, hy⟩ : ∃ y, l[k] = y := ⟨_, rfl⟩
      obtain ⟨z, hz'⟩ : ∃ z, l[k - 1] = z := ⟨_, rfl⟩
      rw [hy] at c1
      rw [hz'] at c2
      have g1 : l.getD k 0 = y := by rw [List.getD_eq_getElem?_getD, List.getElem?_eq_getElem hlt, hy]; rfl
      have g2 : prev 0 l k = z := by rw [prev, if_neg (by omega), List.getD_eq_getElem?_getD, List.getElem?_eq_getElem (by omega), hz']; rfl
      have G1 := Lib.hid g1; clear g1 hy
      have G2 := Lib.hid g2; clear g2 hz'
      have i1 : (0 : Int) ≤ (k : Int) - 1 := by omega
      have i2 : IntKind.i64.wrap ((k : Int) - 1) = (k : Int) - 1 := IntWalk.i64_in _ (by omega)
      by_cases ht : y ≤ z
      · have hv : mayP l = false := by
          rw [Bool.eq_false_iff]
          intro hm
          have := (rise_iff l 0).1 (mayP_iff.1 hm).1 k hlt
          rw [G1.out, G2.out] at this
          omega
        have HV := Lib.hid hv; clear hv
        go_wp2_with fail
        go_quiet (fail)
        go_wp2_with fail
        go_ret
        exact ⟨ret_bool HV.out.symm, _, World.drewN_drewN _ _ _⟩
      · have ht' : decide (y ≤ z) = false := decide_eq_false ht
        have T := Lib.hid ht; clear ht
        go_wp2_with fail
        go_quiet (fail)
        go_wp2_with fail
        go_roundw
        case rel =>
          refine ⟨k + 1, _, by omega, by omega, by go_num, rfl, fun j hj => ?_⟩
          rcases Nat.lt_succ_iff_lt_or_eq.1 hj with hj | rfl
          · exact H.out j hj
          · rw [G1.out, G2.out]; have := T.out; omega
        case measure => simp [intOf]; omega
    · have e : k = l.length := by omega
      subst e
      have hr : rise 0 l = true := (rise_iff l 0).2 fun j hj => H.out j hj
      have hv : mayP l = true := mayP_iff.2 ⟨hr, hl1, hl7⟩
      have HV := Lib.hid hv; clear hv hr
      go_wp2_with fail
      go_ret
      exact ⟨ret_bool HV.out.symm, _, rfl⟩
end Go.Proofs.Ytdbodnpfeiplgaa
