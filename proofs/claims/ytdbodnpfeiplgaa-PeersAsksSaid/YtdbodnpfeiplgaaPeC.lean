/- Contracts of the reference's Wins and Same, and of the law's common. -/
import Derived.Test.YtdbodnpfeiplgaaPeB
namespace Go.Proofs.Ytdbodnpfeiplgaa
set_option linter.unusedVariables false
open Go.RowKit

set_option maxHeartbeats 1000000 in
theorem refWins_any (A B : Option Addr) (c d : Nat) (l yes : List Int) (w : World) (h : Sl w .u64 A l) (g : Sl w .u64 B yes) (hl : l.length ≤ 4611686018427387904) (hy : yes.length ≤ 4611686018427387904) (hp : ∀ x ∈ l, 0 ≤ x) :
    Calls Try.prog 23 #[.slice A l.length c, .slice B yes.length d] w fun e w' => e = .returned (.bool (winsP l yes)) ∧ ∃ q, w' = w.drewN q := by
  have CM := Lib.hid (refMay_any A c l w h hl hp)
  go_enter Try.func23, Try.ntmps23
  go_wp2_with fail
  go_loop [5, 6] (fun a i => ∃ k : Nat, k ≤ l.length ∧ i = .int .i64 k ∧ a = .int .i64 (dif (l.take k) yes)) (fun _ i => l.length - (intOf i).toNat)
  case atStart => exact ⟨0, by omega, rfl, by simp [dif, cnt]⟩
  case round =>
    obtain ⟨k, hk, rfl, rfl⟩ := hrel
    have hcb : cnt (l.take k) yes ≤ k := Nat.le_trans (cnt_le _ _) (List.length_take_le _ _)
    have hlen : (l.take k).length = k := List.length_take_of_le hk
    have hd1 : -(k : Int) ≤ dif (l.take k) yes := by unfold dif; omega
    have hd2 : dif (l.take k) yes ≤ k := by unfold dif; omega
    clear hcb hlen
    by_cases hlt : k < l.length
    · obtain ⟨ad, rfl, hb, hc⟩ := h k hlt
      have hs := dif_snoc (l.take k) l[k] yes
      rw [← take_snoc hlt] at hs
      obtain ⟨x, hx⟩ : ∃ x, l[k] = x := ⟨_, rfl⟩
      rw [hx] at hc hs
      clear hx
      have H := Lib.hid hs; clear hs
      have C := Lib.hid (refHas_any B d yes x w g hy)
      cases hq : hasL yes x
      all_goals
        rw [hq] at C H
        clear hq
        go_wp2_with fail
        refine C.out.mono ?_
        rintro e w1 ⟨rfl, rfl⟩
        go_wp2_with fail
        go_round
        case rel => exact ⟨k + 1, by omega, by go_num, by rw [H.out]; simp; try omega⟩
        case measure => simp [intOf]; omega
    · have e : k = l.length := by omega
      subst e
      have hw : winsP l yes = (mayP l && decide (0 < dif (l.take l.length) yes)) := by
        unfold winsP dif
        rw [List.take_length]
        congr 1
        apply decide_eq_decide.2
        omega
      generalize dif (l.take l.length) yes = q at *
      have HW := Lib.hid hw; clear hw
      cases hm : mayP l
      all_goals
        rw [hm] at CM HW
        clear hm
        go_wp2_with fail
        refine CM.out.mono ?_
        rintro e w1 ⟨rfl, q1, rfl⟩
        go_wp2_with fail
        go_ret
        exact ⟨ret_bool (by rw [HW.out]; first | rfl | simp), q1, rfl⟩

/-- Are two rows the same? -/
def sameL (a b : List Int) : Bool := decide (a = b)
theorem sameL_len {a b : List Int} (h : a.length ≠ b.length) : sameL a b = false := decide_eq_false fun e => h (by rw [e])
theorem sameL_ne {a b : List Int} {k : Nat} (h : a.getD k 0 ≠ b.getD k 0) : sameL a b = false := decide_eq_false fun e => h (by rw [e])
theorem sameL_eq {a b : List Int} (hl : a.length = b.length) (h : ∀ j, j < a.length → a.getD j 0 = b.getD j 0) : sameL a b = true := decide_eq_true (by
  apply List.ext_getElem hl
  intro i h1 h2
  have := h i h1
  simpa [List.getD_eq_getElem?_getD, List.getElem?_eq_getElem h1, List.getElem?_eq_getElem h2] using this)
theorem getD_at {l : List Int} {k : Nat} (h : k < l.length) : l.getD k 0 = l[k] := by rw [List.getD_eq_getElem?_getD, List.getElem?_eq_getElem h]; rfl

set_option maxHeartbeats 1000000 in
theorem same_any (A B : Option Addr) (c d : Nat) (a b : List Int) (w : World) (h : Sl w .u64 A a) (g : Sl w .u64 B b) (ha : a.length ≤ 4611686018427387904) (hb : b.length ≤ 4611686018427387904) :
    Calls Try.prog 20 #[.slice A a.length c, .slice B b.length d] w fun e w' => e = .returned (.bool (sameL a b)) ∧ ∃ q, w' = w.drewN q := by
  by_cases hl : a.length = b.length
  rotate_left
  · have hv := Lib.hid (sameL_len hl)
    have b1 : ((a.length : Int) != (b.length : Int)) = true := by rw [bne_iff_ne]; omega
    clear hl
    go_enter Try.func20, Try.ntmps20
    go_wp2_with fail
    go_ret
    exact ⟨ret_bool hv.out.symm, 0, by simp [World.drewN_zero]⟩
  have b1 : ((a.length : Int) != (b.length : Int)) = false := by rw [bne_eq_false_iff_eq]; omega
  have HL := Lib.hid hl
  have hle : a.length ≤ b.length := by omega
  clear hl
  go_enter Try.func20, Try.ntmps20
  go_wp2_with fail
  go_loopw [5] (fun i wr => ∃ (k q : Nat), k ≤ a.length ∧ i = .int .i64 k ∧ wr = w.drewN q ∧ ∀ j, j < k → a.getD j 0 = b.getD j 0) (fun i _ => a.length - (intOf i).toNat)
  case atStart => exact ⟨0, 0, by omega, rfl, by simp [World.drewN_zero], fun j hj => absurd hj (by omega)⟩
  case round =>
    obtain ⟨k, q, hk, rfl, rfl, hall⟩ := hrel
    have H := Lib.hid hall; clear hall
    by_cases hlt : k < a.length
    · obtain ⟨ad, rfl, _, c1⟩ := h k hlt
      obtain ⟨bd, rfl, _, c2⟩ := g k (by omega)
      have hlb : k < b.length := by omega
      obtain ⟨y, hy⟩ : ∃ y, a[k] = y := ⟨_, rfl⟩
      obtain ⟨z, hz⟩ : ∃ z, b[k] = z := ⟨_, rfl⟩
      rw [hy] at c1
      rw [hz] at c2
      have G1 := Lib.hid ((getD_at hlt).trans hy); clear hy
      have G2 := Lib.hid ((getD_at hlb).trans hz); clear hz
      by_cases ht : y = z
      · subst ht
        go_wp2_with fail
        go_quiet (fail)
        go_wp2_with fail
        go_roundw
        case rel =>
          refine ⟨k + 1, _, by omega, by go_num, rfl, fun j hj => ?_⟩
          rcases Nat.lt_succ_iff_lt_or_eq.1 hj with hj | rfl
          · exact H.out j hj
          · rw [G1.out, G2.out]
        case measure => simp [intOf]; omega
      · have t1 : (y != z) = true := by rw [bne_iff_ne]; exact ht
        have hv := Lib.hid (sameL_ne (a := a) (b := b) (k := k) (by rw [G1.out, G2.out]; exact ht))
        clear ht
        go_wp2_with fail
        go_quiet (fail)
        go_wp2_with fail
        go_ret
        exact ⟨ret_bool hv.out.symm, _, World.drewN_drewN _ _ _⟩
    · have e : k = a.length := by omega
      subst e
      have hv := Lib.hid (sameL_eq HL.out fun j hj => H.out j hj)
      go_wp2_with fail
      go_ret
      exact ⟨ret_bool hv.out.symm, _, rfl⟩

/-- Have two rows somebody in common? -/
def comL (a b : List Int) : Bool := a.any (hasL b)
theorem comL_at {a b : List Int} {i k : Nat} (hi : i < a.length) (hk : k < b.length) (h : a.getD i 0 = b.getD k 0) : comL a b = true :=
  List.any_eq_true.2 ⟨_, mem_getD hi, hasL_iff.2 (h ▸ mem_getD hk)⟩
theorem comL_none {a b : List Int} (h : ∀ i, i < a.length → ∀ k, k < b.length → a.getD i 0 ≠ b.getD k 0) : comL a b = false := by
  rw [Bool.eq_false_iff]
  intro hc
  obtain ⟨x, hx, hxb⟩ := List.any_eq_true.1 hc
  obtain ⟨i, hi, ei⟩ := getD_of_mem hx
  obtain ⟨k, hk, ek⟩ := getD_of_mem (hasL_iff.1 hxb)
  exact h i hi k hk (ei.trans ek.symm)

set_option maxHeartbeats 1000000 in
theorem common_any (A B : Option Addr) (c d : Nat) (a b : List Int) (w : World) (h : Sl w .u64 A a) (g : Sl w .u64 B b) (ha : a.length ≤ 4611686018427387904) (hb : b.length ≤ 4611686018427387904) :
    Calls Try.prog 26 #[.slice A a.length c, .slice B b.length d] w fun e w' => e = .returned (.bool (comL a b)) ∧ ∃ q, w' = w.drewN q := by
  go_enter Try.func26, Try.ntmps26
  go_wp2_with fail
  go_loopw [5] (fun i wr => ∃ (k q : Nat), k ≤ a.length ∧ i = .int .i64 k ∧ wr = w.drewN q ∧ ∀ j, j < k → ∀ n, n < b.length → a.getD j 0 ≠ b.getD n 0) (fun i _ => a.length - (intOf i).toNat)
  case atStart => exact ⟨0, 0, by omega, rfl, by simp [World.drewN_zero], fun j hj => absurd hj (by omega)⟩
  case round =>
    obtain ⟨k, q, hk, rfl, rfl, hall⟩ := hrel
    have H := Lib.hid hall; clear hall
    by_cases hlt : k < a.length
    · obtain ⟨ad, rfl, _, c1⟩ := h k hlt
      obtain ⟨y, hy⟩ : ∃ y, a[k] = y := ⟨_, rfl⟩
      rw [hy] at c1
      have G1 := Lib.hid ((getD_at hlt).trans hy); clear hy
      go_wp2_with fail
      go_loopw [6] (fun i wr => ∃ (n q : Nat), n ≤ b.length ∧ i = .int .i64 n ∧ wr = w.drewN q ∧ ∀ j, j < n → y ≠ b.getD j 0) (fun i _ => b.length - (intOf i).toNat)
      case atStart => exact ⟨0, q, by omega, rfl, rfl, fun j hj => absurd hj (by omega)⟩
      case round =>
        obtain ⟨n, q2, hn, rfl, rfl, hall2⟩ := hrel
        have H2 := Lib.hid hall2; clear hall2
        by_cases hlt2 : n < b.length
        · obtain ⟨bd, rfl, _, c2⟩ := g n hlt2
          obtain ⟨z, hz⟩ : ∃ z, b[n] = z := ⟨_, rfl⟩
          rw [hz] at c2
          have G2 := Lib.hid ((getD_at hlt2).trans hz); clear hz
          by_cases ht : y = z
          · subst ht
            have hv := Lib.hid (comL_at (a := a) (b := b) hlt hlt2 (by rw [G1.out, G2.out]))
            go_wp2_with fail
            go_quiet (fail)
            go_wp2_with fail
            go_ret
            exact ⟨ret_bool hv.out.symm, _, World.drewN_drewN _ _ _⟩
          · have t1 : (y == z) = false := beq_eq_false_iff_ne.2 ht
            have T := Lib.hid ht; clear ht
            go_wp2_with fail
            go_quiet (fail)
            go_wp2_with fail
            go_roundw
            case rel =>
              refine ⟨n + 1, _, by omega, by go_num, rfl, fun j hj => ?_⟩
              rcases Nat.lt_succ_iff_lt_or_eq.1 hj with hj | rfl
              · exact H2.out j hj
              · rw [G2.out]; exact T.out
            case measure => simp [intOf]; omega
        · have e : n = b.length := by omega
          subst e
          go_wp2_with fail
          go_roundw
          case rel =>
            refine ⟨k + 1, _, by omega, by go_num, rfl, fun j hj => ?_⟩
            rcases Nat.lt_succ_iff_lt_or_eq.1 hj with hj | rfl
            · exact H.out j hj
            · intro n hn
              rw [G1.out]; exact H2.out n hn
          case measure => simp [intOf]; omega
    · have e : k = a.length := by omega
      subst e
      have hv := Lib.hid (comL_none fun i hi n hn => H.out i hi n hn)
      go_wp2_with fail
      go_ret
      exact ⟨ret_bool hv.out.symm, _, rfl⟩
end Go.Proofs.Ytdbodnpfeiplgaa
