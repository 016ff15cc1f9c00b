/- Rows of nodes as they lie; contracts of the small functions that look through rows. -/
import Derived.Test.YtceeopjmdfefjaaGrP
import Derived.Test.YtceeopjmdfefjaaApp
import Derived.BigQuiet
import Derived.Lib.Hide
namespace Go.Proofs.Ytceeopjmdfefjaa
set_option linter.unusedVariables false
open Go.RowKit
/-- A row of nodes. -/
def NdS (w : World) (L : Option Addr) (ls : List Nd) : Prop := ∀ j (hj : j < ls.length), ∃ ad B c, L = some ad ∧ ad.block < w.heap.size ∧ w.cell? (ad.add (j * 2)) = some (.int .u64 ls[j].id) ∧ w.cell? (ad.add (j * 2 + 1)) = some (.slice B ls[j].deps.length c) ∧
  Sl w .u64 B ls[j].deps ∧ (B = none → c = 0) ∧ ls[j].deps.length ≤ c ∧ c ≤ maxLen
theorem NdS.nil (w : World) (L : Option Addr) : NdS w L [] := fun j hj => absurd hj (by simp)
theorem NdS.over {w w' : World} {L : Option Addr} {ls : List Nd} (h : NdS w L ls) (hb : Below w.heap.size w w') : NdS w' L ls := fun j hj => by
  obtain ⟨ad, B, c, e, h1, h2, h3, h4, h5, h6, h7⟩ := h j hj
  exact ⟨ad, B, c, e, Nat.lt_of_lt_of_le h1 hb.size, (hb.cell (by rw [add_block]; exact h1)).trans h2, (hb.cell (by rw [add_block]; exact h1)).trans h3, h4.over hb, h5, h6, h7⟩
theorem NdS.take {w : World} {L : Option Addr} {ls : List Nd} (h : NdS w L ls) (n : Nat) : NdS w L (ls.take n) := fun j hj => by
  rw [List.length_take] at hj
  rw [List.getElem_take]
  exact h j (by omega)
theorem getD_ne {l : List Int} {x : Int} (h : ∀ j, j < l.length → l.getD j 0 ≠ x) : ¬ x ∈ l := fun hx => by
  obtain ⟨j, hj, rfl⟩ := List.mem_iff_getElem.1 hx
  exact h j hj (by simp [hj])
theorem getD_mem {l : List Int} {x : Int} {k : Nat} (hk : k < l.length) (h : l.getD k 0 = x) : x ∈ l := by
  rw [List.getD_eq_getElem?_getD, List.getElem?_eq_getElem hk] at h
  exact h ▸ List.getElem_mem _
theorem has_any (A : Option Addr) (c : Nat) (l : List Int) (n : Int) (w : World) (h : Sl w .u64 A l) (hl : l.length ≤ 4611686018427387904) :
    Calls Try.prog 18 #[.slice A l.length c, .int .u64 n] w fun e w' => e = .returned (.bool (decide (n ∈ l))) ∧ w' = w := by
  go_enter Try.func18, Try.ntmps18
  go_wp2_with fail
  go_loop [5] (fun i => ∃ k : Nat, k ≤ l.length ∧ i = .int .i64 k ∧ ∀ j, j < k → l.getD j 0 ≠ n) (fun i => l.length - (intOf i).toNat)
  case atStart => exact ⟨0, by omega, rfl, fun j hj => absurd hj (by omega)⟩
  case round =>
    obtain ⟨k, hk, rfl, hall⟩ := hrel
    have H := Lib.hid hall; clear hall
    by_cases hlt : k < l.length
    · obtain ⟨ad, rfl, hb, hc⟩ := h k hlt
      obtain ⟨x, hx⟩ : ∃ x, l[k] = x := ⟨_, rfl⟩
      rw [hx] at hc
      have hx' : l.getD k 0 = x := by simp [hlt, hx]
      by_cases ht : x = n
      · subst ht
        have P2 := Lib.hid hx'; clear hx hx'
        go_wp2_with fail
        go_ret
        exact ⟨by rw [decide_eq_true (getD_mem hlt P2.out)]; rfl, rfl⟩
      · have t1 : (x == n) = false := beq_eq_false_iff_ne.2 ht
        have t2 : (n == x) = false := beq_eq_false_iff_ne.2 (Ne.symm ht)
        have P2 := Lib.hid hx'; clear hx hx'
        have P3 := Lib.hid ht; clear ht
        go_wp2_with fail
        go_round
        case rel =>
          refine ⟨k + 1, by omega, by go_num, fun j hj => ?_⟩
          rcases Nat.lt_succ_iff_lt_or_eq.1 hj with hj | rfl
          · exact H.out j hj
          · rw [P2.out]; exact P3.out
        case measure => simp [intOf]; omega
    · have e : k = l.length := by omega
      subst e
      go_wp2_with fail
      go_ret
      exact ⟨by rw [decide_eq_false (getD_ne H.out)]; rfl, rfl⟩
theorem index_any (A : Option Addr) (c : Nat) (l : List Int) (n : Int) (w : World) (h : Sl w .u64 A l) (hl : l.length ≤ 4611686018427387904) :
    Calls Try.prog 30 #[.slice A l.length c, .int .u64 n] w fun e w' => ∃ q : Int, e = .returned (.int .i64 q) ∧ (0 ≤ q ↔ n ∈ l) ∧ w' = w := by
  go_enter Try.func30, Try.ntmps30
  go_wp2_with fail
  go_loop [8] (fun i => ∃ k : Nat, k ≤ l.length ∧ i = .int .i64 k ∧ ∀ j, j < k → l.getD j 0 ≠ n) (fun i => l.length - (intOf i).toNat)
  case atStart => exact ⟨0, by omega, rfl, fun j hj => absurd hj (by omega)⟩
  case round =>
    obtain ⟨k, hk, rfl, hall⟩ := hrel
    have H := Lib.hid hall; clear hall
    by_cases hlt : k < l.length
    · obtain ⟨ad, rfl, hb, hc⟩ := h k hlt
      obtain ⟨x, hx⟩ : ∃ x, l[k] = x := ⟨_, rfl⟩
      rw [hx] at hc
      have hx' : l.getD k 0 = x := by simp [hlt, hx]
      by_cases ht : x = n
      · subst ht
        have P2 := Lib.hid hx'; clear hx hx'
        go_wp2_with fail
        go_ret
        exact ⟨(k : Int), rfl, ⟨fun _ => getD_mem hlt P2.out, fun _ => by omega⟩, rfl⟩
      · have t1 : (x == n) = false := beq_eq_false_iff_ne.2 ht
        have t2 : (n == x) = false := beq_eq_false_iff_ne.2 (Ne.symm ht)
        have P2 := Lib.hid hx'; clear hx hx'
        have P3 := Lib.hid ht; clear ht
        go_wp2_with fail
        go_round
        case rel =>
          refine ⟨k + 1, by omega, by go_num, fun j hj => ?_⟩
          rcases Nat.lt_succ_iff_lt_or_eq.1 hj with hj | rfl
          · exact H.out j hj
          · rw [P2.out]; exact P3.out
        case measure => simp [intOf]; omega
    · have e : k = l.length := by omega
      subst e
      go_wp2_with fail
      go_ret
      exact ⟨-1, rfl, ⟨fun h => by omega, fun h => absurd h (getD_ne H.out)⟩, rfl⟩
theorem contains_any (A : Option Addr) (c : Nat) (l : List Int) (n : Int) (w : World) (h : Sl w .u64 A l) (hl : l.length ≤ 4611686018427387904) :
    Calls Try.prog 20 #[.slice A l.length c, .int .u64 n] w fun e w' => e = .returned (.bool (decide (n ∈ l))) ∧ w' = w := by
  have C := Lib.hid (index_any A c l n w h hl)
  go_enter Try.func20, Try.ntmps20
  go_wp2_with fail
  refine C.out.mono ?_
  rintro e w1 ⟨q, rfl, hq, rfl⟩
  have HQ := Lib.hid (show decide (0 ≤ q) = decide (n ∈ l) from decide_eq_decide.2 hq)
  clear hq
  go_wp2_with fail
  go_ret
  exact ⟨congrArg (fun b => Ending.returned (.bool b)) HQ.out, rfl⟩
theorem same_any (A B : Option Addr) (c d : Nat) (a b : List Int) (w : World) (ha : Sl w .u64 A a) (hb : Sl w .u64 B b) (hl : a.length ≤ 4611686018427387904) :
    Calls Try.prog 12 #[.slice A a.length c, .slice B b.length d] w fun e w' => e = .returned (.bool (decide (a = b))) ∧ ∃ q, w' = w.drewN q := by
  by_cases hab : a.length = b.length
  · have tl : ((a.length : Int) != (b.length : Int)) = false := by simp [hab]
    go_enter Try.func12, Try.ntmps12
    go_wp2_with fail
    go_loopw [5] (fun i wr => ∃ (k q : Nat), k ≤ a.length ∧ i = .int .i64 k ∧ wr = w.drewN q ∧ ∀ j, j < k → a.getD j 0 = b.getD j 0) (fun i _ => a.length - (intOf i).toNat)
    case atStart => exact ⟨0, 0, by omega, rfl, by simp [World.drewN_zero], fun j hj => absurd hj (by omega)⟩
    case round =>
      obtain ⟨k, q, hk, rfl, rfl, hall⟩ := hrel
      have H := Lib.hid hall; clear hall
      by_cases hlt : k < a.length
      · obtain ⟨ad, rfl, _, hc⟩ := ha k hlt
        obtain ⟨bd, rfl, _, hd⟩ := hb k (by omega)
        obtain ⟨x, hx⟩ : ∃ x, a[k] = x := ⟨_, rfl⟩
        obtain ⟨y, hy⟩ : ∃ y, b[k] = y := ⟨_, rfl⟩
        rw [hx] at hc
        rw [hy] at hd
        have hx' : a.getD k 0 = x := by simp [hlt, hx]
        have hy' : b.getD k 0 = y := by simp [show k < b.length by omega, hy]
        have hkb : k < b.length := by omega
        have P1 := Lib.hid hx'
        have P2 := Lib.hid hy'
        have HAB := Lib.hid hab
        clear hx hx' hy hy' hab
        by_cases ht : x = y
        · subst ht
          have t1 : (x != x) = false := by simp
          go_wp2_with fail
          go_big_quiet (fail)
          go_wp2_with fail
          go_round
          case rel =>
            refine ⟨k + 1, q + nq, by omega, by go_num, rfl, fun j hj => ?_⟩
            rcases Nat.lt_succ_iff_lt_or_eq.1 hj with hj | rfl
            · exact H.out j hj
            · rw [P1.out, P2.out]
          case measure => simp [intOf]; omega
        · have t1 : (x != y) = true := by simpa using ht
          have P3 := Lib.hid ht; clear ht
          go_wp2_with fail
          go_big_quiet (fail)
          go_wp2_with fail
          go_ret
          exact ⟨by rw [decide_eq_false (fun e => P3.out (by rw [← P1.out, ← P2.out, e]))]; rfl, _, World.drewN_drewN _ _ _⟩
      · have e : k = a.length := by omega
        subst e
        have HAB := Lib.hid hab
        clear hab
        go_wp2_with fail
        go_ret
        refine ⟨?_, q, rfl⟩
        rw [decide_eq_true]
        · rfl
        refine List.ext_getElem HAB.out fun j h1 h2 => ?_
        have := H.out j h1
        simpa [h1, h2] using this
  · have tl : ((a.length : Int) != (b.length : Int)) = true := by simp; omega
    have hd : decide (a = b) = false := decide_eq_false fun e => hab (by rw [e])
    have HD := Lib.hid hd
    clear hd hab
    go_enter Try.func12, Try.ntmps12
    go_wp2_with fail
    go_ret
    exact ⟨by rw [HD.out]; rfl, 0, by simp [World.drewN_zero]⟩
end Go.Proofs.Ytceeopjmdfefjaa
