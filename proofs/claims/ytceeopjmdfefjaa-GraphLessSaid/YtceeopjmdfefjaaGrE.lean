/- Contract of the reference's May. -/
import Derived.Test.YtceeopjmdfefjaaGrB
namespace Go.Proofs.Ytceeopjmdfefjaa
set_option linter.unusedVariables false
open Go.RowKit Go.Sort
theorem takeWhile_at {α : Type} (p : α → Bool) : ∀ (l : List α) (k : Nat) (hk : k < l.length), (∀ x ∈ l.take k, p x = true) → p l[k] = false → (l.takeWhile p).length = k
  | [], k, hk, _, _ => absurd hk (by simp)
  | x :: l, 0, hk, _, h => by
    have : p x = false := h
    simp [List.takeWhile_cons, this]
  | x :: l, k + 1, hk, h1, h2 => by
    have hx : p x = true := h1 x (by simp)
    have := takeWhile_at p l k (by simpa using hk) (fun y hy => h1 y (by simp [hy])) (by simpa using h2)
    simp [List.takeWhile_cons, hx, this]
/-- The place of a number among nodes. -/
def placeI (l : List Nd) (id : Int) : Int := if id ∈ ids l then (((l.takeWhile fun n => decide (n.id ≠ id)).length : Nat) : Int) else -1
theorem placeI_at {l : List Nd} {id : Int} {k : Nat} (hk : k < l.length) (h : l[k].id = id) (hb : ∀ n ∈ l.take k, n.id ≠ id) : placeI l id = k := by
  unfold placeI
  rw [if_pos (mem_ids.2 ⟨l[k], List.getElem_mem _, h⟩), takeWhile_at _ l k hk (fun n hn => decide_eq_true (hb n hn)) (by simp [h])]
theorem placeI_no {l : List Nd} {id : Int} (h : ¬ id ∈ ids l) : placeI l id = -1 := by unfold placeI; rw [if_neg h]
theorem placeI_iff {l : List Nd} {id : Int} : 0 ≤ placeI l id ↔ id ∈ ids l := by
  unfold placeI
  by_cases h : id ∈ ids l
  · rw [if_pos h]; exact ⟨fun _ => h, fun _ => by omega⟩
  · rw [if_neg h]; exact ⟨fun h2 => by omega, fun h2 => absurd h2 h⟩
theorem place_val (A : Option Addr) (c : Nat) (l : List Nd) (id : Int) (w : World) (h : NdS w A l) (hl : l.length ≤ 1000000) :
    Calls Try.prog 21 #[.slice A l.length c, .int .u64 id] w fun e w' => e = .returned (.int .i64 (placeI l id)) ∧ w' = w := by
  go_enter Try.func21, Try.ntmps21
  go_wp2_with fail
  go_loop [5] (fun i => ∃ k : Nat, k ≤ l.length ∧ i = .int .i64 k ∧ ∀ n ∈ l.take k, n.id ≠ id) (fun i => l.length - (intOf i).toNat)
  case atStart => exact ⟨0, by omega, rfl, fun n hn => by simp at hn⟩
  case round =>
    obtain ⟨k, hk, rfl, hall⟩ := hrel
    have H := Lib.hid hall; clear hall
    by_cases hlt : k < l.length
    · obtain ⟨ad, B1, c1, rfl, hb, h1, h2, hsl, hn1, hle1, hc1⟩ := h k hlt
      have htk : ∀ n ∈ l.take (k + 1), n ∈ l.take k ∨ n.id = l[k].id := fun n hn => by
        rw [List.take_succ_eq_append_getElem hlt] at hn
        rcases List.mem_append.1 hn with hn | hn
        · exact .inl hn
        · rw [List.mem_singleton] at hn; exact .inr (by rw [hn])
      have hpl : l[k].id = id → placeI l id = k := fun e => placeI_at hlt e H.out
      obtain ⟨x, hx⟩ : ∃ x, l[k].id = x := ⟨_, rfl⟩
      rw [hx] at h1 htk hpl
      have HP := Lib.hid hpl
      have HT := Lib.hid htk
      clear hx hpl htk h2 hsl hn1 hle1 hc1
      by_cases ht : x = id
      · have hp := HP.out ht
        subst ht
        have t1 : (x == x) = true := by simp
        have HP2 := Lib.hid hp
        clear hp HP
        go_wp2_with fail
        go_ret
        exact ⟨by rw [HP2.out]; rfl, rfl⟩
      · have t1 : (x == id) = false := beq_eq_false_iff_ne.2 ht
        have HN := Lib.hid ht
        clear ht
        go_wp2_with fail
        go_round
        case rel => exact ⟨k + 1, by omega, by go_num, fun n hn => by
          rcases HT.out n hn with h | h
          · exact H.out n h
          · rw [h]; exact HN.out⟩
        case measure => simp [intOf]; omega
    · obtain rfl : k = l.length := by omega
      have hp : placeI l id = -1 := placeI_no fun h => by
        obtain ⟨n, hn, e⟩ := mem_ids.1 h
        exact absurd e (H.out n (by rw [List.take_length]; exact hn))
      have HP2 := Lib.hid hp
      clear hp
      go_wp2_with fail
      go_ret
      exact ⟨by rw [HP2.out]; rfl, rfl⟩
open Classical in
theorem mayE_long {l : List Nd} (h : 64 < l.length) : mayE l = 3 := by unfold mayE; rw [if_pos h]
open Classical in
theorem mayE_deps {l : List Nd} (h : ¬ 64 < l.length) (h2 : ∃ n ∈ l, 8 < n.deps.length) : mayE l = 3 := by unfold mayE; rw [if_neg h, if_pos h2]
open Classical in
theorem mayE_twice {l : List Nd} (h : ¬ 64 < l.length) (h2 : ∀ n ∈ l, n.deps.length ≤ 8) (h3 : ¬ ((ids l).Nodup ∧ ∀ n ∈ l, n.deps.Nodup)) : mayE l = 130 := by
  unfold mayE; rw [if_neg h, if_neg (fun ⟨n, hn, h5⟩ => by have := h2 n hn; omega), if_pos h3]
open Classical in
theorem mayE_none {l : List Nd} (h : ¬ 64 < l.length) (h2 : ∀ n ∈ l, n.deps.length ≤ 8) (h3 : (ids l).Nodup ∧ ∀ n ∈ l, n.deps.Nodup) (h4 : ¬ ∀ n ∈ l, ∀ d ∈ n.deps, d ∈ ids l) : mayE l = 5 := by
  unfold mayE; rw [if_neg h, if_neg (fun ⟨n, hn, h5⟩ => by have := h2 n hn; omega), if_neg (fun h5 => h5 h3), if_pos h4]
theorem mem_take_nd {l : List Nd} {k : Nat} (hk : k < l.length) {n : Nd} (h : n ∈ l.take (k + 1)) : n ∈ l.take k ∨ n = l[k] := by
  rw [List.take_succ_eq_append_getElem hk] at h
  rcases List.mem_append.1 h with h | h
  · exact .inl h
  · rw [List.mem_singleton] at h; exact .inr h
theorem ids_take_succ {l : List Nd} {k : Nat} (hk : k < l.length) : ids (l.take (k + 1)) = ids (l.take k) ++ [l[k].id] := by
  unfold ids
  rw [List.take_succ_eq_append_getElem hk, List.map_append]
  rfl
end Go.Proofs.Ytceeopjmdfefjaa
