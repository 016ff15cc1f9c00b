/- Contracts: the reference's place; great. -/
import Derived.Test.YtceeopjmdfefjaaGrC
namespace Go.Proofs.Ytceeopjmdfefjaa
set_option linter.unusedVariables false
open Go.RowKit Go.Sort
theorem place_any (A : Option Addr) (c : Nat) (l : List Nd) (id : Int) (w : World) (h : NdS w A l) (hl : l.length ≤ 1000000) :
    Calls Try.prog 21 #[.slice A l.length c, .int .u64 id] w fun e w' => ∃ q : Int, e = .returned (.int .i64 q) ∧ (0 ≤ q ↔ id ∈ ids l) ∧ w' = w := by
  go_enter Try.func21, Try.ntmps21
  go_wp2_with fail
  go_loop [5] (fun i => ∃ k : Nat, k ≤ l.length ∧ i = .int .i64 k ∧ ∀ n ∈ l.take k, n.id ≠ id) (fun i => l.length - (intOf i).toNat)
  case atStart => exact ⟨0, by omega, rfl, fun n hn => by simp at hn⟩
  case round =>
    obtain ⟨k, hk, rfl, hall⟩ := hrel
    have H := Lib.hid hall; clear hall
    by_cases hlt : k < l.length
    · obtain ⟨ad, B1, c1, rfl, hb, h1, h2, hsl, hn1, hle1, hc1⟩ := h k hlt
      have hmem : l[k].id ∈ ids l := mem_ids.2 ⟨l[k], List.getElem_mem _, rfl⟩
      have htk : ∀ n ∈ l.take (k + 1), n ∈ l.take k ∨ n.id = l[k].id := fun n hn => by
        rw [List.take_succ_eq_append_getElem hlt] at hn
        rcases List.mem_append.1 hn with hn | hn
        · exact .inl hn
        · rw [List.mem_singleton] at hn; exact .inr (by rw [hn])
      obtain ⟨x, hx⟩ : ∃ x, l[k].id = x := ⟨_, rfl⟩
      rw [hx] at h1 hmem htk
      have HM := Lib.hid hmem
      have HT := Lib.hid htk
      clear hx hmem htk h2 hsl hn1 hle1 hc1
      by_cases ht : x = id
      · subst ht
        have t1 : (x == x) = true := by simp
        go_wp2_with fail
        go_ret
        exact ⟨(k : Int), rfl, ⟨fun _ => HM.out, fun _ => by omega⟩, rfl⟩
      · have t1 : (x == id) = false := beq_eq_false_iff_ne.2 ht
        have HN := Lib.hid ht
        clear ht
        go_wp2_with fail
        go_round
        case rel => exact ⟨k + 1, by omega, by go_num, fun n hn => by
          rcases HT.out n hn with h | h
          · exact H.out n h
          · rw [h]; exact HN.out⟩
        case measure => simp [intOf]; omega
    · obtain rfl : k = l.length := by omega
      go_wp2_with fail
      go_ret
      exact ⟨-1, rfl, ⟨fun h => by omega, fun h => by
        obtain ⟨n, hn, e⟩ := mem_ids.1 h
        exact absurd e (H.out n (by rw [List.take_length]; exact hn))⟩, rfl⟩
/-- Is a row more than a law looks at? -/
def greatB (l : List Nd) : Bool := decide (70 < l.length) || l.any fun n => decide (12 < n.deps.length)
theorem greatB_row {l : List Nd} (h : ∃ n ∈ l, 12 < n.deps.length) : greatB l = true := by
  obtain ⟨n, hn, h⟩ := h
  unfold greatB
  rw [List.any_eq_true.2 ⟨n, hn, decide_eq_true h⟩, Bool.or_true]
theorem greatB_len {l : List Nd} (h : ∀ n ∈ l, n.deps.length ≤ 12) : greatB l = decide (70 < l.length) := by
  unfold greatB
  rw [List.any_eq_false.2 fun n hn => by have := h n hn; simp; omega, Bool.or_false]
theorem greatB_no {l : List Nd} (h : greatB l = false) : l.length ≤ 70 ∧ ∀ n ∈ l, n.deps.length ≤ 12 := by
  unfold greatB at h
  rw [Bool.or_eq_false_iff] at h
  refine ⟨by have := of_decide_eq_false h.1; omega, fun n hn => ?_⟩
  have := List.any_eq_false.1 h.2 n hn
  simp at this
  exact this
theorem great_any (A : Option Addr) (c : Nat) (l : List Nd) (w : World) (h : NdS w A l) (hl : l.length ≤ 9223372036854775807) :
    Calls Try.prog 7 #[.slice A l.length c] w fun e w' => e = .returned (.bool (greatB l)) ∧ w' = w := by
  go_enter Try.func7, Try.ntmps7
  go_wp2_with fail
  go_loop [3] (fun i => ∃ k : Nat, k ≤ l.length ∧ i = .int .i64 k ∧ ∀ n ∈ l.take k, n.deps.length ≤ 12) (fun i => l.length - (intOf i).toNat)
  case atStart => exact ⟨0, by omega, rfl, fun n hn => by simp at hn⟩
  case round =>
    obtain ⟨k, hk, rfl, hall⟩ := hrel
    have H := Lib.hid hall; clear hall
    by_cases hlt : k < l.length
    · obtain ⟨ad, B1, c1, rfl, hb, h1, h2, hsl, hn1, hle1, hc1⟩ := h k hlt
      have hmem : l[k] ∈ l := List.getElem_mem _
      have htk : ∀ n ∈ l.take (k + 1), n ∈ l.take k ∨ n.deps.length = l[k].deps.length := fun n hn => by
        rw [List.take_succ_eq_append_getElem hlt] at hn
        rcases List.mem_append.1 hn with hn | hn
        · exact .inl hn
        · rw [List.mem_singleton] at hn; exact .inr (by rw [hn])
      have hex : 12 < l[k].deps.length → ∃ n ∈ l, 12 < n.deps.length := fun h => ⟨_, hmem, h⟩
      obtain ⟨x, hx⟩ : ∃ x, l[k].deps.length = x := ⟨_, rfl⟩
      rw [hx] at h2 htk hex
      have HE := Lib.hid hex
      have HT := Lib.hid htk
      clear hx hmem htk h1 hsl hn1 hle1 hc1 hex
      rw [show ad.add (k * 2 + 1) = ⟨(ad.add (k * 2)).block, (ad.add (k * 2)).off + 1, none⟩ by rw [← add_add]; rfl] at h2
      by_cases ht : 12 < x
      · have t1 : (12 : Int) < (x : Int) := by omega
        have HX := Lib.hid (HE.out ht)
        clear ht
        go_wp2_with fail
        go_ret
        exact ⟨by rw [greatB_row HX.out]; rfl, rfl⟩
      · have t1 : decide ((12 : Int) < (x : Int)) = false := decide_eq_false (by omega)
        have HN := Lib.hid ht
        clear ht
        go_wp2_with fail
        go_round
        case rel => exact ⟨k + 1, by omega, by go_num, fun n hn => by
          rcases HT.out n hn with h | h
          · exact H.out n h
          · have := HN.out; omega⟩
        case measure => simp [intOf]; omega
    · obtain rfl : k = l.length := by omega
      have h2 := H.out
      rw [List.take_length] at h2
      have hg := greatB_len h2
      by_cases h7 : 70 < l.length
      · have t7 : (70 : Int) < (l.length : Int) := by omega
        rw [decide_eq_true h7] at hg
        have HG := Lib.hid hg
        clear hg h7 h2 H
        go_wp2_with fail
        go_ret
        exact ⟨by rw [HG.out]; rfl, rfl⟩
      · have t7 : decide ((70 : Int) < (l.length : Int)) = false := decide_eq_false (by omega)
        rw [decide_eq_false h7] at hg
        have HG := Lib.hid hg
        clear hg h7 h2 H
        go_wp2_with fail
        go_ret
        exact ⟨by rw [HG.out]; rfl, rfl⟩
end Go.Proofs.Ytceeopjmdfefjaa
