/- Contracts: the closure of graph.order, slices.IndexFunc and ContainsFunc over it; the reference's place and twice. -/
import Derived.Test.YtceeopjmdfefjaaGrR
namespace Go.Proofs.Ytceeopjmdfefjaa
set_option linter.unusedVariables false
open Go.RowKit Go.Sort
theorem order1_any (g : Nat) (B : Option Addr) (dd : Nat) (out : List Int) (d : Int) (w : World) (hc : w.cell? ⟨g, 0, none⟩ = some (.slice B out.length dd)) (hs : Sl w .u64 B out) (hl : out.length ≤ 1000000) :
    Calls Try.prog 28 #[.int .u64 d, .pointer (some ⟨g, 0, none⟩)] w fun e w' => e = .returned (.bool (!decide (d ∈ out))) ∧ w' = w := by
  have C := Lib.hid (contains_any B dd out d w hs (by omega))
  clear hs
  go_enter Try.func28, Try.ntmps28
  go_wp2_with fail
  refine C.out.mono ?_
  rintro e w1 ⟨rfl, rfl⟩
  go_wp2_with fail
  go_ret
  exact ⟨rfl, rfl⟩
set_option maxHeartbeats 1000000 in
theorem indexFunc_any (g : Nat) (B : Option Addr) (dd : Nat) (out : List Int) (w : World) (hc : w.cell? ⟨g, 0, none⟩ = some (.slice B out.length dd)) (hs : Sl w .u64 B out) (hl : out.length ≤ 1000000) (A : Option Addr) (c : Nat) (l : List Int) (hsl : Sl w .u64 A l) (hll : l.length ≤ 1000000) :
    Calls Try.prog 35 #[.slice A l.length c, .func (.func 28) #[] #[.pointer (some ⟨g, 0, none⟩)]] w fun e w' => ∃ q : Int, e = .returned (.int .i64 q) ∧ (0 ≤ q ↔ ∃ d ∈ l, ¬ d ∈ out) ∧ w' = w := by
  have C := Lib.hid (fun d => order1_any g B dd out d w hc hs hl)
  have hG : ∀ args W, (callFunc 28 args).run Try.prog W = .ok (.enter 28 args) W := fun _ _ => rfl
  clear hc hs
  go_enter Try.func35, Try.ntmps35
  go_wp2_with fail
  go_loop [8] (fun i => ∃ k : Nat, k ≤ l.length ∧ i = .int .i64 k ∧ ∀ d ∈ l.take k, d ∈ out) (fun i => l.length - (intOf i).toNat)
  case atStart => exact ⟨0, by omega, rfl, fun d hd => by simp at hd⟩
  case round =>
    obtain ⟨k, hk, rfl, hall⟩ := hrel
    have H := Lib.hid hall; clear hall
    by_cases hlt : k < l.length
    · obtain ⟨ad, rfl, hb, hcell⟩ := hsl k hlt
      obtain ⟨x, hx⟩ : ∃ x, l[k] = x := ⟨_, rfl⟩
      rw [hx] at hcell
      have hmem : x ∈ l := by rw [← hx]; exact List.getElem_mem _
      have htk : ∀ d ∈ l.take (k + 1), d ∈ l.take k ∨ d = x := fun d hd => by
        rw [← hx]
        exact mem_take_succ hlt hd
      have HM := Lib.hid hmem
      have HT := Lib.hid htk
      clear hx hmem htk
      go_wp2_with fail
      refine (C.out x).mono ?_
      rintro e w1 ⟨rfl, rfl⟩
      by_cases hm : x ∈ out
      · rw [decide_eq_true hm]
        have HX := Lib.hid hm
        clear hm
        go_wp2_with fail
        go_round
        case rel => exact ⟨k + 1, by omega, by go_num, fun d hd => by
          rcases HT.out d hd with h | rfl
          · exact H.out d h
          · exact HX.out⟩
        case measure => simp [intOf]; omega
      · rw [decide_eq_false hm]
        have HX := Lib.hid hm
        clear hm
        go_wp2_with fail
        go_ret
        exact ⟨(k : Int), rfl, ⟨fun _ => ⟨x, HM.out, HX.out⟩, fun _ => by omega⟩, rfl⟩
    · obtain rfl : k = l.length := by omega
      go_wp2_with fail
      go_ret
      exact ⟨-1, rfl, ⟨fun h => by omega, fun ⟨d, hd, hn⟩ => absurd (H.out d (by rw [List.take_length]; exact hd)) hn⟩, rfl⟩
theorem containsFunc_any (g : Nat) (B : Option Addr) (dd : Nat) (out : List Int) (w : World) (hc : w.cell? ⟨g, 0, none⟩ = some (.slice B out.length dd)) (hs : Sl w .u64 B out) (hl : out.length ≤ 1000000) (A : Option Addr) (c : Nat) (l : List Int) (hsl : Sl w .u64 A l) (hll : l.length ≤ 1000000) :
    Calls Try.prog 27 #[.slice A l.length c, .func (.func 28) #[] #[.pointer (some ⟨g, 0, none⟩)]] w fun e w' => e = .returned (.bool (decide (∃ d ∈ l, ¬ d ∈ out))) ∧ w' = w := by
  have C := Lib.hid (indexFunc_any g B dd out w hc hs hl A c l hsl hll)
  clear hc hs hsl
  go_enter Try.func27, Try.ntmps27
  go_wp2_with fail
  refine C.out.mono ?_
  rintro e w1 ⟨q, rfl, hq, rfl⟩
  have HQ := Lib.hid (show decide (0 ≤ q) = decide (∃ d ∈ l, ¬ d ∈ out) from decide_eq_decide.2 hq)
  clear hq C
  go_wp2_with fail
  go_ret
  exact ⟨congrArg (fun b => Ending.returned (.bool b)) HQ.out, rfl⟩
set_option maxHeartbeats 1000000 in
theorem refTwice_any (A : Option Addr) (c : Nat) (l : List Int) (hl : l.length ≤ 1000000) (hlc : l.length ≤ c) (w : World) (hs : Sl w .u64 A l) :
    Calls Try.prog 22 #[.slice A l.length c] w fun e w' => e = .returned (.bool (!decide l.Nodup)) ∧ ∃ q, w' = w.drewN q := by
  go_enter Try.func22, Try.ntmps22
  go_wp2_with fail
  go_loopw [3] (fun i wr => ∃ (k q : Nat), k ≤ l.length ∧ i = .int .i64 k ∧ wr = w.drewN q ∧ (l.take k).Nodup) (fun i _ => l.length - (intOf i).toNat)
  case atStart => exact ⟨0, 0, by omega, rfl, by simp [World.drewN_zero], by simp⟩
  case round =>
    obtain ⟨k, q, hk, rfl, rfl, hall⟩ := hrel
    have H := Lib.hid hall; clear hall
    by_cases hlt : k < l.length
    · obtain ⟨ad, rfl, hb, hcell⟩ := hs k hlt
      obtain ⟨x, hx⟩ : ∃ x, l[k] = x := ⟨_, rfl⟩
      rw [hx] at hcell
      have htl : (l.take k).length = k := by rw [List.length_take]; omega
      have hC : ∀ n, Calls Try.prog 18 #[.slice (some ad) k c, .int .u64 x] ((w.drewN q).drewN n) fun e w' => e = .returned (.bool (decide (x ∈ l.take k))) ∧ w' = (w.drewN q).drewN n := fun n => by
        have := has_any (some ad) c (l.take k) x ((w.drewN q).drewN n) (((hs.take k).drewN q).drewN n) (by omega)
        rwa [htl] at this
      have hcell : (w.drewN q).cell? (ad.add k) = some (.int .u64 x) := hcell
      have hsl : ∀ W, (Instr.slice 26 (.slice (some ad) l.length c) none (some (.int .i64 (k : Nat))) none).run Try.prog W = .ok (.slice (some ad) k c) W := fun W => by
        have hsz : (sizeOf (Try.prog.elem 26)).run Try.prog W = .ok 1 W := by kernel_rfl
        have hut : Try.prog.underlying 26 = some (.slice (Try.prog.elem 26)) := by kernel_rfl
        rw [run_slice_h W _ _ _ _ hut .i64 (k : Nat) (by omega) (by omega), hsz]
        simp [Result.andThen, sliced, Addr.add]
      have hts : l.take (k + 1) = l.take k ++ [x] := by rw [List.take_succ_eq_append_getElem hlt, hx]
      have HC := Lib.hid hC
      have HTS := Lib.hid hts
      clear hC hx htl hts
      have HQ := Lib.hid (show ∀ n, (w.drewN q).drewN n = w.drewN (q + n) from fun n => World.drewN_drewN _ _ _)
      generalize w.drewN q = wq at *
      go_wp2_with fail
      go_big_quiet (first | (go_at_call 18; refine Calls.quiet_of_same (HC.out _)))
      by_cases hm : x ∈ l.take k
      · rw [decide_eq_true hm]
        have HM := Lib.hid hm
        clear hm
        go_wp2_with fail
        go_ret
        refine ⟨?_, _, HQ.out _⟩
        rw [decide_eq_false fun hn => ?_]
        · rfl
        · have h3 : (l.take (k + 1)).Nodup := hn.sublist (List.take_sublist _ _)
          rw [HTS.out] at h3
          exact (List.nodup_append.1 h3).2.2 x HM.out x (by simp) rfl
      · rw [decide_eq_false hm]
        have HM := Lib.hid hm
        clear hm
        go_wp2_with fail
        go_roundw
        case rel =>
          refine ⟨k + 1, _, by omega, by go_num, HQ.out _, ?_⟩
          rw [HTS.out]
          exact List.nodup_append.2 ⟨H.out, by simp, fun a ha b hb e => HM.out (by rw [List.mem_singleton] at hb; rw [← hb, ← e]; exact ha)⟩
        case measure => simp [intOf]; omega
    · obtain rfl : k = l.length := by omega
      go_wp2_with fail
      go_ret
      have h2 := H.out
      rw [List.take_length] at h2
      exact ⟨by rw [decide_eq_true h2]; rfl, q, rfl⟩
end Go.Proofs.Ytceeopjmdfefjaa
