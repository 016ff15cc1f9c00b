/- The reference's Mark. -/
import Derived.Test.YtdbodnpfeiplgaaPeB
namespace Go.Proofs.Ytdbodnpfeiplgaa
set_option linter.unusedVariables false
open Go.RowKit
/-- How many are not below x. -/
def geC (l : List Int) (x : Int) : Nat := l.countP (fun y => decide (x ≤ y))
def bestStep (l : List Int) (b x : Int) : Int := if l.length < 2 * geC l x ∧ b < x then x else b
def bestF (l : List Int) : Int := l.foldl (bestStep l) 0
theorem take_take_succ {a : List Int} {L n : Nat} (hn : n < L) (hle : L ≤ a.length) : (a.take L).take (n + 1) = (a.take L).take n ++ [a[n]'(by omega)] := by
  rw [List.take_succ_eq_append_getElem (by rw [List.length_take]; omega)]
  simp
theorem geC_snoc (l : List Int) (x y : Int) : geC (l ++ [x]) y = geC l y + (if y ≤ x then 1 else 0) := by
  unfold geC
  rw [List.countP_append, List.countP_singleton]
  simp
theorem geC_le (l : List Int) (y : Int) : geC l y ≤ l.length := List.countP_le_length
theorem best_snoc (al l : List Int) (x : Int) : (l ++ [x]).foldl (bestStep al) 0 = bestStep al (l.foldl (bestStep al) 0) x := by simp
theorem bestStep_eq {al : List Int} {n : Nat} (b y : Int) (h : al.length = n) : bestStep al b y = if n < 2 * geC al y ∧ b < y then y else b := by unfold bestStep; rw [h]
set_option maxHeartbeats 1000000 in
set_option maxRecDepth 100000 in
theorem refMark_ok (A A2 : Option Addr) (c c2 : Nat) (l at_ : List Int) (w : World) (h : Sl w .u64 A l) (h2 : Sl w .u64 A2 at_) (hl : l.length ≤ 1000000) (hp : ∀ x ∈ l, 0 ≤ x) (hm : mayP l = true) (hle : l.length ≤ at_.length) :
    Calls Try.prog 24 #[.slice A l.length c, .slice A2 at_.length c2] w fun e w' => e = .returned (.int .u64 (bestF (at_.take l.length))) ∧ ∃ q, w' = w.drewN q := by
  have C := refMay_any A c l w h (by omega) hp
  rw [hm] at C
  have C := Lib.hid C
  clear hm
  go_enter Try.func24, Try.ntmps24
  go_wp2_with fail
  refine C.out.mono ?_
  rintro e w1 ⟨rfl, q, rfl⟩
  have hal : (at_.take l.length).length = l.length := by rw [List.length_take]; omega
  have HAL := Lib.hid hal
  clear hal h hp
  go_wp2_with fail
  go_loopw [5, 6] (fun b i wr => ∃ (k q : Nat), k ≤ l.length ∧ i = .int .i64 k ∧ b = .int .u64 (((at_.take l.length).take k).foldl (bestStep (at_.take l.length)) 0) ∧ wr = w.drewN q) (fun _ i _ => l.length - (intOf i).toNat)
  case atStart => exact ⟨0, q, by omega, rfl, by simp, rfl⟩
  case round =>
    obtain ⟨k, q2, hk, rfl, rfl, rfl⟩ := hrel
    by_cases hlt : k < l.length
    · have hlt' : k < at_.length := by omega
      obtain ⟨ad, rfl, _, c1⟩ := h2 k hlt'
      have hs := best_snoc (at_.take l.length) ((at_.take l.length).take k) (at_[k])
      rw [← take_take_succ hlt hle] at hs
      obtain ⟨y, hy⟩ : ∃ y, at_[k] = y := ⟨_, rfl⟩
      rw [hy] at c1 hs
      obtain ⟨b, hb⟩ : ∃ b, ((at_.take l.length).take k).foldl (bestStep (at_.take l.length)) 0 = b := ⟨_, rfl⟩
      rw [hb] at hs ⊢
      have HS := Lib.hid hs
      clear hs hb hy
      go_wp2_with fail
      go_loopw [7, 8] (fun v i wr => ∃ (n q : Nat), n ≤ l.length ∧ i = .int .i64 n ∧ v = .int .i64 (geC ((at_.take l.length).take n) y : Nat) ∧ wr = w.drewN q) (fun _ i _ => l.length - (intOf i).toNat)
      case atStart => exact ⟨0, q2, by omega, rfl, by simp [geC], rfl⟩
      case round =>
        obtain ⟨n, q3, hn, rfl, rfl, rfl⟩ := hrel
        by_cases hlt2 : n < l.length
        · have hlt2' : n < at_.length := by omega
          obtain ⟨ad', e', _, c2⟩ := h2 n hlt2'
          cases e'
          have hg := geC_snoc ((at_.take l.length).take n) (at_[n]) y
          rw [← take_take_succ hlt2 hle] at hg
          obtain ⟨z, hz⟩ : ∃ z, at_[n] = z := ⟨_, rfl⟩
          rw [hz] at c2 hg
          have hgl := geC_le ((at_.take l.length).take n) y
          rw [List.length_take, List.length_take] at hgl
          have hgl : geC ((at_.take l.length).take n) y ≤ 1000000 := by omega
          obtain ⟨v, hv⟩ : ∃ v, geC ((at_.take l.length).take n) y = v := ⟨_, rfl⟩
          rw [hv] at hg hgl ⊢
          have HG := Lib.hid hg
          clear hg hv hz
          by_cases ht : y ≤ z
          · go_wp2_with fail
            go_quiet (fail)
            go_wp2_with fail
            go_roundw
            case rel => exact ⟨n + 1, _, by omega, by go_num, by rw [HG.out, if_pos ht]; go_num, rfl⟩
            case measure => simp [intOf]; omega
          · have t1 : decide (y ≤ z) = false := decide_eq_false ht
            go_wp2_with fail
            go_quiet (fail)
            go_wp2_with fail
            go_roundw
            case rel => exact ⟨n + 1, _, by omega, by go_num, by rw [HG.out, if_neg (by omega)]; rfl, rfl⟩
            case measure => simp [intOf]; omega
        · have e : n = l.length := by omega
          subst e
          have hgl := geC_le (at_.take l.length) y
          rw [HAL.out] at hgl
          have hs := HS.out.trans (bestStep_eq b y HAL.out)
          rw [show (at_.take l.length).take l.length = at_.take l.length by rw [List.take_take, Nat.min_self]]
          obtain ⟨v, hv⟩ : ∃ v, geC (at_.take l.length) y = v := ⟨_, rfl⟩
          rw [hv] at hs hgl ⊢
          have HS2 := Lib.hid hs
          clear hs hv HS
          have hm2 : IntKind.i64.wrap (2 * (v : Int)) = 2 * (v : Int) := by rw [IntKind.wrap_i64]; omega
          by_cases t1 : l.length < 2 * v
          · have t1' : (l.length : Int) < 2 * (v : Int) := by omega
            by_cases t2 : b < y
            · go_wp2_with fail
              go_roundw
              case rel => exact ⟨k + 1, _, by omega, by go_num, by rw [HS2.out, if_pos ⟨t1, t2⟩], rfl⟩
              case measure => simp [intOf]; omega
            · have t2' : decide (b < y) = false := decide_eq_false t2
              go_wp2_with fail
              go_roundw
              case rel => exact ⟨k + 1, _, by omega, by go_num, by rw [HS2.out, if_neg (by omega)], rfl⟩
              case measure => simp [intOf]; omega
          · have t1' : decide ((l.length : Int) < 2 * (v : Int)) = false := decide_eq_false (by omega)
            go_wp2_with fail
            go_roundw
            case rel => exact ⟨k + 1, _, by omega, by go_num, by rw [HS2.out, if_neg (by omega)], rfl⟩
            case measure => simp [intOf]; omega
    · have e : k = l.length := by omega
      subst e
      go_wp2_with fail
      go_ret
      refine ⟨ret_int ?_, _, rfl⟩
      rw [List.take_take, Nat.min_self]
      rfl
theorem refMark_no (A A2 : Option Addr) (c n2 c2 : Nat) (l : List Int) (w : World) (h : Sl w .u64 A l) (hl : l.length ≤ 1000000) (hp : ∀ x ∈ l, 0 ≤ x) (hm : mayP l = false) :
    Calls Try.prog 24 #[.slice A l.length c, .slice A2 n2 c2] w fun e w' => e = .returned (.int .u64 0) ∧ ∃ q, w' = w.drewN q := by
  have C := refMay_any A c l w h (by omega) hp
  rw [hm] at C
  have C := Lib.hid C
  clear hm
  go_enter Try.func24, Try.ntmps24
  go_wp2_with fail
  refine C.out.mono ?_
  rintro e w1 ⟨rfl, q, rfl⟩
  go_wp2_with fail
  go_ret
  exact ⟨rfl, q, rfl⟩
end Go.Proofs.Ytdbodnpfeiplgaa
