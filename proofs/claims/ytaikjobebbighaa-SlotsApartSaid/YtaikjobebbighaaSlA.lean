/- Slots: places as they lie; cmp.Compare, order, place, left, the binary search. -/
import Derived.Test.YtaikjobebbighaaRk
import Derived.Test.YtaikjobebbighaaRows
import Derived.ProofKit
import Derived.WalkKit
import Derived.WalkSpells
import Derived.WalkLawsBesides
import Derived.Lib.Hide
import Derived.Shelf.Abstract
import Derived.Deep.DeepCutAuto
import Derived.Deep.RegionHeldLaw
import Derived.Deep.CutBlock
namespace Go.Proofs.Ytaikjobebbighaa
set_option linter.unusedVariables false
set_option maxRecDepth 100000
open Go.RowKit
/-- A token, and how many places. -/
abbrev Pl := Int × Int
def enP (x : Pl) : List Value := [.int .u64 x.1, .int .i64 x.2]
theorem enP_len (x : Pl) : (enP x).length = 2 := rfl
theorem enP_one (x : Pl) : ∀ v ∈ enP x, v.oneCell' = true := fun v hv => by
  simp [enP] at hv
  rcases hv with rfl | rfl <;> rfl
abbrev PlS (w : World) (A : Option Addr) (l : List Pl) : Prop := RkS enP 2 w A l
theorem isNaN_u (x : Int) (w : World) : Calls Try.prog 77 #[.int .u64 x] w fun e w' => e = .returned (.bool false) ∧ w' = w := by
  go_enter Try.func77, Try.ntmps77
  go_wp2_with fail
  go_ret
  exact ⟨rfl, rfl⟩
def cmpI (a b : Int) : Int := if a < b then -1 else if b < a then 1 else 0
theorem cmp_u (a b : Int) (w : World) : Calls Try.prog 55 #[.int .u64 a, .int .u64 b] w fun e w' => e = .returned (.int .i64 (cmpI a b)) ∧ w' = w := by
  have C := Lib.hid isNaN_u
  unfold cmpI
  go_enter Try.func55, Try.ntmps55
  by_cases h1 : a < b
  · rw [if_pos h1]
    go_wp2_with (go_at_call 77; refine (C.out _ _).mono ?_; rintro e w' ⟨rfl, rfl⟩)
    all_goals (go_ret; exact ⟨rfl, rfl⟩)
  · rw [if_neg h1]
    have d1 : decide (a < b) = false := decide_eq_false h1
    by_cases h2 : b < a
    · rw [if_pos h2]
      go_wp2_with (go_at_call 77; refine (C.out _ _).mono ?_; rintro e w' ⟨rfl, rfl⟩)
      all_goals (go_ret; exact ⟨rfl, rfl⟩)
    · rw [if_neg h2]
      have d2 : decide (b < a) = false := decide_eq_false h2
      go_wp2_with (go_at_call 77; refine (C.out _ _).mono ?_; rintro e w' ⟨rfl, rfl⟩)
      all_goals (go_ret; exact ⟨rfl, rfl⟩)
theorem order_any (x : Pl) (t : Int) (w : World) : Calls Try.prog 46 #[.agg #[.int .u64 x.1, .int .i64 x.2], .int .u64 t] w fun e w' => e = .returned (.int .i64 (cmpI x.1 t)) ∧ Below w.heap.size w w' := by
  have C := Lib.hid (cmp_u x.1 t)
  generalize cmpI x.1 t = r at *
  go_enter Try.func46, Try.ntmps46
  go_wp2_with (go_at_call 55; refine (C.out _).mono ?_; rintro e w' ⟨rfl, rfl⟩)
  go_ret
  exact ⟨rfl, (Below.refl _ _).alloc (Nat.le_refl _) _⟩
theorem cmpI_neg {a b : Int} : cmpI a b < 0 ↔ a < b := by unfold cmpI; split; omega; split <;> omega
/-- The place of the first token that is not below. -/
def AtIs (l : List Pl) (t : Int) (i : Nat) : Prop := i ≤ l.length ∧ (∀ j (h : j < l.length), j < i → (l[j]).1 < t) ∧ ∀ j (h : j < l.length), i ≤ j → t ≤ (l[j]).1
set_option maxHeartbeats 1000000 in
theorem bsearch_any (A : Option Addr) (c : Nat) (l : List Pl) (t : Int) (w : World) (h : PlS w A l) (hs : l.Pairwise (fun a b => a.1 < b.1)) (hl : l.length ≤ 100000000) :
    Calls Try.prog 45 #[.slice A l.length c, .int .u64 t, .func (.func 46) #[] #[]] w fun e w' => (∃ (i : Nat) (b : Bool), e = .returned (.tuple #[.int .i64 i, .bool b]) ∧ AtIs l t i) ∧ Below w.heap.size w w' := by
  have C := Lib.hid order_any
  have HS := Lib.hid hs
  clear hs
  have eg : ∀ (args : Array Value) (w : World), (callFunc 46 args).run Try.prog w = .ok (.enter 46 args) w := enters_of Try.func46 (by kernel_rfl) rfl
  go_enter Try.func45, Try.ntmps45
  go_upto_block 0 with fail
  go_cut [9, 10, 11] (fun a b q wx => ∃ i : Nat, a = .int .i64 i ∧ AtIs l t i ∧ Below w.heap.size w wx)
  case first =>
    go_wp2_with fail
    go_loopw [9, 10] (fun a b wr => ∃ i j : Nat, a = .int .i64 i ∧ b = .int .i64 j ∧ i ≤ j ∧ j ≤ l.length ∧ (∀ q (h : q < l.length), q < i → (l[q]).1 < t) ∧ (∀ q (h : q < l.length), j ≤ q → t ≤ (l[q]).1) ∧ Below w.heap.size w wr) (fun a b _ => (intOf b - intOf a).toNat)
    case atStart => exact ⟨0, l.length, rfl, rfl, by omega, by omega, fun q h1 h2 => by omega, fun q h1 h2 => by omega, Below.refl _ _⟩
    case round =>
      obtain ⟨i, j, rfl, rfl, hij, hj, hlo, hhi, hbw⟩ := hrel
      have HL := Lib.hid hlo
      have HH := Lib.hid hhi
      have HB := Lib.hid hbw
      clear hlo hhi
      by_cases hlt : i < j
      · obtain ⟨m, hm⟩ : ∃ m : Nat, (i + j) / 2 = m := ⟨_, rfl⟩
        have hm1 : i ≤ m := by omega
        have hm2 : m < j := by omega
        have e1 : ((i : Int) + (j : Int)) / 2 = (m : Int) := by omega
        obtain ⟨ad, rfl, hb, hc⟩ := (h.over hbw) m (by omega)
        have h2 := (h.over hbw).cells2 m (by omega) (u := .int .u64 (l[m]).1) (v := .int .i64 (l[m]).2) rfl
        obtain ⟨-, c1, c2⟩ := h2
        have C1 := Lib.hid (C.out l[m] t)
        obtain ⟨x, hx⟩ : ∃ x, l[m]'(by omega) = x := ⟨_, rfl⟩
        have HG : ∀ q (h : q < l.length), q = m → (l[q]).1 = x.1 := fun q h e => by subst e; rw [hx]
        have HG := Lib.hid HG
        rw [hx] at c1 c2 C1
        clear hx
        have HN := Lib.hid (cmpI_neg (a := x.1) (b := t))
        generalize cmpI x.1 t = r at *
        clear hc hbw hm
        go_wp2_with fail
        refine (C1.out _).mono ?_
        rintro e w2 ⟨rfl, hb2⟩
        have B2 := Lib.hid (nextC HB.out hb2)
        clear hb2 c1 c2
        by_cases hr : r < 0
        · go_wp2_with fail
          go_roundw
          case rel =>
            refine ⟨m + 1, j, by go_num, rfl, by omega, hj, fun q h1 h2 => ?_, HH.out, B2.out⟩
            have hq := HG.out m (by omega) rfl
            by_cases e : q = m
            · have := HG.out q h1 e
              have := HN.out.1 hr
              omega
            · by_cases h3 : q < i
              · exact HL.out q h1 h3
              · have := List.pairwise_iff_getElem.1 HS.out q m h1 (by omega) (by omega)
                have := HN.out.1 hr
                omega
          case measure => simp [intOf]; omega
        · have d1 : decide (r < 0) = false := decide_eq_false hr
          go_wp2_with fail
          go_roundw
          case rel =>
            refine ⟨i, m, rfl, by go_num, by omega, by omega, HL.out, fun q h1 h2 => ?_, B2.out⟩
            have hq := HG.out m (by omega) rfl
            have hnt : ¬ x.1 < t := fun hh => by have := HN.out.2 hh; omega
            by_cases e : q = m
            · have := HG.out q h1 e
              omega
            · have := List.pairwise_iff_getElem.1 HS.out m q (by omega) h1 (by omega)
              omega
          case measure => simp [intOf]; omega
      · have e : i = j := by omega
        subst e
        go_wp2_with fail
        go_meet
        exact ⟨i, rfl, ⟨hj, HL.out, HH.out⟩, HB.out⟩
  case rest =>
    obtain ⟨i, rfl, hi, hbw⟩ := hcut
    have HI := Lib.hid hi
    have HB := Lib.hid hbw
    have hle := hi.1
    clear hi
    by_cases hlt : i < l.length
    · obtain ⟨ad, rfl, hb, hc⟩ := (h.over hbw) i hlt
      obtain ⟨-, c1, c2⟩ := (h.over hbw).cells2 i hlt (u := .int .u64 (l[i]).1) (v := .int .i64 (l[i]).2) rfl
      have C1 := Lib.hid (C.out l[i] t)
      obtain ⟨x, hx⟩ : ∃ x, l[i]'(by omega) = x := ⟨_, rfl⟩
      rw [hx] at c1 c2 C1
      generalize cmpI x.1 t = r at *
      clear hc hbw hx
      go_wp2_with fail
      refine (C1.out _).mono ?_
      rintro e w2 ⟨rfl, hb2⟩
      have B2 := Lib.hid (nextC HB.out hb2)
      clear hb2 c1 c2
      go_wp2_with fail
      go_ret2
      exact ⟨⟨_, _, rfl, HI.out⟩, B2.out⟩
    · have e : i = l.length := by omega
      go_wp2_with fail
      go_ret2
      exact ⟨⟨_, _, rfl, HI.out⟩, HB.out⟩
/-- The place of a token in a list; -1: it is not there. -/
def placeI (l : List Pl) (t : Int) (q : Int) : Prop := (q = -1 ∧ ∀ j (h : j < l.length), (l[j]).1 ≠ t) ∨ ∃ (k : Nat) (h : k < l.length), q = k ∧ (l[k]).1 = t ∧ ∀ j (h : j < l.length), j < k → (l[j]).1 ≠ t
theorem place1_any (x : Pl) (t : Int) (g : Nat) (w : World) (hg : w.cell? ⟨g, 0, none⟩ = some (.int .u64 t)) (hlt : g < w.heap.size) :
    Calls Try.prog 49 #[.agg #[.int .u64 x.1, .int .i64 x.2], .pointer (some ⟨g, 0, none⟩)] w fun e w' => e = .returned (.bool (x.1 == t)) ∧ Below w.heap.size w w' := by
  have hg2 : (w.alloc (.cells #[.int .u64 x.1, .int .i64 x.2] 38)).cell? ⟨g, 0, none⟩ = some (.int .u64 t) := (World.cell?_alloc_lt w _ _ hlt).trans hg
  go_enter Try.func49, Try.ntmps49
  go_wp2_with fail
  go_ret
  exact ⟨rfl, (Below.refl _ _).alloc (Nat.le_refl _) _⟩
set_option maxHeartbeats 1000000 in
theorem indexF_any (A : Option Addr) (c : Nat) (l : List Pl) (t : Int) (g : Nat) (w : World) (h : PlS w A l) (hg : w.cell? ⟨g, 0, none⟩ = some (.int .u64 t)) (hlt : g < w.heap.size) (hl : l.length ≤ 100000000) :
    Calls Try.prog 48 #[.slice A l.length c, .func (.func 49) #[] #[.pointer (some ⟨g, 0, none⟩)]] w fun e w' => (∃ q : Int, e = .returned (.int .i64 q) ∧ placeI l t q) ∧ Below w.heap.size w w' := by
  have C := Lib.hid (fun (x : Pl) W (hW : Below w.heap.size w W) => place1_any x t g W ((hW.cell (p := ⟨g, 0, none⟩) hlt).trans hg) (Nat.lt_of_lt_of_le hlt hW.size))
  have eg : ∀ (args : Array Value) (w : World), (callFunc 49 args).run Try.prog w = .ok (.enter 49 args) w := enters_of Try.func49 (by kernel_rfl) rfl
  clear hg hlt
  go_enter Try.func48, Try.ntmps48
  go_wp2_with fail
  go_loopw [8] (fun i wr => ∃ k : Nat, k ≤ l.length ∧ i = .int .i64 k ∧ (∀ j (h : j < l.length), j < k → (l[j]).1 ≠ t) ∧ Below w.heap.size w wr) (fun i _ => l.length - (intOf i).toNat)
  case atStart => exact ⟨0, by omega, rfl, fun j h hj => absurd hj (by omega), Below.refl _ _⟩
  case round =>
    obtain ⟨k, hk, rfl, hall, hbw⟩ := hrel
    have H := Lib.hid hall
    have HB := Lib.hid hbw
    clear hall
    by_cases hlt : k < l.length
    · obtain ⟨ad, rfl, hb, hc⟩ := (h.over hbw) k hlt
      obtain ⟨-, c1, c2⟩ := (h.over hbw).cells2 k hlt (u := .int .u64 (l[k]).1) (v := .int .i64 (l[k]).2) rfl
      obtain ⟨x, hx⟩ : ∃ x, l[k] = x := ⟨_, rfl⟩
      have HG : ∀ q (h : q < l.length), q = k → (l[q]).1 = x.1 := fun q h e => by subst e; rw [hx]
      have HG := Lib.hid HG
      rw [hx] at c1 c2
      have C1 := Lib.hid (C.out x)
      clear hc hbw hx
      by_cases hxt : x.1 = t
      · rw [show (x.1 == t) = true by simpa using hxt] at C1
        have HX := Lib.hid hxt
        clear hxt
        go_wp2_with fail
        refine (C1.out _ HB.out).mono ?_
        rintro e w1 ⟨rfl, hb1⟩
        have B1 := Lib.hid (nextC HB.out hb1)
        clear hb1 c1 c2
        go_wp2_with fail
        go_ret
        exact ⟨⟨_, rfl, .inr ⟨k, hlt, rfl, by rw [HG.out k hlt rfl, HX.out], H.out⟩⟩, B1.out⟩
      · rw [show (x.1 == t) = false by simpa using hxt] at C1
        have HX := Lib.hid hxt
        clear hxt
        go_wp2_with fail
        refine (C1.out _ HB.out).mono ?_
        rintro e w1 ⟨rfl, hb1⟩
        have B1 := Lib.hid (nextC HB.out hb1)
        clear hb1 c1 c2
        go_wp2_with fail
        go_roundw
        case rel =>
          refine ⟨k + 1, by omega, by go_num, fun j h hj => ?_, B1.out⟩
          by_cases e : j = k
          · rw [HG.out j h e]; exact HX.out
          · exact H.out j h (by omega)
        case measure => simp [intOf]; omega
    · have e : k = l.length := by omega
      subst e
      go_wp2_with fail
      go_ret
      exact ⟨⟨-1, rfl, .inl ⟨rfl, fun j h => H.out j h h⟩⟩, HB.out⟩
theorem place_any (A : Option Addr) (c : Nat) (l : List Pl) (t : Int) (w : World) (h : PlS w A l) (hl : l.length ≤ 100000000) :
    Calls Try.prog 28 #[.slice A l.length c, .int .u64 t] w fun e w' => (∃ q : Int, e = .returned (.int .i64 q) ∧ placeI l t q) ∧ Below w.heap.size w w' := by
  have C := Lib.hid (indexF_any A c l t w.heap.size (w.alloc (.cells #[.int .u64 t] 28)) (h.alloc _) (by simp) (by simp) hl)
  go_enter Try.func28, Try.ntmps28
  go_wp2_with fail
  refine C.out.mono ?_
  rintro e w1 ⟨⟨q, rfl, hq⟩, hb1⟩
  have HQ := Lib.hid hq
  clear hq
  go_wp2_with fail
  go_ret
  exact ⟨⟨_, rfl, HQ.out⟩, nextA (Below.refl _ _) hb1⟩
/-- How many places tokens have together. -/
def sumM (l : List Pl) : Int := (l.map (·.2)).sum
theorem sumM_nil : sumM [] = 0 := rfl
theorem sumM_append (l m : List Pl) : sumM (l ++ m) = sumM l + sumM m := by unfold sumM; rw [List.map_append, List.sum_append]
theorem sumM_cons (x : Pl) (l : List Pl) : sumM (x :: l) = x.2 + sumM l := by unfold sumM; rw [List.map_cons, List.sum_cons]
theorem sumM_take (l : List Pl) (k : Nat) (h : k < l.length) : sumM (l.take (k + 1)) = sumM (l.take k) + (l[k]).2 := by
  rw [List.take_succ_eq_append_getElem h, sumM_append, sumM_cons, sumM_nil]; omega
/-- Such as may be asked for. -/
def Small (l : List Pl) : Prop := l.length ≤ 100000 ∧ ∀ x ∈ l, 1 ≤ x.2 ∧ x.2 ≤ 1048576
theorem Small.sum_le : ∀ {l : List Pl}, (∀ x ∈ l, 1 ≤ x.2 ∧ x.2 ≤ 1048576) → 0 ≤ sumM l ∧ sumM l ≤ 1048576 * (l.length : Int)
  | [], _ => ⟨by rw [sumM_nil]; omega, by rw [sumM_nil]; simp⟩
  | x :: l, h => by
    have ih := Small.sum_le (l := l) fun y hy => h y (by simp [hy])
    have := h x (by simp)
    rw [sumM_cons, List.length_cons]
    constructor
    · omega
    · simp; omega
def leftI (size : Int) (l : List Pl) : Int := max (size - sumM l) 0
set_option maxHeartbeats 1000000 in
theorem left_any (p : Nat) (size : Int) (A : Option Addr) (c : Nat) (l : List Pl) (vB : Value) (w : World) (hr : Row w p 77 #[.int .i64 size, .slice A l.length c, vB]) (h : PlS w A l) (hl : Small l) (hs0 : 0 ≤ size) (hs1 : size ≤ 1048576) :
    Calls Try.prog 32 #[.pointer (some ⟨p, 0, none⟩)] w fun e w' => e = .returned (.int .i64 (leftI size l)) ∧ Below w.heap.size w w' := by
  have HL := Lib.hid hl
  have hll := hl.1
  unfold leftI
  clear hl
  go_enter Try.func32, Try.ntmps32
  have kd := fun o => hr.cell o
  go_wp2_with fail
  go_loopw [15, 3] (fun i n wr => ∃ k : Nat, k ≤ l.length ∧ i = .int .i64 k ∧ n = .int .i64 (size - sumM (l.take k)) ∧ Below w.heap.size w wr) (fun i _ _ => l.length - (intOf i).toNat)
  case atStart => exact ⟨0, by omega, rfl, by rw [List.take_zero, sumM_nil]; simp, Below.refl _ _⟩
  case round =>
    obtain ⟨k, hk, rfl, rfl, hbw⟩ := hrel
    have HB := Lib.hid hbw
    have hst := Small.sum_le (l := l.take k) fun x hx => HL.out.2 x (List.mem_of_mem_take hx)
    have hle : ((l.take k).length : Int) ≤ 100000 := by rw [List.length_take]; omega
    by_cases hlt : k < l.length
    · obtain ⟨ad, rfl, hb, hc⟩ := (h.over hbw) k hlt
      obtain ⟨-, c1, c2⟩ := (h.over hbw).cells2 k hlt (u := .int .u64 (l[k]).1) (v := .int .i64 (l[k]).2) rfl
      have hx := HL.out.2 l[k] (List.getElem_mem hlt)
      have HS := Lib.hid (sumM_take l k hlt)
      generalize l[k] = x at *
      generalize sumM (l.take k) = sm at *
      clear hc hbw
      go_wp2_with fail
      go_roundw
      case rel => exact ⟨k + 1, by omega, by go_num, by rw [HS.out]; exact congrArg (Value.int .i64) (by omega), HB.out.alloc HB.out.size _⟩
      case measure => simp [intOf]; omega
    · have e : k = l.length := by omega
      subst e
      rw [List.take_length] at *
      obtain ⟨sm, hsm⟩ : ∃ sm, sumM l = sm := ⟨_, rfl⟩
      rw [hsm] at hst ⊢
      have HS := Lib.hid hsm
      clear hsm
      go_wp2_with fail
      all_goals (go_ret; exact ⟨congrArg (fun z => Ending.returned (Value.int .i64 z)) (show _ = max (size - sumM l) 0 by rw [HS.out]; omega), HB.out⟩)
end Go.Proofs.Ytaikjobebbighaa
