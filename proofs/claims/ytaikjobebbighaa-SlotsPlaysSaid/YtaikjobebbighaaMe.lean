/- Slots: places as they lie; cmp.Compare, order, place, left, the binary search. Slots: slices.Clone, slices.Delete at places. Slots: slices.Insert of one at places. Slots: slices.Insert of one at places, at any place. Slots: the plain model of a pool: who is served. No program. Slots: the plain model of a pool: set, ask, free; what stays true. No program. Slots: the place of a token, as one number. No program. -/
import Derived.Test.YtaikjobebbighaaMa
import Derived.Test.YtaikjobebbighaaRows
import Derived.ProofKit
import Derived.WalkKit
import Derived.WalkSpells
import Derived.WalkLawsBesides
import Derived.Lib.Hide
import Derived.Shelf.Abstract
import Derived.Deep.DeepCutAuto
import Derived.Deep.RegionHeldLaw
import Derived.Deep.CutBlock
import Derived.Lib.Overlaps
import Derived.Lib.AppendZerosOnto
import Derived.Deep.AppendSrc
import Derived.Lib.AppendZeros
namespace Go.Proofs.Ytaikjobebbighaa
set_option linter.unusedVariables false
set_option maxRecDepth 100000
open Go.RowKit
/-- A token, and how many places. -/
abbrev Pl := Int × Int
def enP (x : Pl) : List Value := [.int .u64 x.1, .int .i64 x.2]
theorem enP_len (x : Pl) : (enP x).length = 2 := rfl
theorem enP_one (x : Pl) : ∀ v ∈ enP x, v.oneCell' = true := fun v hv => by
  simp [enP] at hv
  rcases hv with rfl | rfl <;> rfl
abbrev PlS (w : World) (A : Option Addr) (l : List Pl) : Prop := RkS enP 2 w A l
theorem isNaN_u (x : Int) (w : World) : Calls Try.prog 77 #[.int .u64 x] w fun e w' => e = .returned (.bool false) ∧ w' = w := by
  go_enter Try.func77, Try.ntmps77
  go_wp2_with fail
  go_ret
  exact ⟨rfl, rfl⟩
def cmpI (a b : Int) : Int := if a < b then -1 else if b < a then 1 else 0
theorem cmp_u (a b : Int) (w : World) : Calls Try.prog 55 #[.int .u64 a, .int .u64 b] w fun e w' => e = .returned (.int .i64 (cmpI a b)) ∧ w' = w := by
  have C := Lib.hid isNaN_u
  unfold cmpI
  go_enter Try.func55, Try.ntmps55
  by_cases h1 : a < b
  · rw [if_pos h1]
    go_wp2_with (go_at_call 77; refine (C.out _ _).mono ?_; rintro e w' ⟨rfl, rfl⟩)
    all_goals (go_ret; exact ⟨rfl, rfl⟩)
  · rw [if_neg h1]
    have d1 : decide (a < b) = false := decide_eq_false h1
    by_cases h2 : b < a
    · rw [if_pos h2]
      go_wp2_with (go_at_call 77; refine (C.out _ _).mono ?_; rintro e w' ⟨rfl, rfl⟩)
      all_goals (go_ret; exact ⟨rfl, rfl⟩)
    · rw [if_neg h2]
      have d2 : decide (b < a) = false := decide_eq_false h2
      go_wp2_with (go_at_call 77; refine (C.out _ _).mono ?_; rintro e w' ⟨rfl, rfl⟩)
      all_goals (go_ret; exact ⟨rfl, rfl⟩)
theorem order_any (x : Pl) (t : Int) (w : World) : Calls Try.prog 46 #[.agg #[.int .u64 x.1, .int .i64 x.2], .int .u64 t] w fun e w' => e = .returned (.int .i64 (cmpI x.1 t)) ∧ Below w.heap.size w w' := by
  have C := Lib.hid (cmp_u x.1 t)
  generalize cmpI x.1 t = r at *
  go_enter Try.func46, Try.ntmps46
  go_wp2_with (go_at_call 55; refine (C.out _).mono ?_; rintro e w' ⟨rfl, rfl⟩)
  go_ret
  exact ⟨rfl, (Below.refl _ _).alloc (Nat.le_refl _) _⟩
theorem cmpI_neg {a b : Int} : cmpI a b < 0 ↔ a < b := by unfold cmpI; split; omega; split <;> omega
/-- The place of the first token that is not below. -/
def AtIs (l : List Pl) (t : Int) (i : Nat) : Prop := i ≤ l.length ∧ (∀ j (h : j < l.length), j < i → (l[j]).1 < t) ∧ ∀ j (h : j < l.length), i ≤ j → t ≤ (l[j]).1
set_option maxHeartbeats 1000000 in
theorem bsearch_any (A : Option Addr) (c : Nat) (l : List Pl) (t : Int) (w : World) (h : PlS w A l) (hs : l.Pairwise (fun a b => a.1 < b.1)) (hl : l.length ≤ 100000000) :
    Calls Try.prog 45 #[.slice A l.length c, .int .u64 t, .func (.func 46) #[] #[]] w fun e w' => (∃ (i : Nat) (b : Bool), e = .returned (.tuple #[.int .i64 i, .bool b]) ∧ AtIs l t i) ∧ Below w.heap.size w w' := by
  have C := Lib.hid order_any
  have HS := Lib.hid hs
  clear hs
  have eg : ∀ (args : Array Value) (w : World), (callFunc 46 args).run Try.prog w = .ok (.enter 46 args) w := enters_of Try.func46 (by kernel_rfl) rfl
  go_enter Try.func45, Try.ntmps45
  go_upto_block 0 with fail
  go_cut [9, 10, 11] (fun a b q wx => ∃ i : Nat, a = .int .i64 i ∧ AtIs l t i ∧ Below w.heap.size w wx)
  case first =>
    go_wp2_with fail
    go_loopw [9, 10] (fun a b wr => ∃ i j : Nat, a = .int .i64 i ∧ b = .int .i64 j ∧ i ≤ j ∧ j ≤ l.length ∧ (∀ q (h : q < l.length), q < i → (l[q]).1 < t) ∧ (∀ q (h : q < l.length), j ≤ q → t ≤ (l[q]).1) ∧ Below w.heap.size w wr) (fun a b _ => (intOf b - intOf a).toNat)
    case atStart => exact ⟨0, l.length, rfl, rfl, by omega, by omega, fun q h1 h2 => by omega, fun q h1 h2 => by omega, Below.refl _ _⟩
    case round =>
      obtain ⟨i, j, rfl, rfl, hij, hj, hlo, hhi, hbw⟩ := hrel
      have HL := Lib.hid hlo
      have HH := Lib.hid hhi
      have HB := Lib.hid hbw
      clear hlo hhi
      by_cases hlt : i < j
      · obtain ⟨m, hm⟩ : ∃ m : Nat, (i + j) / 2 = m := ⟨_, rfl⟩
        have hm1 : i ≤ m := by omega
        have hm2 : m < j := by omega
        have e1 : ((i : Int) + (j : Int)) / 2 = (m : Int) := by omega
        obtain ⟨ad, rfl, hb, hc⟩ := (h.over hbw) m (by omega)
        have h2 := (h.over hbw).cells2 m (by omega) (u := .int .u64 (l[m]).1) (v := .int .i64 (l[m]).2) rfl
        obtain ⟨-, c1, c2⟩ := h2
        have C1 := Lib.hid (C.out l[m] t)
        obtain ⟨x, hx⟩ : ∃ x, l[m]'(by omega) = x := ⟨_, rfl⟩
        have HG : ∀ q (h : q < l.length), q = m → (l[q]).1 = x.1 := fun q h e => by subst e; rw [hx]
        have HG := Lib.hid HG
        rw [hx] at c1 c2 C1
        clear hx
        have HN := Lib.hid (cmpI_neg (a := x.1) (b := t))
        generalize cmpI x.1 t = r at *
        clear hc hbw hm
        go_wp2_with fail
        refine (C1.out _).mono ?_
        rintro e w2 ⟨rfl, hb2⟩
        have B2 := Lib.hid (nextC HB.out hb2)
        clear hb2 c1 c2
        by_cases hr : r < 0
        · go_wp2_with fail
          go_roundw
          case rel =>
            refine ⟨m + 1, j, by go_num, rfl, by omega, hj, fun q h1 h2 => ?_, HH.out, B2.out⟩
            have hq := HG.out m (by omega) rfl
            by_cases e : q = m
            · have := HG.out q h1 e
              have := HN.out.1 hr
              omega
            · by_cases h3 : q < i
              · exact HL.out q h1 h3
              · have := List.pairwise_iff_getElem.1 HS.out q m h1 (by omega) (by omega)
                have := HN.out.1 hr
                omega
          case measure => simp [intOf]; omega
        · have d1 : decide (r < 0) = false := decide_eq_false hr
          go_wp2_with fail
          go_roundw
          case rel =>
            refine ⟨i, m, rfl, by go_num, by omega, by omega, HL.out, fun q h1 h2 => ?_, B2.out⟩
            have hq := HG.out m (by omega) rfl
            have hnt : ¬ x.1 < t := fun hh => by have := HN.out.2 hh; omega
            by_cases e : q = m
            · have := HG.out q h1 e
              omega
            · have := List.pairwise_iff_getElem.1 HS.out m q (by omega) h1 (by omega)
              omega
          case measure => simp [intOf]; omega
      · have e : i = j := by omega
        subst e
        go_wp2_with fail
        go_meet
        exact ⟨i, rfl, ⟨hj, HL.out, HH.out⟩, HB.out⟩
  case rest =>
    obtain ⟨i, rfl, hi, hbw⟩ := hcut
    have HI := Lib.hid hi
    have HB := Lib.hid hbw
    have hle := hi.1
    clear hi
    by_cases hlt : i < l.length
    · obtain ⟨ad, rfl, hb, hc⟩ := (h.over hbw) i hlt
      obtain ⟨-, c1, c2⟩ := (h.over hbw).cells2 i hlt (u := .int .u64 (l[i]).1) (v := .int .i64 (l[i]).2) rfl
      have C1 := Lib.hid (C.out l[i] t)
      obtain ⟨x, hx⟩ : ∃ x, l[i]'(by omega) = x := ⟨_, rfl⟩
      rw [hx] at c1 c2 C1
      generalize cmpI x.1 t = r at *
      clear hc hbw hx
      go_wp2_with fail
      refine (C1.out _).mono ?_
      rintro e w2 ⟨rfl, hb2⟩
      have B2 := Lib.hid (nextC HB.out hb2)
      clear hb2 c1 c2
      go_wp2_with fail
      go_ret2
      exact ⟨⟨_, _, rfl, HI.out⟩, B2.out⟩
    · have e : i = l.length := by omega
      go_wp2_with fail
      go_ret2
      exact ⟨⟨_, _, rfl, HI.out⟩, HB.out⟩
/-- The place of a token in a list; -1: it is not there. -/
def placeI (l : List Pl) (t : Int) (q : Int) : Prop := (q = -1 ∧ ∀ j (h : j < l.length), (l[j]).1 ≠ t) ∨ ∃ (k : Nat) (h : k < l.length), q = k ∧ (l[k]).1 = t ∧ ∀ j (h : j < l.length), j < k → (l[j]).1 ≠ t
theorem place1_any (x : Pl) (t : Int) (g : Nat) (w : World) (hg : w.cell? ⟨g, 0, none⟩ = some (.int .u64 t)) (hlt : g < w.heap.size) :
    Calls Try.prog 49 #[.agg #[.int .u64 x.1, .int .i64 x.2], .pointer (some ⟨g, 0, none⟩)] w fun e w' => e = .returned (.bool (x.1 == t)) ∧ Below w.heap.size w w' := by
  have hg2 : (w.alloc (.cells #[.int .u64 x.1, .int .i64 x.2] 38)).cell? ⟨g, 0, none⟩ = some (.int .u64 t) := (World.cell?_alloc_lt w _ _ hlt).trans hg
  go_enter Try.func49, Try.ntmps49
  go_wp2_with fail
  go_ret
  exact ⟨rfl, (Below.refl _ _).alloc (Nat.le_refl _) _⟩
set_option maxHeartbeats 1000000 in
theorem indexF_any (A : Option Addr) (c : Nat) (l : List Pl) (t : Int) (g : Nat) (w : World) (h : PlS w A l) (hg : w.cell? ⟨g, 0, none⟩ = some (.int .u64 t)) (hlt : g < w.heap.size) (hl : l.length ≤ 100000000) :
    Calls Try.prog 48 #[.slice A l.length c, .func (.func 49) #[] #[.pointer (some ⟨g, 0, none⟩)]] w fun e w' => (∃ q : Int, e = .returned (.int .i64 q) ∧ placeI l t q) ∧ Below w.heap.size w w' := by
  have C := Lib.hid (fun (x : Pl) W (hW : Below w.heap.size w W) => place1_any x t g W ((hW.cell (p := ⟨g, 0, none⟩) hlt).trans hg) (Nat.lt_of_lt_of_le hlt hW.size))
  have eg : ∀ (args : Array Value) (w : World), (callFunc 49 args).run Try.prog w = .ok (.enter 49 args) w := enters_of Try.func49 (by kernel_rfl) rfl
  clear hg hlt
  go_enter Try.func48, Try.ntmps48
  go_wp2_with fail
  go_loopw [8] (fun i wr => ∃ k : Nat, k ≤ l.length ∧ i = .int .i64 k ∧ (∀ j (h : j < l.length), j < k → (l[j]).1 ≠ t) ∧ Below w.heap.size w wr) (fun i _ => l.length - (intOf i).toNat)
  case atStart => exact ⟨0, by omega, rfl, fun j h hj => absurd hj (by omega), Below.refl _ _⟩
  case round =>
    obtain ⟨k, hk, rfl, hall, hbw⟩ := hrel
    have H := Lib.hid hall
    have HB := Lib.hid hbw
    clear hall
    by_cases hlt : k < l.length
    · obtain ⟨ad, rfl, hb, hc⟩ := (h.over hbw) k hlt
      obtain ⟨-, c1, c2⟩ := (h.over hbw).cells2 k hlt (u := .int .u64 (l[k]).1) (v := .int .i64 (l[k]).2) rfl
      obtain ⟨x, hx⟩ : ∃ x, l[k] = x := ⟨_, rfl⟩
      have HG : ∀ q (h : q < l.length), q = k → (l[q]).1 = x.1 := fun q h e => by subst e; rw [hx]
      have HG := Lib.hid HG
      rw [hx] at c1 c2
      have C1 := Lib.hid (C.out x)
      clear hc hbw hx
      by_cases hxt : x.1 = t
      · rw [show (x.1 == t) = true by simpa using hxt] at C1
        have HX := Lib.hid hxt
        clear hxt
        go_wp2_with fail
        refine (C1.out _ HB.out).mono ?_
        rintro e w1 ⟨rfl, hb1⟩
        have B1 := Lib.hid (nextC HB.out hb1)
        clear hb1 c1 c2
        go_wp2_with fail
        go_ret
        exact ⟨⟨_, rfl, .inr ⟨k, hlt, rfl, by rw [HG.out k hlt rfl, HX.out], H.out⟩⟩, B1.out⟩
      · rw [show (x.1 == t) = false by simpa using hxt] at C1
        have HX := Lib.hid hxt
        clear hxt
        go_wp2_with fail
        refine (C1.out _ HB.out).mono ?_
        rintro e w1 ⟨rfl, hb1⟩
        have B1 := Lib.hid (nextC HB.out hb1)
        clear hb1 c1 c2
        go_wp2_with fail
        go_roundw
        case rel =>
          refine ⟨k + 1, by omega, by go_num, fun j h hj => ?_, B1.out⟩
          by_cases e : j = k
          · rw [HG.out j h e]; exact HX.out
          · exact H.out j h (by omega)
        case measure => simp [intOf]; omega
    · have e : k = l.length := by omega
      subst e
      go_wp2_with fail
      go_ret
      exact ⟨⟨-1, rfl, .inl ⟨rfl, fun j h => H.out j h h⟩⟩, HB.out⟩
theorem place_any (A : Option Addr) (c : Nat) (l : List Pl) (t : Int) (w : World) (h : PlS w A l) (hl : l.length ≤ 100000000) :
    Calls Try.prog 28 #[.slice A l.length c, .int .u64 t] w fun e w' => (∃ q : Int, e = .returned (.int .i64 q) ∧ placeI l t q) ∧ Below w.heap.size w w' := by
  have C := Lib.hid (indexF_any A c l t w.heap.size (w.alloc (.cells #[.int .u64 t] 28)) (h.alloc _) (by simp) (by simp) hl)
  go_enter Try.func28, Try.ntmps28
  go_wp2_with fail
  refine C.out.mono ?_
  rintro e w1 ⟨⟨q, rfl, hq⟩, hb1⟩
  have HQ := Lib.hid hq
  clear hq
  go_wp2_with fail
  go_ret
  exact ⟨⟨_, rfl, HQ.out⟩, nextA (Below.refl _ _) hb1⟩
/-- How many places tokens have together. -/
def sumM (l : List Pl) : Int := (l.map (·.2)).sum
theorem sumM_nil : sumM [] = 0 := rfl
theorem sumM_append (l m : List Pl) : sumM (l ++ m) = sumM l + sumM m := by unfold sumM; rw [List.map_append, List.sum_append]
theorem sumM_cons (x : Pl) (l : List Pl) : sumM (x :: l) = x.2 + sumM l := by unfold sumM; rw [List.map_cons, List.sum_cons]
theorem sumM_take (l : List Pl) (k : Nat) (h : k < l.length) : sumM (l.take (k + 1)) = sumM (l.take k) + (l[k]).2 := by
  rw [List.take_succ_eq_append_getElem h, sumM_append, sumM_cons, sumM_nil]; omega
/-- Such as may be asked for. -/
def Small (l : List Pl) : Prop := l.length ≤ 100000 ∧ ∀ x ∈ l, 1 ≤ x.2 ∧ x.2 ≤ 1048576
theorem Small.sum_le : ∀ {l : List Pl}, (∀ x ∈ l, 1 ≤ x.2 ∧ x.2 ≤ 1048576) → 0 ≤ sumM l ∧ sumM l ≤ 1048576 * (l.length : Int)
  | [], _ => ⟨by rw [sumM_nil]; omega, by rw [sumM_nil]; simp⟩
  | x :: l, h => by
    have ih := Small.sum_le (l := l) fun y hy => h y (by simp [hy])
    have := h x (by simp)
    rw [sumM_cons, List.length_cons]
    constructor
    · omega
    · simp; omega
def leftI (size : Int) (l : List Pl) : Int := max (size - sumM l) 0
set_option maxHeartbeats 1000000 in
theorem left_any (p : Nat) (size : Int) (A : Option Addr) (c : Nat) (l : List Pl) (vB : Value) (w : World) (hr : Row w p 77 #[.int .i64 size, .slice A l.length c, vB]) (h : PlS w A l) (hl : Small l) (hs0 : 0 ≤ size) (hs1 : size ≤ 1048576) :
    Calls Try.prog 32 #[.pointer (some ⟨p, 0, none⟩)] w fun e w' => e = .returned (.int .i64 (leftI size l)) ∧ Below w.heap.size w w' := by
  have HL := Lib.hid hl
  have hll := hl.1
  unfold leftI
  clear hl
  go_enter Try.func32, Try.ntmps32
  have kd := fun o => hr.cell o
  go_wp2_with fail
  go_loopw [15, 3] (fun i n wr => ∃ k : Nat, k ≤ l.length ∧ i = .int .i64 k ∧ n = .int .i64 (size - sumM (l.take k)) ∧ Below w.heap.size w wr) (fun i _ _ => l.length - (intOf i).toNat)
  case atStart => exact ⟨0, by omega, rfl, by rw [List.take_zero, sumM_nil]; simp, Below.refl _ _⟩
  case round =>
    obtain ⟨k, hk, rfl, rfl, hbw⟩ := hrel
    have HB := Lib.hid hbw
    have hst := Small.sum_le (l := l.take k) fun x hx => HL.out.2 x (List.mem_of_mem_take hx)
    have hle : ((l.take k).length : Int) ≤ 100000 := by rw [List.length_take]; omega
    by_cases hlt : k < l.length
    · obtain ⟨ad, rfl, hb, hc⟩ := (h.over hbw) k hlt
      obtain ⟨-, c1, c2⟩ := (h.over hbw).cells2 k hlt (u := .int .u64 (l[k]).1) (v := .int .i64 (l[k]).2) rfl
      have hx := HL.out.2 l[k] (List.getElem_mem hlt)
      have HS := Lib.hid (sumM_take l k hlt)
      generalize l[k] = x at *
      generalize sumM (l.take k) = sm at *
      clear hc hbw
      go_wp2_with fail
      go_roundw
      case rel => exact ⟨k + 1, by omega, by go_num, by rw [HS.out]; exact congrArg (Value.int .i64) (by omega), HB.out.alloc HB.out.size _⟩
      case measure => simp [intOf]; omega
    · have e : k = l.length := by omega
      subst e
      rw [List.take_length] at *
      obtain ⟨sm, hsm⟩ : ∃ sm, sumM l = sm := ⟨_, rfl⟩
      rw [hsm] at hst ⊢
      have HS := Lib.hid hsm
      clear hsm
      go_wp2_with fail
      all_goals (go_ret; exact ⟨congrArg (fun z => Ending.returned (Value.int .i64 z)) (show _ = max (size - sumM l) 0 by rw [HS.out]; omega), HB.out⟩)
end Go.Proofs.Ytaikjobebbighaa
namespace Go.Proofs.Ytaikjobebbighaa
set_option linter.unusedVariables false
set_option maxRecDepth 100000
open Go.RowKit
theorem infoP : (Try.prog.info? 38).map (fun i => (i.zero, i.size, i.bytes)) = some (some (.agg #[.int .u64 0, .int .i64 0]), 2, 16) := by kernel_rfl
/-- Places of the call's own. -/
abbrev PlO (base : Nat) (w : World) (B : Option Addr) (d : Nat) (l : List Pl) : Prop := RkO enP 2 38 base w B d l
theorem RkO.made0 {α : Type} (en : α → List Value) (k : Nat) (e : TypeId) (w : World) : RkO en k e w.heap.size (w.alloc (.cells #[] e)) (some ⟨w.heap.size, 0, none⟩) 0 ([] : List α) :=
  ⟨by simp [rkCs], .inr ⟨w.heap.size, 0, #[], rfl, Nat.le_refl _, heap_alloc_new w _, Nat.le_refl _, by unfold maxLen; omega, by simp, by simp [rkCs]⟩⟩
set_option maxHeartbeats 1000000 in
theorem clone_any (A : Option Addr) (c : Nat) (l : List Pl) (w : World) (h : PlS w A l) (hA : A = none → c = 0) (hl : l.length ≤ 1000000) :
    Calls Try.prog 30 #[.slice A l.length c] w fun e w' => (∃ B d, e = .returned (.slice B l.length d) ∧ PlO w.heap.size w' B d l) ∧ Below w.heap.size w w' := by
  have q22 : ∀ (w : World) (a : Option Addr) (n c n' c' : Nat), (binOp .eql 31 (.slice a n c) (.slice none n' c')).run Try.prog w = .ok (.bool a.isNone) w := fun w a n c n' c' => Lib.run_eql_slice_nil w _ _ a n c n' c' Try.underlying31
  cases A with
  | none =>
    have e : l = [] := by
      rcases l with _ | ⟨x, l⟩
      · rfl
      · obtain ⟨ad, e, _⟩ := h 0 (by simp)
        cases e
    subst e
    obtain rfl := hA rfl
    go_enter Try.func30, Try.ntmps30
    go_wp2_with fail
    go_ret
    exact ⟨⟨none, 0, rfl, RkO.nil _ _⟩, Below.refl _ _⟩
  | some ad =>
    have H := Lib.hid (RkS.alloc h (.cells #[] 38))
    have O0 := Lib.hid (RkO.made0 enP 2 38 w)
    clear h hA
    go_enter Try.func30, Try.ntmps30
    go_wp2_with (first | (at_builtin; refine appSK rfl _ _ rfl Try.underlying31 infoP rfl (by decide) (by decide) enP_len enP_one _ rfl rfl O0.out (some ad) c l rfl H.out (by simp) (by simp) (by simp; omega) ?_; intro B d w2 ho hg hb))
    go_ret
    refine ⟨⟨B, d, by simp, ho⟩, ?_⟩
    exact ((Below.refl _ w).alloc (Nat.le_refl _) _).trans (hb.mono (by simp))
/-- Without one. -/
def wo1 (l : List Pl) (i : Nat) : List Pl := l.take i ++ l.drop (i + 1)
theorem wo1_len {l : List Pl} {i : Nat} (hi : i < l.length) : (wo1 l i).length = l.length - 1 := by unfold wo1; simp; omega
set_option maxHeartbeats 2000000 in
theorem delete_any (base g d : Nat) (l : List Pl) (i : Nat) (w : World) (h : PlO base w (some ⟨g, 0, none⟩) d l) (hi : i < l.length) (hl : l.length ≤ 1000000) :
    Calls Try.prog 29 #[.slice (some ⟨g, 0, none⟩) l.length d, .int .i64 i, .int .i64 ((i : Int) + 1)] w fun e w' => e = .returned (.slice (some ⟨g, 0, none⟩) (l.length - 1) d) ∧ PlO base w' (some ⟨g, 0, none⟩) d (wo1 l i) ∧ w.grownBy w' (some g) := by
  obtain ⟨i0, hi0, hz0, hz1, hz2⟩ := info_parts infoP
  obtain ⟨cur, hr, hb, hld, hdm, hsz, htk⟩ := h.open_
  have hmax : d ≤ 9223372036854775807 := by unfold maxLen at hdm; omega
  -- the beginning, as a row of its own
  have ho1 : PlO base w.drew (some ⟨g, 0, none⟩) d (l.take i) := RkO.make enP_len (cur := cur) hr hb (by rw [List.length_take]; omega) hdm hsz fun j hj => by
    rw [List.length_take, Nat.min_eq_left (by omega)] at hj
    rw [RkO.at_ enP_len htk (j := j) (by omega)]
    have e : l = l.take i ++ l.drop i := (List.take_append_drop i l).symm
    have hlen : (rkCs enP (l.take i)).length = i * 2 := by rw [rkCs_len enP_len, List.length_take, Nat.min_eq_left (by omega)]
    rw [e, rkCs_append, List.getElem?_append_left (by omega), List.take_left' (by rw [List.length_take, Nat.min_eq_left (by omega)])]
  have hs : PlS w (some ⟨g, 0, none⟩) l := RkO.rks enP_len h
  obtain ⟨news, hnews⟩ : ∃ news, news = rkCs enP (l.drop (i + 1)) := ⟨_, rfl⟩
  obtain ⟨A, hA, hsrc⟩ : ∃ A : Addr, (if d = i + 1 then some (⟨g, 0, none⟩ : Addr) else some ⟨g, (i + 1) * 2, none⟩) = some A ∧ Hid (∀ j u, news[j]? = some u → w.drew.cell? (A.add j) = some u) := by
    by_cases hd : d = i + 1
    · refine ⟨_, by rw [if_pos hd], Lib.hid fun j u hu => ?_⟩
      rw [hnews, List.drop_eq_nil_of_le (by omega)] at hu
      simp [rkCs] at hu
    · refine ⟨_, by rw [if_neg hd], Lib.hid fun j u hu => ?_⟩
      have hc := RkS.cut hs (n := i + 1) (cap := d) hld
      rw [if_neg hd] at hc
      rw [hnews] at hu
      have := RkS.cells enP_len (ad := (⟨g, 0, none⟩ : Addr).add ((i + 1) * 2)) hc j u hu
      rw [show (⟨g, 0, none⟩ : Addr).add ((i + 1) * 2) = ⟨g, (i + 1) * 2, none⟩ by unfold Addr.add; split <;> simp_all] at this
      exact this
  obtain ⟨w1, hrun, ho2, hg2⟩ := run_append_fits (P := Try.prog) w.drew base 31 31 38 i0 2 Try.underlying31 hi0 hz1 g i d (rkCs enP (l.take i)) (by have := ho1; unfold PlO RkO at this; rw [List.length_take, Nat.min_eq_left (by omega)] at this; exact this) A (l.length - (i + 1)) (d - (i + 1)) news
    (by rw [hnews, rkCs_len enP_len, List.length_drop]) hsrc.out (fun u hu => rkCs_one enP_one _ u (by rw [← hnews]; exact hu)) (by omega)
  rw [show i + (l.length - (i + 1)) = l.length - 1 by omega] at hrun ho2
  have ho3 : PlO base w1 (some ⟨g, 0, none⟩) d (wo1 l i) := by
    unfold PlO RkO
    rw [wo1_len hi]
    unfold wo1
    rw [rkCs_append, ← hnews]
    exact ho2
  obtain ⟨cur1, hr1, -, -, -, hsz1, htk1⟩ := ho3.open_
  have hin : (l.length - 1) * 2 + 2 ≤ cur1.size := by rw [hsz1]; omega
  have hcl : ∀ ty, (Builtin.clear_ #[31] ty #[.slice (some ⟨g, (l.length - 1) * 2, none⟩) 1 (d - (l.length - 1))]).run Try.prog w1 = .ok (.tuple #[]) (w1.setCells g ((l.length - 1) * 2) [.int .u64 0, .int .i64 0]) := fun ty =>
    run_clear2 w1 _ _ ty (.int .u64 0) (.int .i64 0) Try.underlying31 Try.zeroValue38 rfl rfl g _ _ (by rw [hr1.cell, Array.getElem?_eq_getElem (by omega)]; rfl) (by rw [hr1.cell, Array.getElem?_eq_getElem (by omega)]; rfl) (hr1.free _) (hr1.free _)
  have hrow2 := Row.puts [.int .u64 0, .int .i64 0] ((l.length - 1) * 2) hr1
  have hfin : PlO base (w1.setCells g ((l.length - 1) * 2) [.int .u64 0, .int .i64 0]) (some ⟨g, 0, none⟩) d (wo1 l i) := RkO.make enP_len hrow2 hb (by rw [wo1_len hi]; omega) hdm (by rw [layC_size, hsz1]) fun j hj => by
    rw [wo1_len hi] at hj
    rw [layC_get _ _ _ _ (by simpa using hin), if_neg (by omega), RkO.at_ enP_len htk1 (j := j) (by rw [wo1_len hi]; exact hj)]
  have hgr : w.grownBy (w1.setCells g ((l.length - 1) * 2) [.int .u64 0, .int .i64 0]) (some g) := by
    have k2 := grown_setCells g [.int .u64 0, .int .i64 0] ((l.length - 1) * 2) w1
    exact ⟨k2.os.trans hg2.os, k2.tape.trans hg2.tape, k2.output.trans hg2.output, Nat.le_trans hg2.size k2.size, fun k hk hne => (k2.block k (Nat.lt_of_lt_of_le hk hg2.size) hne).trans (hg2.block k hk hne)⟩
  have HF := Lib.hid hfin
  have HG := Lib.hid hgr
  generalize hW2 : w1.setCells g ((l.length - 1) * 2) [.int .u64 0, .int .i64 0] = W2 at *
  clear hfin hgr hrow2 htk1 hsz1 hr1 ho3 ho2 hg2 hnews hs ho1 htk hsz hr hW2 hin
  have hdi : i ≤ d := by omega
  have hdi1 : i + 1 ≤ d := by omega
  have hbi0 : (0 : Int) ≤ (i : Int) + 1 := by omega
  have hbi1 : (i : Int) + 1 ≤ (l.length : Int) := by omega
  go_enter Try.func29, Try.ntmps29
  go_upto_region 5 with fail
  go_region_law (refine step_append_run rfl (.tmp 22) (.tmp 25) 31 31 rfl _ _ (by simp [Act.eval, Act.put]) (by simp [Act.eval, Act.put]) hrun ?_)
  have hl1 : 1 ≤ l.length := by omega
  have hsub : ((l.length - 1 : Nat) : Int) = (l.length : Int) - 1 := by omega
  have hdl : l.length - 1 ≤ d := by omega
  have hll : l.length - (l.length - 1) = 1 := by omega
  have hne : ¬ d = l.length - 1 := by omega
  go_wp2_with (at_builtin; refine wpList_clear_run _ rfl _ _ rfl _ (by simp [Act.eval, Act.put]) (hcl _) ?_)
  go_ret
  exact ⟨rfl, HF.out, HG.out⟩
end Go.Proofs.Ytaikjobebbighaa
namespace Go.Proofs.Ytaikjobebbighaa
set_option linter.unusedVariables false
set_option maxRecDepth 100000
open Go.RowKit
/-- copy, at elements of k cells: all is read before anything is written. -/
theorem run_copyK {P : Program} (w : World) (dT sT ty elem : TypeId) (k b o dLen dCap : Nat) (a : Addr) (sLen sCap n : Nat) (cs : List Value)
    (hu : P.underlying dT = some (.slice elem)) (hs : (P.info? elem).map (·.size) = some k) (hm : Nat.min sLen dLen = n) (hn : cs.length = n * k)
    (hsrc : ∀ j v, cs[j]? = some v → w.cell? (a.add j) = some v) (hc : ∀ j, j < cs.length → (w.cell? ⟨b, o + j, none⟩).isSome = true) (hf : ∀ j, j < cs.length → w.frozen? ⟨b, o + j, none⟩ = false) (h1 : ∀ v ∈ cs, v.oneCell' = true) :
    (Builtin.copy_ #[dT, sT] ty #[.slice (some ⟨b, o, none⟩) dLen dCap, .slice (some a) sLen sCap]).run P w = .ok (goInt n) (w.setCells b o cs) := by
  have hfc := run_firstCells_some (P := P) w k n a sLen sCap cs hn hsrc
  have hst := run_storeCells_cells (P := P) b o cs 0 w (by simpa using hc) (by simpa using hf) h1
  cases hq : P.info? elem with
  | none => simp [hq] at hs
  | some i =>
    have hi : i.size = k := by simpa [hq] using hs
    simp [Builtin.copy_, run_underlying hu, Builtin.lenOf, sizeOf, typeInfo, hq, hi, hm, hfc, hst]
/-- With one more, at a place. -/
def insT (l : List Pl) (i : Nat) (x : Pl) : List Pl := l.take i ++ x :: l.drop i
theorem insT_len {l : List Pl} {i : Nat} (hi : i ≤ l.length) (x : Pl) : (insT l i x).length = l.length + 1 := by unfold insT; simp; omega
theorem insT_end (l : List Pl) (x : Pl) : insT l l.length x = l ++ [x] := by unfold insT; simp
theorem insT_get (l : List Pl) (i : Nat) (hi : i ≤ l.length) (x : Pl) (j : Nat) : (rkCs enP (insT l i x))[j]? = if j < i * 2 then (rkCs enP l)[j]? else if j < (i + 1) * 2 then (enP x)[j - i * 2]? else (rkCs enP (l.drop i))[j - (i + 1) * 2]? := by
  have e : rkCs enP (insT l i x) = rkCs enP (l.take i) ++ (enP x ++ rkCs enP (l.drop i)) := by unfold insT; rw [rkCs_append]; rfl
  have hl1 : (rkCs enP (l.take i)).length = i * 2 := by rw [rkCs_len enP_len, List.length_take, Nat.min_eq_left hi]
  have hl2 : (enP x).length = 2 := rfl
  have e2 : rkCs enP l = rkCs enP (l.take i) ++ rkCs enP (l.drop i) := by rw [← rkCs_append, List.take_append_drop]
  rw [e]
  split
  · rw [List.getElem?_append_left (by omega), e2, List.getElem?_append_left (by omega)]
  · rw [List.getElem?_append_right (by omega), hl1]
    split
    · rw [List.getElem?_append_left (by omega)]
    · rw [List.getElem?_append_right (by omega), hl2, show j - i * 2 - 2 = j - (i + 1) * 2 by omega]
theorem addr0 (g n : Nat) : (⟨g, 0, none⟩ : Addr).add n = ⟨g, n, none⟩ := by unfold Addr.add; split <;> simp_all
theorem addrN (g o n : Nat) : (⟨g, o, none⟩ : Addr).add n = ⟨g, o + n, none⟩ := by unfold Addr.add; split <;> simp_all
set_option maxHeartbeats 4000000 in
/-- In place: there is room. -/
theorem insert_room (base g d : Nat) (l : List Pl) (i : Nat) (x : Pl) (v : Nat) (w : World) (h : PlO base w (some ⟨g, 0, none⟩) d l) (hi : i < l.length) (hroom : l.length + 1 ≤ d) (hv : Row w v 38 (enP x).toArray) (hvg : v ≠ g) (hl : l.length ≤ 1000000) :
    Calls Try.prog 47 #[.slice (some ⟨g, 0, none⟩) l.length d, .int .i64 i, .slice (some ⟨v, 0, none⟩) 1 1] w fun e w' => e = .returned (.slice (some ⟨g, 0, none⟩) (l.length + 1) d) ∧ PlO base w' (some ⟨g, 0, none⟩) d (insT l i x) ∧ w.grownBy w' (some g) := by
  obtain ⟨cur, hr, hb, hld, hdm, hsz, htk⟩ := h.open_
  have hmax : d ≤ 9223372036854775807 := by unfold maxLen at hdm; omega
  obtain ⟨i0, hi0, hz0, hz1, hz2⟩ := info_parts infoP
  have hsz2 : (Try.prog.info? 38).map (·.size) = some 2 := by rw [hi0]; simp [hz1]
  have hcur : ∀ j, j < cur.size → (cur[j]?).isSome = true := fun j hj => by rw [Array.getElem?_eq_getElem hj]; rfl
  have hdrop : (rkCs enP (l.drop i)).length = (l.length - i) * 2 := by rw [rkCs_len enP_len, List.length_drop]
  have hcd : ∀ j u, (rkCs enP (l.drop i))[j]? = some u → cur[i * 2 + j]? = some u := fun j u hu => by
    have hj := (List.getElem?_eq_some_iff.1 hu).1
    rw [RkO.at_ enP_len htk (by omega), show rkCs enP l = rkCs enP (l.take i) ++ rkCs enP (l.drop i) by rw [← rkCs_append, List.take_append_drop], List.getElem?_append_right (by rw [rkCs_len enP_len, List.length_take, Nat.min_eq_left (by omega)]; omega), rkCs_len enP_len, List.length_take, Nat.min_eq_left (by omega), Nat.add_sub_cancel_left]
    exact hu
  have hov : ∀ W lb cb, Row W v 38 (enP x).toArray → Row W g 38 cur → (callFunc 56 #[.slice (some ⟨v, 0, none⟩) 1 1, .slice (some ⟨g, (i + 1) * 2, none⟩) lb cb]).run Try.prog W = .ok (.value (.bool false)) W := fun W lb cb h1 h2 => by
    rw [run_callFunc_extern Try.func56 (by kernel_rfl) (by kernel_rfl) (by kernel_rfl) (e := Extern.SlicesOverlaps.overlaps #[31, 31] #[4]) (by kernel_rfl),
      Lib.run_overlaps_apart W 31 4 38 Try.underlying31 2 Try.sizeOf38 ⟨v, 0, none⟩ ⟨g, (i + 1) * 2, none⟩ 1 1 lb cb hvg 38 38 2 cur.size (by unfold World.shape?; rw [h1]; rfl) (by unfold World.shape?; rw [h2]) (by omega) (h1.free _) (h1.free _)]
    rfl
  have hov0 := fun lb cb => hov w lb cb hv hr
  have hmin1 : Nat.min (l.length + 1 - i) (l.length - i) = l.length - i := by show min _ _ = _; omega
  have hmin2 : Nat.min 1 (l.length + 1 - i) = 1 := by show min _ _ = _; omega
  have hcp1 : ∀ ty dc sc, (Builtin.copy_ #[31, 31] ty #[.slice (some ⟨g, (i + 1) * 2, none⟩) (l.length - i) dc, .slice (some ⟨g, i * 2, none⟩) (l.length + 1 - i) sc]).run Try.prog w.drew = .ok (goInt ((l.length - i : Nat) : Int)) (w.drew.setCells g ((i + 1) * 2) (rkCs enP (l.drop i))) := fun ty dc sc =>
    run_copyK w.drew _ _ ty 38 2 g ((i + 1) * 2) (l.length - i) dc ⟨g, i * 2, none⟩ (l.length + 1 - i) sc (l.length - i) (rkCs enP (l.drop i)) Try.underlying31 hsz2 hmin1 hdrop
      (fun j u hu => by rw [addrN]; exact (hr.drew.cell _).trans (hcd j u hu))
      (fun j hj => by rw [hr.drew.cell]; exact hcur _ (by rw [hsz]; rw [hdrop] at hj; omega)) (fun j hj => hr.drew.free _) (rkCs_one enP_one _)
  obtain ⟨W1, hW1⟩ : ∃ W1, w.drew.setCells g ((i + 1) * 2) (rkCs enP (l.drop i)) = W1 := ⟨_, rfl⟩
  have hr1 : Row W1 g 38 (layC cur ((i + 1) * 2) (rkCs enP (l.drop i))) := by rw [← hW1]; exact Row.puts _ _ hr.drew
  have hg1 : w.grownBy W1 (some g) := by
    have := grown_setCells g (rkCs enP (l.drop i)) ((i + 1) * 2) w.drew
    rw [hW1] at this
    exact ⟨this.os, this.tape, this.output, this.size, this.block⟩
  have hv1 : Row W1 v 38 (enP x).toArray := (hg1.block v hv.lt (fun e => hvg (by injection e))).trans hv
  have hcp2 : ∀ ty dc, (Builtin.copy_ #[31, 31] ty #[.slice (some ⟨g, i * 2, none⟩) (l.length + 1 - i) dc, .slice (some ⟨v, 0, none⟩) 1 1]).run Try.prog W1 = .ok (goInt 1) (W1.setCells g (i * 2) (enP x)) := fun ty dc =>
    run_copyK W1 _ _ ty 38 2 g (i * 2) (l.length + 1 - i) dc ⟨v, 0, none⟩ 1 1 1 (enP x) Try.underlying31 hsz2 hmin2 rfl
      (fun j u hu => by rw [addr0]; exact (hv1.cell j).trans (by simpa using hu))
      (fun j hj => by rw [hr1.cell, Array.getElem?_eq_getElem (by rw [layC_size, hsz]; simp [enP] at hj; omega)]; rfl) (fun j hj => hr1.free _) (enP_one x)
  obtain ⟨W2, hW2⟩ : ∃ W2, W1.setCells g (i * 2) (enP x) = W2 := ⟨_, rfl⟩
  have hr2 : Row W2 g 38 (layC (layC cur ((i + 1) * 2) (rkCs enP (l.drop i))) (i * 2) (enP x)) := by rw [← hW2]; exact Row.puts _ _ hr1
  have hfin : PlO base W2 (some ⟨g, 0, none⟩) d (insT l i x) := RkO.make enP_len hr2 hb (by rw [insT_len (by omega)]; exact hroom) hdm (by rw [layC_size, layC_size, hsz]) fun j hj => by
    rw [insT_len (by omega)] at hj
    rw [insT_get l i (by omega), layC_get _ _ _ _ (by rw [layC_size, hsz]; simp [enP]; omega), layC_get _ _ _ _ (by rw [hsz, hdrop]; omega), hdrop]
    have : (enP x).length = 2 := rfl
    rw [this]
    by_cases h1 : j < i * 2
    · rw [if_pos h1, if_neg (by omega), if_neg (by omega), RkO.at_ enP_len htk (by omega)]
    · rw [if_neg h1]
      by_cases h2 : j < (i + 1) * 2
      · rw [if_pos h2, if_pos (by omega)]
      · rw [if_neg h2, if_neg (by omega), if_pos (by omega)]
  have hgr : w.grownBy W2 (some g) := by
    have k2 := grown_setCells g (enP x) (i * 2) W1
    rw [hW2] at k2
    exact ⟨k2.os.trans hg1.os, k2.tape.trans hg1.tape, k2.output.trans hg1.output, Nat.le_trans hg1.size k2.size, fun k hk hne => (k2.block k (Nat.lt_of_lt_of_le hk hg1.size) hne).trans (hg1.block k hk hne)⟩
  rw [hW1] at hcp1
  rw [hW2] at hcp2
  have HF := Lib.hid hfin
  have HG := Lib.hid hgr
  clear hfin hgr hr2 hW2 hv1 hg1 hr1 hW1 hov hcd hdrop hcur hsz2 htk hsz hr hv h
  have hz1 : ¬ ((i : Int) = (l.length : Int)) := by omega
  have q1 : (i : Int) ≤ (l.length : Int) := by omega
  have q2 : (i : Int) ≤ (l.length : Int) + 1 := by omega
  have q3 : (i : Int) + 1 ≤ (l.length : Int) + 1 := by omega
  have q4 : (l.length : Int) + 1 ≤ (d : Int) := by omega
  have q5 : (0 : Int) ≤ (i : Int) + 1 := by omega
  have q6 : (0 : Int) ≤ (l.length : Int) + 1 := by omega
  have hb2 : ¬ (d = i + 1) := by omega
  have hb4 : ¬ (d = i) := by omega
  have q7 : decide ((d : Int) < (l.length : Int) + 1) = false := decide_eq_false (by omega)
  have hw1 : IntKind.i64.wrap ((i : Int) + 1) = (i : Int) + 1 := by rw [IntKind.wrap_i64]; omega
  have htn : ((i : Int) + 1).toNat = i + 1 := by omega
  go_enter Try.func47, Try.ntmps47
  go_wp2_with (simp only [hov0])
  go_region_law (refine step_copy_run rfl (.tmp 73) (.tmp 76) 31 31 rfl _ _ (by simp [Act.eval, Act.put]) (by simp [Act.eval, Act.put]) (hcp1 _ _ _) ?_)
  go_wp2_with (at_builtin; refine wpList_copy_run _ rfl _ _ 31 31 rfl _ _ (by simp [Act.eval, Act.put]) (by simp [Act.eval, Act.put]) (hcp2 _ _) ?_)
  go_ret
  exact ⟨rfl, HF.out, HG.out⟩
theorem zeros_sizeK (z : Value) (k : Nat) (hz : z.cells.size = k) (n : Nat) : (Builtin.zeroCells z.cells n).size = n * k := by
  simp [Builtin.zeroCells, hz]
set_option maxHeartbeats 4000000 in
/-- There is no room: a new row. -/
theorem insert_grow (base g d : Nat) (l : List Pl) (i : Nat) (x : Pl) (v : Nat) (w : World) (h : PlO base w (some ⟨g, 0, none⟩) d l) (hi : i < l.length) (hroom : d < l.length + 1) (hv : Row w v 38 (enP x).toArray) (hl : l.length ≤ 1000000) (hbs : base ≤ w.heap.size) :
    Calls Try.prog 47 #[.slice (some ⟨g, 0, none⟩) l.length d, .int .i64 i, .slice (some ⟨v, 0, none⟩) 1 1] w fun e w' => (∃ G, e = .returned (.slice (some ⟨w.heap.size, 0, none⟩) (l.length + 1) G) ∧ PlO base w' (some ⟨w.heap.size, 0, none⟩) G (insT l i x)) ∧ Below w.heap.size w w' := by
  obtain ⟨cur, hr, hb, hld, hdm, hsz, htk⟩ := h.open_
  have hd : d = l.length := by omega
  subst hd
  obtain ⟨i0, hi0, hz0, hz1, hz2⟩ := info_parts infoP
  have hsz2 : (Try.prog.info? 38).map (·.size) = some 2 := by rw [hi0]; simp [hz1]
  have htake : (rkCs enP (l.take i)).length = i * 2 := by rw [rkCs_len enP_len, List.length_take, Nat.min_eq_left (by omega)]
  have hdrop : (rkCs enP (l.drop i)).length = (l.length - i) * 2 := by rw [rkCs_len enP_len, List.length_drop]
  have hall : rkCs enP l = rkCs enP (l.take i) ++ rkCs enP (l.drop i) := by rw [← rkCs_append, List.take_append_drop]
  have hct : ∀ j u, (rkCs enP (l.take i))[j]? = some u → cur[j]? = some u := fun j u hu => by
    have hj := (List.getElem?_eq_some_iff.1 hu).1
    rw [RkO.at_ enP_len htk (by omega), hall, List.getElem?_append_left hj]
    exact hu
  have hcd : ∀ j u, (rkCs enP (l.drop i))[j]? = some u → cur[i * 2 + j]? = some u := fun j u hu => by
    have hj := (List.getElem?_eq_some_iff.1 hu).1
    rw [RkO.at_ enP_len htk (by omega), hall, List.getElem?_append_right (by omega), htake, Nat.add_sub_cancel_left]
    exact hu
  have hold : (Builtin.firstCells i0.size i (.slice (some ⟨g, 0, none⟩) i l.length)).run Try.prog w.drew = .ok (rkCs enP (l.take i)).toArray w.drew := by
    rw [hz1]
    exact run_firstCells_some w.drew 2 i ⟨g, 0, none⟩ i l.length _ htake fun j u hu => by rw [addr0]; exact (hr.drew.cell _).trans (hct j u hu)
  have hkk : (l.length : Int) + 1 - (i : Int) = ((l.length + 1 - i : Nat) : Int) := by omega
  have hik : i + (l.length + 1 - i) = l.length + 1 := by omega
  obtain ⟨G, hG⟩ : ∃ G, grownCap w (l.length + 1) l.length 38 = G := ⟨_, rfl⟩
  have hGn : l.length + 1 ≤ G := by rw [← hG]; exact grownCap_ge w _ _ _
  have hGm : G ≤ maxLen := by rw [← hG]; exact grownCap_le_maxLen w _ _ _ (by unfold maxLen; omega)
  have hGm' : G ≤ 9223372036854775807 := by unfold maxLen at hGm; omega
  obtain ⟨ROW, hROW⟩ : ∃ ROW : Array Value, (rkCs enP (l.take i)).toArray ++ Builtin.zeroCells (Value.agg #[.int .u64 0, .int .i64 0]).cells (l.length + 1 - i) ++ Builtin.zeroCells (Value.agg #[.int .u64 0, .int .i64 0]).cells (G - (l.length + 1)) = ROW := ⟨_, rfl⟩
  have hRs : ROW.size = G * 2 := by
    rw [← hROW, Array.size_append, Array.size_append, zeros_sizeK _ 2 rfl, zeros_sizeK _ 2 rfl, List.size_toArray, htake]
    omega
  have hRt : ∀ j, j < i * 2 → ROW[j]? = (rkCs enP (l.take i))[j]? := fun j hj => by
    rw [← hROW, Array.append_assoc, Array.getElem?_append_left (by rw [List.size_toArray]; omega), List.getElem?_toArray]
  have hrz : ∀ ty, (Builtin.append_ #[31, 3] ty #[.slice (some ⟨g, 0, none⟩) i l.length, .int .i64 ((l.length + 1 - i : Nat) : Int)]).run Try.prog w =
      .ok (.slice (some ⟨w.heap.size, 0, none⟩) (l.length + 1) G) (w.drew.alloc (.cells ROW 38)) := fun ty => by
    have h := Lib.run_append_grow_zeros w 31 3 ty 38 i0 _ .i64 .i64 Try.underlying31 Try.underlying3 hi0 hz0 (some ⟨g, 0, none⟩) i l.length (rkCs enP (l.take i)) hold (l.length + 1 - i) (by omega) (by rw [hz1]; decide) (by omega) (by omega)
      (by rw [hz2]; omega) (by rw [hz2]; exact growslice_fits (by omega) (by omega))
    rw [hik, hG, hROW] at h
    exact h
  obtain ⟨W1, hW1⟩ : ∃ W1, w.drew.alloc (.cells ROW 38) = W1 := ⟨_, rfl⟩
  obtain ⟨N, hN⟩ : ∃ N, w.heap.size = N := ⟨_, rfl⟩
  have hr1 : Row W1 N 38 ROW := by rw [← hW1, ← hN]; exact Row.new w.drew _ _
  have hb1 : Below N w W1 := by rw [← hW1, ← hN]; exact ((Below.refl w.heap.size w).drew).alloc (Nat.le_refl _) _
  have hv1 : Row W1 v 38 (enP x).toArray := hv.below hb1 (by rw [← hN]; exact hv.lt)
  have hgN : g ≠ N := by have := hr.lt; omega
  have hmin1 : Nat.min 1 (l.length + 1 - i) = 1 := by show min _ _ = _; omega
  have hmin2 : Nat.min (l.length - i) (l.length - i) = l.length - i := by show min _ _ = _; omega
  have hcpA : ∀ ty dc, (Builtin.copy_ #[31, 31] ty #[.slice (some ⟨N, i * 2, none⟩) (l.length + 1 - i) dc, .slice (some ⟨v, 0, none⟩) 1 1]).run Try.prog W1 = .ok (goInt 1) (W1.setCells N (i * 2) (enP x)) := fun ty dc =>
    run_copyK W1 _ _ ty 38 2 N (i * 2) (l.length + 1 - i) dc ⟨v, 0, none⟩ 1 1 1 (enP x) Try.underlying31 hsz2 hmin1 rfl
      (fun j u hu => by rw [addr0]; exact (hv1.cell j).trans (by simpa using hu))
      (fun j hj => by rw [hr1.cell, Array.getElem?_eq_getElem (by rw [hRs]; simp [enP] at hj; omega)]; rfl) (fun j hj => hr1.free _) (enP_one x)
  obtain ⟨W2, hW2⟩ : ∃ W2, W1.setCells N (i * 2) (enP x) = W2 := ⟨_, rfl⟩
  have hr2 : Row W2 N 38 (layC ROW (i * 2) (enP x)) := by rw [← hW2]; exact Row.puts _ _ hr1
  have hg2 : W1.grownBy W2 (some N) := by rw [← hW2]; exact grown_setCells N (enP x) (i * 2) W1
  have hrg2 : Row W2 g 38 cur := by
    have h1 : Row W1 g 38 cur := hr.below hb1 (by rw [← hN]; exact hr.lt)
    exact (hg2.block g h1.lt (fun e => hgN (by injection e))).trans h1
  have hcpB : ∀ ty dc sc, (Builtin.copy_ #[31, 31] ty #[.slice (some ⟨N, (i + 1) * 2, none⟩) (l.length - i) dc, .slice (some ⟨g, i * 2, none⟩) (l.length - i) sc]).run Try.prog W2.drew = .ok (goInt ((l.length - i : Nat) : Int)) (W2.drew.setCells N ((i + 1) * 2) (rkCs enP (l.drop i))) := fun ty dc sc =>
    run_copyK W2.drew _ _ ty 38 2 N ((i + 1) * 2) (l.length - i) dc ⟨g, i * 2, none⟩ (l.length - i) sc (l.length - i) (rkCs enP (l.drop i)) Try.underlying31 hsz2 hmin2 hdrop
      (fun j u hu => by rw [addrN]; exact (hrg2.drew.cell _).trans (hcd j u hu))
      (fun j hj => by rw [hr2.drew.cell, Array.getElem?_eq_getElem (by rw [layC_size, hRs]; rw [hdrop] at hj; omega)]; rfl) (fun j hj => hr2.drew.free _) (rkCs_one enP_one _)
  obtain ⟨W3, hW3⟩ : ∃ W3, W2.drew.setCells N ((i + 1) * 2) (rkCs enP (l.drop i)) = W3 := ⟨_, rfl⟩
  have hr3 : Row W3 N 38 (layC (layC ROW (i * 2) (enP x)) ((i + 1) * 2) (rkCs enP (l.drop i))) := by rw [← hW3]; exact Row.puts _ _ hr2.drew
  have hg3 : W2.grownBy W3 (some N) := by
    have := grown_setCells N (rkCs enP (l.drop i)) ((i + 1) * 2) W2.drew
    rw [hW3] at this
    exact ⟨this.os, this.tape, this.output, this.size, this.block⟩
  have hfin : PlO base W3 (some ⟨N, 0, none⟩) G (insT l i x) := RkO.make enP_len hr3 (by rw [← hN]; exact hbs) (by rw [insT_len (by omega)]; exact hGn) hGm (by rw [layC_size, layC_size, hRs]) fun j hj => by
    rw [insT_len (by omega)] at hj
    rw [insT_get l i (by omega), layC_get _ _ _ _ (by rw [layC_size, hRs, hdrop]; omega), layC_get _ _ _ _ (by rw [hRs]; simp [enP]; omega), hdrop]
    have : (enP x).length = 2 := rfl
    rw [this]
    by_cases h1 : j < i * 2
    · rw [if_pos h1, if_neg (by omega), if_neg (by omega), hRt j h1, hall, List.getElem?_append_left (by omega)]
    · rw [if_neg h1]
      by_cases h2 : j < (i + 1) * 2
      · rw [if_pos h2, if_neg (by omega), if_pos (by omega)]
      · rw [if_neg h2, if_pos (by omega)]
  have hbw : Below N w W3 := (hb1.grown hg2 (by rw [← hN]; exact hb1.size) (fun j e => by injection e with e; omega)).grown hg3 (by rw [← hN]; exact Nat.le_trans hb1.size hg2.size) (fun j e => by injection e with e; omega)
  rw [hN] at hrz ⊢
  rw [hW1] at hrz
  rw [hW2] at hcpA
  rw [hW3] at hcpB
  have HF := Lib.hid hfin
  have HG := Lib.hid hbw
  clear hfin hbw hr3 hg3 hW3 hrg2 hg2 hr2 hW2 hgN hv1 hb1 hr1 hW1 hRt hRs hROW hG hold hcd hct hall hdrop htake hsz2 htk hsz hr hv h hN hbs
  have hz1 : ¬ ((i : Int) = (l.length : Int)) := by omega
  have q1 : (i : Int) ≤ (l.length : Int) := by omega
  have q2 : (i : Int) ≤ (l.length : Int) + 1 := by omega
  have q3 : (i : Int) + 1 ≤ (l.length : Int) + 1 := by omega
  have q5 : (0 : Int) ≤ (i : Int) + 1 := by omega
  have hb2 : ¬ (G = i + 1) := by omega
  have hb4 : ¬ (G = i) := by omega
  have hb5 : ¬ (l.length = i) := by omega
  have q7 : (l.length : Int) < (l.length : Int) + 1 := by omega
  have hw1 : IntKind.i64.wrap ((i : Int) + 1) = (i : Int) + 1 := by rw [IntKind.wrap_i64]; omega
  have htn : ((i : Int) + 1).toNat = i + 1 := by omega
  have qi : i ≤ l.length := by omega
  go_enter Try.func47, Try.ntmps47
  go_wp2_with (first
    | (at_builtin; refine Lib.wpList_append_run _ rfl _ _ 31 3 rfl _ _ (by simp [Act.eval]) (by simp [Act.eval]) _ _ (hrz _) ?_)
    | (at_builtin; refine wpList_copy_run _ rfl _ _ 31 31 rfl _ _ (by simp [Act.eval, Act.put]) (by simp [Act.eval, Act.put]) (hcpA _ _) ?_))
  go_region_law (refine step_copy_run rfl (.tmp 50) (.tmp 53) 31 31 rfl _ _ (by simp [Act.eval, Act.put]) (by simp [Act.eval, Act.put]) (hcpB _ _ _) ?_)
  go_wp2_with fail
  go_ret
  exact ⟨⟨G, rfl, HF.out⟩, HG.out⟩
end Go.Proofs.Ytaikjobebbighaa
namespace Go.Proofs.Ytaikjobebbighaa
set_option linter.unusedVariables false
set_option maxRecDepth 100000
open Go.RowKit
set_option maxHeartbeats 4000000 in
/-- Behind the last. -/
theorem insert_end (base : Nat) (B : Option Addr) (d : Nat) (l : List Pl) (x : Pl) (v : Nat) (w : World) (h : PlO base w B d l) (hv : Row w v 38 (enP x).toArray) (hl : l.length ≤ 1000000) (hbs : base ≤ w.heap.size) :
    Calls Try.prog 47 #[.slice B l.length d, .int .i64 l.length, .slice (some ⟨v, 0, none⟩) 1 1] w fun e w' => (∃ B' d', e = .returned (.slice B' (l.length + 1) d') ∧ PlO base w' B' d' (l ++ [x]) ∧ NearB w.heap.size B B') ∧ w.grownBy w' (Value.ownBlock (.slice B l.length d)) := by
  have hld : l.length ≤ d := by
    rcases h.form with ⟨_, e, el⟩ | ⟨g, _, _, _, e⟩
    · rw [el]; simp
    · exact e
  have hdm : d ≤ maxLen := by
    rcases h.2 with ⟨ev, _⟩ | ⟨g', cap, cur, ev, _, _, _, h4, _⟩
    · injection ev with _ _ e3; rw [e3]; unfold maxLen; omega
    · injection ev with _ _ e3; rw [e3]; exact h4
  have hdm' : d ≤ 9223372036854775807 := by unfold maxLen at hdm; omega
  have hs : PlS w (some ⟨v, 0, none⟩) [x] := RkS.of_row (t := 38) enP_len (by simpa [rkCs] using hv)
  have hrun : ∀ ty, ∃ B' d' w', (Builtin.append_ #[31, 31] ty #[.slice B l.length d, .slice (some ⟨v, 0, none⟩) 1 1]).run Try.prog w = .ok (.slice B' (l.length + 1) d') w' ∧ PlO base w' B' d' (l ++ [x]) ∧ w.grownBy w' (Value.ownBlock (.slice B l.length d)) ∧ NearB w.heap.size B B' := fun ty =>
    run_appK (ys := [x]) Try.underlying31 infoP rfl (by decide) (by decide) enP_len enP_one h ⟨v, 0, none⟩ 1 hs hbs (by simp; omega)
  obtain ⟨B', d', w2, hr, ho, hg, hn⟩ := hrun 31
  have HO := Lib.hid ho
  have HG := Lib.hid hg
  have HN := Lib.hid hn
  clear h hs hv hrun ho hg hn
  go_enter Try.func47, Try.ntmps47
  cases B with
  | none =>
    go_wp2_with (at_builtin; refine Lib.wpList_append_run _ rfl _ _ 31 31 rfl _ _ (by simp [Act.eval]) (by simp [Act.eval]) _ _ hr ?_)
    all_goals (go_ret; exact ⟨⟨_, _, rfl, HO.out, HN.out⟩, HG.out⟩)
  | some ad =>
    go_wp2_with (at_builtin; refine Lib.wpList_append_run _ rfl _ _ 31 31 rfl _ _ (by simp [Act.eval]) (by simp [Act.eval]) _ _ hr ?_)
    all_goals (go_ret; exact ⟨⟨_, _, rfl, HO.out, HN.out⟩, HG.out⟩)
/-- slices.Insert of one place: wherever, room or none. -/
theorem insert_any (base : Nat) (B : Option Addr) (d : Nat) (l : List Pl) (i : Nat) (x : Pl) (v : Nat) (w : World) (h : PlO base w B d l) (hi : i ≤ l.length) (hv : Row w v 38 (enP x).toArray) (hvb : ∀ g, B = some ⟨g, 0, none⟩ → v ≠ g) (hl : l.length ≤ 1000000) (hbs : base ≤ w.heap.size) :
    Calls Try.prog 47 #[.slice B l.length d, .int .i64 i, .slice (some ⟨v, 0, none⟩) 1 1] w fun e w' => (∃ B' d', e = .returned (.slice B' (l.length + 1) d') ∧ PlO base w' B' d' (insT l i x) ∧ NearB w.heap.size B B') ∧ w.grownBy w' (Value.ownBlock (.slice B l.length d)) := by
  by_cases he : i = l.length
  · subst he
    rw [insT_end]
    exact insert_end base B d l x v w h hv hl hbs
  · rcases h.form with ⟨_, _, el⟩ | ⟨g, rfl, _, _, hle⟩
    · subst el
      simp at hi he
      omega
    · by_cases hr : l.length + 1 ≤ d
      · refine (insert_room base g d l i x v w h (by omega) hr hv (hvb g rfl) hl).mono ?_
        rintro e w' ⟨rfl, ho, hg⟩
        exact ⟨⟨_, _, rfl, ho, NearB.same _ _⟩, hg⟩
      · refine (insert_grow base g d l i x v w h (by omega) (by omega) hv hl hbs).mono ?_
        rintro e w' ⟨⟨G, rfl, ho⟩, hb⟩
        exact ⟨⟨_, _, rfl, ho, NearB.new _ (Nat.le_refl _)⟩, ⟨hb.os, hb.tape, hb.output, hb.size, fun k hk _ => hb.block k hk⟩⟩
end Go.Proofs.Ytaikjobebbighaa
namespace Go.Proofs.Ytaikjobebbighaa
set_option linter.unusedVariables false
abbrev Rising (l : List Pl) : Prop := l.Pairwise (fun a b => a.1 < b.1)
/-- Put at its place. -/
def insR (x : Pl) : List Pl → List Pl
  | [] => [x]
  | y :: t => if y.1 < x.1 then y :: insR x t else x :: y :: t
theorem insR_is : ∀ (h : List Pl) (x : Pl) (i : Nat), AtIs h x.1 i → insT h i x = insR x h
  | [], x, i, hi => by
    have : i = 0 := by have := hi.1; simpa using this
    subst this
    rfl
  | y :: t, x, 0, hi => by
    have := hi.2.2 0 (by simp) (Nat.le_refl _)
    unfold insR
    rw [if_neg (by simp at this; omega)]
    rfl
  | y :: t, x, i + 1, hi => by
    have h0 := hi.2.1 0 (by simp) (by omega)
    unfold insR
    rw [if_pos (by simpa using h0), ← insR_is t x i ⟨by have := hi.1; simp at this; omega, fun j h1 h2 => by have := hi.2.1 (j + 1) (by simp; omega) (by omega); simpa using this, fun j h1 h2 => by have := hi.2.2 (j + 1) (by simp; omega) (by omega); simpa using this⟩]
    rfl
theorem insR_perm (x : Pl) : ∀ (h : List Pl), (insR x h).Perm (x :: h)
  | [] => List.Perm.refl _
  | y :: t => by
    unfold insR
    split
    · exact ((insR_perm x t).cons y).trans (List.Perm.swap x y t)
    · exact List.Perm.refl _
theorem insR_len (x : Pl) (h : List Pl) : (insR x h).length = h.length + 1 := (insR_perm x h).length_eq
theorem insR_mem {x y : Pl} {h : List Pl} : y ∈ insR x h ↔ y = x ∨ y ∈ h := by rw [(insR_perm x h).mem_iff]; simp
theorem sumM_perm {a b : List Pl} (h : a.Perm b) : sumM a = sumM b := by
  induction h with
  | nil => rfl
  | cons x _ ih => rw [sumM_cons, sumM_cons, ih]
  | swap x y l => rw [sumM_cons, sumM_cons, sumM_cons, sumM_cons]; omega
  | trans _ _ h1 h2 => rw [h1, h2]
theorem sumM_insR (x : Pl) (h : List Pl) : sumM (insR x h) = x.2 + sumM h := by rw [sumM_perm (insR_perm x h), sumM_cons]
theorem insR_rise (x : Pl) : ∀ (h : List Pl), Rising h → (∀ y ∈ h, y.1 ≠ x.1) → Rising (insR x h)
  | [], _, _ => by unfold insR; simp [Rising]
  | y :: t, h1, h2 => by
    have h3 := List.pairwise_cons.1 h1
    unfold insR
    split
    · rename_i hlt
      refine List.pairwise_cons.2 ⟨fun z hz => ?_, insR_rise x t h3.2 (fun z hz => h2 z (by simp [hz]))⟩
      rcases insR_mem.1 hz with rfl | hz
      · exact hlt
      · exact h3.1 z hz
    · rename_i hlt
      have hne := h2 y (by simp)
      refine List.pairwise_cons.2 ⟨fun z hz => ?_, h1⟩
      rcases List.mem_cons.1 hz with rfl | hz
      · omega
      · have := h3.1 z hz; omega
/-- Who is served: the holders then, the line then, who was. -/
def servesF (size : Int) : List Pl → List Pl → List Pl × List Pl × List Pl
  | h, [] => (h, [], [])
  | h, x :: l => if x.2 ≤ leftI size h then ((servesF size (insR x h) l).1, (servesF size (insR x h) l).2.1, x :: (servesF size (insR x h) l).2.2) else (h, x :: l, [])
theorem servesF_yes {size : Int} {h : List Pl} {x : Pl} {l : List Pl} (hx : x.2 ≤ leftI size h) : servesF size h (x :: l) = ((servesF size (insR x h) l).1, (servesF size (insR x h) l).2.1, x :: (servesF size (insR x h) l).2.2) := by
  rw [servesF, if_pos hx]
theorem servesF_no {size : Int} {h : List Pl} {x : Pl} {l : List Pl} (hx : ¬ x.2 ≤ leftI size h) : servesF size h (x :: l) = (h, x :: l, []) := by
  rw [servesF, if_neg hx]
/-- A pool that may be. -/
structure PoolOk (size : Int) (h l : List Pl) : Prop where
  rise : Rising h
  apart : ∀ x ∈ l, ∀ y ∈ h, y.1 ≠ x.1
  dist : l.Pairwise (fun a b => a.1 ≠ b.1)
  few : h.length + l.length ≤ 100000
  hs : ∀ x ∈ h, 1 ≤ x.2 ∧ x.2 ≤ 1048576
  ls : ∀ x ∈ l, 1 ≤ x.2 ∧ x.2 ≤ 1048576
  s0 : 0 ≤ size
  s1 : size ≤ 1048576
theorem PoolOk.step {size : Int} {h l : List Pl} {x : Pl} (k : PoolOk size h (x :: l)) : PoolOk size (insR x h) l := by
  have hd := List.pairwise_cons.1 k.dist
  refine ⟨insR_rise x h k.rise (k.apart x (by simp)), fun z hz y hy => ?_, hd.2, ?_, fun z hz => ?_, fun z hz => k.ls z (by simp [hz]), k.s0, k.s1⟩
  · rcases insR_mem.1 hy with rfl | hy
    · exact hd.1 z hz
    · exact k.apart z (by simp [hz]) y hy
  · rw [insR_len]; have := k.few; simp at this; omega
  · rcases insR_mem.1 hz with rfl | hz
    · exact k.ls _ (by simp)
    · exact k.hs z hz
theorem servesF_ok {size : Int} : ∀ {l h : List Pl}, PoolOk size h l → PoolOk size (servesF size h l).1 (servesF size h l).2.1
  | [], h, k => k
  | x :: l, h, k => by
    by_cases hx : x.2 ≤ leftI size h
    · rw [servesF_yes hx]; exact servesF_ok k.step
    · rw [servesF_no hx]; exact k
/-- Behind a serving the first in line asks for more than is free. -/
theorem servesF_head {size : Int} : ∀ {l h : List Pl} {x : Pl} {t : List Pl}, (servesF size h l).2.1 = x :: t → leftI size (servesF size h l).1 < x.2
  | [], h, x, t, e => by simp [servesF] at e
  | y :: l, h, x, t, e => by
    by_cases hx : y.2 ≤ leftI size h
    · rw [servesF_yes hx] at e ⊢; exact servesF_head (l := l) e
    · rw [servesF_no hx] at e ⊢
      simp only [List.cons.injEq] at e
      obtain ⟨rfl, -⟩ := e
      show leftI size h < _
      omega
/-- The line is what was served, then what waits. -/
theorem servesF_line {size : Int} : ∀ (l h : List Pl), l = (servesF size h l).2.2 ++ (servesF size h l).2.1
  | [], h => rfl
  | x :: l, h => by
    by_cases hx : x.2 ≤ leftI size h
    · rw [servesF_yes hx]
      exact congrArg (x :: ·) (servesF_line l (insR x h))
    · rw [servesF_no hx]; rfl
/-- Holders then: those of before, and who was served. -/
theorem servesF_perm {size : Int} : ∀ (l h : List Pl), (servesF size h l).1.Perm ((servesF size h l).2.2 ++ h)
  | [], h => List.Perm.refl _
  | x :: l, h => by
    by_cases hx : x.2 ≤ leftI size h
    · rw [servesF_yes hx]
      refine (servesF_perm l (insR x h)).trans ?_
      refine ((insR_perm x h).append_left _).trans ?_
      exact List.perm_middle
    · rw [servesF_no hx]; exact List.Perm.refl _
/-- Holders have no more than the size, if they had no more, or else nobody is served. -/
theorem servesF_sum {size : Int} : ∀ {l h : List Pl}, (∀ x ∈ l, 1 ≤ x.2) → sumM (servesF size h l).1 ≤ size ∨ (servesF size h l) = (h, l, [])
  | [], h, _ => .inr rfl
  | x :: l, h, hl => by
    by_cases hx : x.2 ≤ leftI size h
    · rw [servesF_yes hx]
      refine .inl ?_
      have h1 := hl x (by simp)
      unfold leftI at hx
      rcases servesF_sum (l := l) (h := insR x h) (fun y hy => hl y (by simp [hy])) with h2 | h2
      · exact h2
      · rw [h2]; show sumM (insR x h) ≤ size; rw [sumM_insR]; omega
    · exact .inr (servesF_no hx)
end Go.Proofs.Ytaikjobebbighaa
namespace Go.Proofs.Ytaikjobebbighaa
set_option linter.unusedVariables false
/-- A pool. -/
structure Pst where
  size : Int
  h : List Pl
  l : List Pl
/-- A pool that may be, whose line is served. -/
structure Good (s : Pst) : Prop where
  ok : PoolOk s.size s.h s.l
  head : ∀ x t, s.l = x :: t → leftI s.size s.h < x.2
def serveP (size : Int) (h l : List Pl) : Pst := ⟨size, (servesF size h l).1, (servesF size h l).2.1⟩
theorem serveP_good {size : Int} {h l : List Pl} (k : PoolOk size h l) : Good (serveP size h l) := ⟨servesF_ok k, fun x t e => servesF_head e⟩
theorem PoolOk.resize {size n : Int} {h l : List Pl} (k : PoolOk size h l) (h0 : 0 ≤ n) (h1 : n ≤ 1048576) : PoolOk n h l := ⟨k.rise, k.apart, k.dist, k.few, k.hs, k.ls, h0, h1⟩
theorem PoolOk.ask {size : Int} {h l : List Pl} {x : Pl} (k : PoolOk size h l) (hf : h.length + l.length + 1 ≤ 100000) (hh : ∀ y ∈ h, y.1 ≠ x.1) (hl : ∀ y ∈ l, y.1 ≠ x.1) (h1 : 1 ≤ x.2) (h2 : x.2 ≤ size) : PoolOk size h (l ++ [x]) := by
  refine ⟨k.rise, fun z hz y hy => ?_, ?_, by rw [List.length_append, List.length_singleton]; omega, k.hs, fun z hz => ?_, k.s0, k.s1⟩
  · rcases List.mem_append.1 hz with hz | hz
    · exact k.apart z hz y hy
    · rw [List.mem_singleton] at hz; subst hz; exact hh y hy
  · exact List.pairwise_append.2 ⟨k.dist, List.pairwise_singleton _ _, fun y hy z hz => by rw [List.mem_singleton] at hz; subst hz; exact hl y hy⟩
  · rcases List.mem_append.1 hz with hz | hz
    · exact k.ls z hz
    · rw [List.mem_singleton] at hz; subst hz
      have := k.s1
      omega
theorem wo1_sub (l : List Pl) (i : Nat) : (wo1 l i).Sublist l := by
  unfold wo1
  have h1 : (l.drop (i + 1)).Sublist (l.drop i) := by rw [← List.drop_drop]; exact List.drop_sublist _ _
  have := (List.Sublist.refl (l.take i)).append h1
  rwa [List.take_append_drop] at this
theorem PoolOk.less {size : Int} {h l h2 l2 : List Pl} (k : PoolOk size h l) (hh : h2.Sublist h) (hl : l2.Sublist l) : PoolOk size h2 l2 :=
  ⟨k.rise.sublist hh, fun x hx y hy => k.apart x (hl.subset hx) y (hh.subset hy), k.dist.sublist hl, by have := hh.length_le; have := hl.length_le; have := k.few; omega, fun x hx => k.hs x (hh.subset hx), fun x hx => k.ls x (hl.subset hx), k.s0, k.s1⟩
/-- Behind somebody in line an asker is not served alone: the line stands. -/
theorem servesF_stands {size : Int} {h l : List Pl} (hh : ∀ x t, l = x :: t → leftI size h < x.2) : servesF size h l = (h, l, []) := by
  rcases l with _ | ⟨x, t⟩
  · rfl
  · exact servesF_no (by have := hh x t rfl; omega)
theorem servesF_snoc {size : Int} {h l : List Pl} (x : Pl) (hne : l ≠ []) (hh : ∀ x t, l = x :: t → leftI size h < x.2) : servesF size h (l ++ [x]) = (h, l ++ [x], []) := servesF_stands fun y t e => by
  rcases l with _ | ⟨z, t2⟩
  · exact absurd rfl hne
  · simp only [List.cons_append, List.cons.injEq] at e
    rw [← e.1]
    exact hh z t2 rfl
end Go.Proofs.Ytaikjobebbighaa
namespace Go.Proofs.Ytaikjobebbighaa
set_option linter.unusedVariables false
theorem placeI_uniq {l : List Pl} {t q q' : Int} (h : placeI l t q) (h' : placeI l t q') : q = q' := by
  rcases h with ⟨rfl, h⟩ | ⟨k, hk, rfl, e, h⟩ <;> rcases h' with ⟨rfl, h'⟩ | ⟨k', hk', rfl, e', h'⟩
  · rfl
  · exact absurd e' (h k' hk')
  · exact absurd e (h' k hk)
  · by_cases h1 : k < k'
    · exact absurd e (h' k hk h1)
    · by_cases h2 : k' < k
      · exact absurd e' (h k' hk' h2)
      · have : k = k' := by omega
        rw [this]
def placeN : List Pl → Int → Nat → Int
  | [], _, _ => -1
  | x :: l, t, n => if x.1 = t then (n : Int) else placeN l t (n + 1)
def placeV (l : List Pl) (t : Int) : Int := placeN l t 0
theorem placeN_is (t : Int) : ∀ (l : List Pl) (n : Nat), (placeN l t n = -1 ∧ ∀ j (h : j < l.length), (l[j]).1 ≠ t) ∨ ∃ (k : Nat) (h : k < l.length), placeN l t n = ((n + k : Nat) : Int) ∧ (l[k]).1 = t ∧ ∀ j (h : j < l.length), j < k → (l[j]).1 ≠ t
  | [], n => .inl ⟨rfl, fun j h => absurd h (by simp)⟩
  | x :: l, n => by
    unfold placeN
    by_cases hx : x.1 = t
    · rw [if_pos hx]
      exact .inr ⟨0, by simp, rfl, hx, fun j h h2 => absurd h2 (by omega)⟩
    · rw [if_neg hx]
      rcases placeN_is t l (n + 1) with ⟨e, h⟩ | ⟨k, hk, e, h1, h2⟩
      · refine .inl ⟨e, fun j hj => ?_⟩
        rcases j with _ | j
        · exact hx
        · exact h j (by simpa using hj)
      · refine .inr ⟨k + 1, by simp; omega, by rw [e]; congr 1; omega, h1, fun j hj h3 => ?_⟩
        rcases j with _ | j
        · exact hx
        · exact h2 j (by simpa using hj) (by omega)
theorem placeV_is (l : List Pl) (t : Int) : placeI l t (placeV l t) := by
  rcases placeN_is t l 0 with ⟨e, h⟩ | ⟨k, hk, e, h1, h2⟩
  · exact .inl ⟨e, h⟩
  · exact .inr ⟨k, hk, by unfold placeV; rw [e]; simp, h1, h2⟩
theorem placeI_val {l : List Pl} {t q : Int} (h : placeI l t q) : q = placeV l t := placeI_uniq h (placeV_is l t)
theorem placeV_neg {l : List Pl} {t : Int} : placeV l t < 0 ↔ ∀ x ∈ l, x.1 ≠ t := by
  constructor
  · intro h x hx e
    obtain ⟨j, hj, rfl⟩ := List.getElem_of_mem hx
    rcases placeV_is l t with ⟨_, h1⟩ | ⟨k, hk, e1, _, _⟩
    · exact h1 j hj e
    · omega
  · intro h
    rcases placeV_is l t with ⟨e, h1⟩ | ⟨k, hk, e1, e2, _⟩
    · omega
    · exact absurd e2 (h _ (List.getElem_mem hk))
end Go.Proofs.Ytaikjobebbighaa
