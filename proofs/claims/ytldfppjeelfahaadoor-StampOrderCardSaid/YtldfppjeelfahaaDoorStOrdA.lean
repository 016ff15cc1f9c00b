/- The walk of StampOrder behind both moments that may be. StampOrder: moments and clocks are one to one; texts are in order as moments are; and with one number of a clock changed it is another moment's, or none's. Condition: the library's three tables lie as their initialisers lay them (tied by the card). -/
import Derived.Test.YtldfppjeelfahaaDoorStTie
namespace Go.Proofs.YtldfppjeelfahaaDoor.stampOrder
open Go.ChangeShapes Go.WideShapes Go.ChangeAt Go.RowKit
set_option linter.unusedVariables false

theorem mom_lex {y m d h mi s y' m' d' h' mi' s' : Int} (hm : mayB y m d = true) (hr : rngB h mi s = true) (hm' : mayB y' m' d' = true) (hr' : rngB h' mi' s' = true) (hlt : momI y m d h mi s < momI y' m' d' h' mi' s') :
    y < y' ∨ y = y' ∧ (m < m' ∨ m = m' ∧ (d < d' ∨ d = d' ∧ (h < h' ∨ h = h' ∧ (mi < mi' ∨ mi = mi' ∧ s < s')))) := by
  have r := rngB_iff.1 hr
  have r' := rngB_iff.1 hr'
  unfold momI at hlt
  by_cases h1 : y < y' ∨ y = y' ∧ (m < m' ∨ m = m' ∧ d < d')
  · rcases h1 with h1 | ⟨h1, h2 | ⟨h2, h3⟩⟩
    · exact .inl h1
    · exact .inr ⟨h1, .inl h2⟩
    · exact .inr ⟨h1, .inr ⟨h2, .inl h3⟩⟩
  · by_cases h2 : y' < y ∨ y' = y ∧ (m' < m ∨ m' = m ∧ d' < d)
    · have := num_lt hm' hm h2
      exfalso
      omega
    · have e1 : y = y' := by omega
      subst e1
      have e2 : m = m' := by omega
      subst e2
      have e3 : d = d' := by omega
      subst e3
      refine .inr ⟨rfl, .inr ⟨rfl, .inr ⟨rfl, ?_⟩⟩⟩
      omega

theorem text_lt {y m d h mi s y' m' d' h' mi' s' : Int} (hm : mayB y m d = true) (hr : rngB h mi s = true) (hm' : mayB y' m' d' = true) (hr' : rngB h' mi' s' = true) (hlt : momI y m d h mi s < momI y' m' d' h' mi' s') :
    txtL y m d h mi s < txtL y' m' d' h' mi' s' := by
  obtain ⟨b1, b2, b3, b4, b5, b6, -⟩ := mayB_bds hm
  obtain ⟨c1, c2, c3, c4, c5, c6, -⟩ := mayB_bds hm'
  obtain ⟨r1, r2, r3, r4, r5, r6⟩ := rngB_iff.1 hr
  obtain ⟨s1, s2, s3, s4, s5, s6⟩ := rngB_iff.1 hr'
  exact txt_lt (by omega) (by omega) (by omega) (by omega) (by omega) (by omega) (by omega) (by omega) (by omega) (by omega) (by omega) (by omega) (mom_lex hm hr hm' hr' hlt)

theorem lss_bts (a b : List UInt8) : Op.bytesLess (bts a).toList (bts b).toList = decide (a < b) := by
  simp only [bytesLess_eq, Lib.toList_data, bts_data]

/-- What the worlds of the great test have. -/
def OrdS (w w' : World) (ga gb : Nat) (A B : Array Value) : Prop := Below w.heap.size w w' ∧ Tab w' ∧ Row w' ga 25 A ∧ Row w' gb 25 B
theorem OrdS.drew {w w' : World} {ga gb : Nat} {A B : Array Value} (h : OrdS w w' ga gb A B) : OrdS w w'.drew ga gb A B := ⟨h.1.drew, h.2.1.drew, h.2.2.1.drew, h.2.2.2.drew⟩
theorem ord_all {w0 w : World} {ga gb : Nat} {a0 a1 a2 a3 a4 a5 a6 b0 b1 b2 b3 b4 b5 b6 : Value} (h : OrdS w0 w ga gb #[a0, a1, a2, a3, a4, a5, a6] #[b0, b1, b2, b3, b4, b5, b6]) :
    w.cell? ⟨ga, 0, none⟩ = some a0 ∧ w.cell? ⟨ga, 1, none⟩ = some a1 ∧ w.cell? ⟨ga, 2, none⟩ = some a2 ∧ w.cell? ⟨ga, 3, none⟩ = some a3 ∧ w.cell? ⟨ga, 4, none⟩ = some a4 ∧ w.cell? ⟨ga, 5, none⟩ = some a5 ∧ w.cell? ⟨ga, 6, none⟩ = some a6 ∧ w.cell? ⟨gb, 0, none⟩ = some b0 ∧ w.cell? ⟨gb, 1, none⟩ = some b1 ∧ w.cell? ⟨gb, 2, none⟩ = some b2 ∧ w.cell? ⟨gb, 3, none⟩ = some b3 ∧ w.cell? ⟨gb, 4, none⟩ = some b4 ∧ w.cell? ⟨gb, 5, none⟩ = some b5 ∧ w.cell? ⟨gb, 6, none⟩ = some b6 ∧ OrdS w0 w ga gb #[a0, a1, a2, a3, a4, a5, a6] #[b0, b1, b2, b3, b4, b5, b6] := by
  have ka := fun o => h.2.2.1.cell o
  have kb := fun o => h.2.2.2.cell o
  exact ⟨ka 0, ka 1, ka 2, ka 3, ka 4, ka 5, ka 6, kb 0, kb 1, kb 2, kb 3, kb 4, kb 5, kb 6, h⟩
theorem ord_of {w0 w : World} {ga gb : Nat} {p1 p2 p3 p4 p5 p6 p7 q1 q2 q3 q4 q5 q6 q7 : Prop} {A B : Array Value} (h : p1 ∧ p2 ∧ p3 ∧ p4 ∧ p5 ∧ p6 ∧ p7 ∧ q1 ∧ q2 ∧ q3 ∧ q4 ∧ q5 ∧ q6 ∧ q7 ∧ OrdS w0 w ga gb A B) : OrdS w0 w ga gb A B :=
  h.2.2.2.2.2.2.2.2.2.2.2.2.2.2
theorem ord_next {w0 w' w2 : World} {ga gb : Nat} {A B : Array Value} (h : OrdS w0 w' ga gb A B) (hb : Below w'.heap.size w' w2) : OrdS w0 w2 ga gb A B :=
  ⟨nextC h.1 hb, h.2.1.stays hb (Nat.le_refl _), h.2.2.1.over hb, h.2.2.2.over hb⟩

def eqB (y m d h mi sc wd y' m' d' h' mi' sc' wd' : Int) : Bool := decide (y = y' ∧ m = m' ∧ d = d' ∧ h = h' ∧ mi = mi' ∧ sc = sc' ∧ wd = wd')
theorem clock_eq {y m d h mi sc wd y' m' d' h' mi' sc' wd' : Int} (W : World) :
    (binOp .eql 25 (.agg #[.int .i64 y, .int .i64 m, .int .i64 d, .int .i64 h, .int .i64 mi, .int .i64 sc, .int .i64 wd]) (.agg #[.int .i64 y', .int .i64 m', .int .i64 d', .int .i64 h', .int .i64 mi', .int .i64 sc', .int .i64 wd'])).run Tryd.prog W =
      .ok (.bool (eqB y m d h mi sc wd y' m' d' h' mi' sc' wd')) W := by
  by_cases hd : y = y' ∧ m = m' ∧ d = d' ∧ h = h' ∧ mi = mi' ∧ sc = sc' ∧ wd = wd'
  · have e : eqB y m d h mi sc wd y' m' d' h' mi' sc' wd' = true := decide_eq_true hd
    rw [e]
    obtain ⟨rfl, rfl, rfl, rfl, rfl, rfl, rfl⟩ := hd
    rw [run_eql_struct]
    clear e
    go_simp
  have e : eqB y m d h mi sc wd y' m' d' h' mi' sc' wd' = false := decide_eq_false hd
  rw [e]
  clear e
  have hd' : y ≠ y' ∨ y = y' ∧ (m ≠ m' ∨ m = m' ∧ (d ≠ d' ∨ d = d' ∧ (h ≠ h' ∨ h = h' ∧ (mi ≠ mi' ∨ mi = mi' ∧ (sc ≠ sc' ∨ sc = sc' ∧ wd ≠ wd'))))) := by
    omega
  clear hd
  rw [run_eql_struct]
  rcases hd' with h1 | ⟨rfl, h1 | ⟨rfl, h1 | ⟨rfl, h1 | ⟨rfl, h1 | ⟨rfl, h1 | ⟨rfl, h1⟩⟩⟩⟩⟩⟩
  all_goals
    have hb := beq_eq_false_iff_ne.2 h1
    go_simp
attribute [local go_sem ↓] clock_eq

/-- Join's contract at one clock. -/
def JC (y m d h mi sc wd v e0 : Int) : Prop := ∀ W, Calls Tryd.prog 12 #[.agg #[.int .i64 y, .int .i64 m, .int .i64 d, .int .i64 h, .int .i64 mi, .int .i64 sc, .int .i64 wd]] W fun e w' => e = .returned (.tuple #[.int .i64 v, .int .i64 e0]) ∧ Below W.heap.size W w'
/-- A clock with one number changed: unchanged; no clock; another moment's. -/
def Rest (cur b s : Int) (J : Int → Int → Int → Prop) : Prop :=
  (wrap64 (cur + b) = cur ∧ (b == 0) = true) ∨ (∃ z v, wrap64 (cur + b) = z ∧ (b == 0) = false ∧ J z v 2) ∨ (∃ z v, wrap64 (cur + b) = z ∧ (b == 0) = false ∧ (v != s) = true ∧ J z v 0)
def RestW (cur b : Int) (J : Int → Int → Int → Prop) : Prop :=
  (wrap64 (cur + b) = cur ∧ (b == 0) = true) ∨ (∃ z v, wrap64 (cur + b) = z ∧ (b == 0) = false ∧ J z v 2)
/-- A changed number. -/
theorem wrap_ne (c b : Int) (hc : 0 ≤ c) (hc' : c ≤ 10000) (hb : -9223372036854775808 ≤ b) (hb' : b ≤ 9223372036854775807) (hne : b ≠ 0) : wrap64 (c + b) ≠ c := by
  unfold wrap64
  omega

theorem nextS {a b : World} {p : Addr} {v : Value} (h : Below a.heap.size a b) (hp : a.heap.size ≤ p.block) : Below a.heap.size a (b.setCell p v) := h.setCell hp v

set_option maxHeartbeats 8000000 in
set_option maxRecDepth 100000 in
theorem core (s t which by' y m d h mi sc wd y' m' d' h' mi' sc' wd' : Int) (w : World) (ht : Tab w) (lt1 eq1 : Bool) (tx ty : ByteArray)
    (b0 : -9223372036854775808 ≤ by') (b1 : by' ≤ 9223372036854775807)
    (C0 : Hid (∀ W, Tab W → Calls Tryd.prog 11 #[] W fun e w' => e = .returned (.bool true) ∧ Below W.heap.size W w'))
    (C1 : Hid (∀ W, Calls Tryd.prog 6 #[.int .i64 s] W fun e w' => e = .returned (.tuple #[.agg #[.int .i64 y, .int .i64 m, .int .i64 d, .int .i64 h, .int .i64 mi, .int .i64 sc, .int .i64 wd], .int .i64 0]) ∧ Below W.heap.size W w'))
    (C2 : Hid (∀ W, Calls Tryd.prog 6 #[.int .i64 t] W fun e w' => e = .returned (.tuple #[.agg #[.int .i64 y', .int .i64 m', .int .i64 d', .int .i64 h', .int .i64 mi', .int .i64 sc', .int .i64 wd'], .int .i64 0]) ∧ Below W.heap.size W w'))
    (C3 : Hid (∀ W, Calls Tryd.prog 12 #[.agg #[.int .i64 y, .int .i64 m, .int .i64 d, .int .i64 h, .int .i64 mi, .int .i64 sc, .int .i64 wd]] W fun e w' => e = .returned (.tuple #[.int .i64 s, .int .i64 0]) ∧ Below W.heap.size W w'))
    (C4 : Hid (∀ W, Calls Tryd.prog 14 #[.agg #[.int .i64 y, .int .i64 m, .int .i64 d, .int .i64 h, .int .i64 mi, .int .i64 sc, .int .i64 wd]] W fun e w' => e = .returned (.bool true) ∧ Below W.heap.size W w'))
    (C5 : Hid (∀ W, Tab W → Calls Tryd.prog 15 #[.agg #[.int .i64 y, .int .i64 m, .int .i64 d, .int .i64 h, .int .i64 mi, .int .i64 sc, .int .i64 wd]] W fun e w' => e = .returned (.string tx) ∧ Below W.heap.size W w'))
    (C6 : Hid (∀ W, Tab W → Calls Tryd.prog 15 #[.agg #[.int .i64 y', .int .i64 m', .int .i64 d', .int .i64 h', .int .i64 mi', .int .i64 sc', .int .i64 wd']] W fun e w' => e = .returned (.string ty) ∧ Below W.heap.size W w'))
    (hlen : tx.size = 19) (hls : Op.bytesLess tx.toList ty.toList = lt1) (hlt : decide (s < t) = lt1) (heq : (s == t) = eq1) (hq : eqB y m d h mi sc wd y' m' d' h' mi' sc' wd' = eq1) (R0 : Hid (Rest sc by' s (fun z v e0 => JC y m d h mi z wd v e0))) (R1 : Hid (Rest mi by' s (fun z v e0 => JC y m d h z sc wd v e0))) (R2 : Hid (Rest h by' s (fun z v e0 => JC y m d z mi sc wd v e0))) (R3 : Hid (RestW wd by' (fun z v e0 => JC y m d h mi sc z v e0))) (R4 : Hid (Rest d by' s (fun z v e0 => JC y m z h mi sc wd v e0)))
    :
    Calls Tryd.prog 5 #[.int .i64 s, .int .i64 t, .int .i64 which, .int .i64 by'] w fun e w' => e = .returned (.bool true) ∧ Below w.heap.size w w' := by
  go_enter Tryd.func5, Tryd.ntmps5
  go_wp2_with fail
  refine (C0.out _ ht).mono ?_
  rintro e w0 ⟨rfl, q0⟩
  go_wp2_with fail
  refine (C1.out _).mono ?_
  rintro e w1 ⟨rfl, hb1⟩
  have q1 := nextC q0 hb1
  clear hb1 q0
  go_wp2_with fail
  refine (C2.out _).mono ?_
  rintro e w2 ⟨rfl, hb2⟩
  have q1s := q1.size
  have ka2 := newC hb2
  have q2 := nextA q1 hb2
  clear hb2 q1
  have kc2 := fun o => ka2.cell o
  have kz2 := ka2.lt
  go_wp2_with fail
  refine (C3.out _).mono ?_
  rintro e w3 ⟨rfl, hb3⟩
  have ka3 := (ka2.alloc _).over hb3
  have kb3 := newC hb3
  have q3 := nextA q2 hb3
  have O : OrdS w w3 w1.heap.size w2.heap.size _ _ := ⟨q3, ht.stays q3 (Nat.le_refl _), ka3, kb3⟩
  have O0 := ord_all O.drew
  clear hb3 q2 ka2 ka3 kb3 q3 kc2 kz2
  go_wp2_with fail
  go_region_held3 (fun w' => w'.cell? ⟨w1.heap.size, 0, none⟩ = some (.int .i64 y) ∧ w'.cell? ⟨w1.heap.size, 1, none⟩ = some (.int .i64 m) ∧ w'.cell? ⟨w1.heap.size, 2, none⟩ = some (.int .i64 d) ∧ w'.cell? ⟨w1.heap.size, 3, none⟩ = some (.int .i64 h) ∧ w'.cell? ⟨w1.heap.size, 4, none⟩ = some (.int .i64 mi) ∧ w'.cell? ⟨w1.heap.size, 5, none⟩ = some (.int .i64 sc) ∧ w'.cell? ⟨w1.heap.size, 6, none⟩ = some (.int .i64 wd) ∧ w'.cell? ⟨w2.heap.size, 0, none⟩ = some (.int .i64 y') ∧ w'.cell? ⟨w2.heap.size, 1, none⟩ = some (.int .i64 m') ∧ w'.cell? ⟨w2.heap.size, 2, none⟩ = some (.int .i64 d') ∧ w'.cell? ⟨w2.heap.size, 3, none⟩ = some (.int .i64 h') ∧ w'.cell? ⟨w2.heap.size, 4, none⟩ = some (.int .i64 mi') ∧ w'.cell? ⟨w2.heap.size, 5, none⟩ = some (.int .i64 sc') ∧ w'.cell? ⟨w2.heap.size, 6, none⟩ = some (.int .i64 wd') ∧ OrdS w w' w1.heap.size w2.heap.size #[.int .i64 y, .int .i64 m, .int .i64 d, .int .i64 h, .int .i64 mi, .int .i64 sc, .int .i64 wd] #[.int .i64 y', .int .i64 m', .int .i64 d', .int .i64 h', .int .i64 mi', .int .i64 sc', .int .i64 wd'])
    (first | exact O0 | exact hs)
    (first | (go_at_call 14; (with_reducible refine (C4.out _).mono ?_); rintro e w' ⟨rfl, hb⟩; have hs := ord_all (ord_next (ord_of (by assumption)) hb))
           | (go_at_call 15; (with_reducible refine (C5.out _ ?_).mono ?_); exact (ord_of (by assumption)).2.1; rintro e w' ⟨rfl, hb⟩; have hs := ord_all (ord_next (ord_of (by assumption)) hb))
           | (go_at_call 15; (with_reducible refine (C6.out _ ?_).mono ?_); exact (ord_of (by assumption)).2.1; rintro e w' ⟨rfl, hb⟩; have hs := ord_all (ord_next (ord_of (by assumption)) hb)))
  have q1z : w.heap.size ≤ w1.heap.size := q1s
  have O2 : OrdS w _ w1.heap.size w2.heap.size _ _ := ord_of (by assumption)
  have kf := fun o => O2.2.2.1.free o
  have q4 := O2.1
  clear C0 C1 C2 C4 C5 C6 hlen hls hlt heq hq O0 O ht
  have hwh : which = 0 ∨ which = 1 ∨ which = 2 ∨ which = 3 ∨ which = 4 ∨ which < 0 ∨ (decide (which < 0) = false ∧ 4 < which) := by simp only [decide_eq_false_iff_not]; omega
  rcases hwh with rfl | rfl | rfl | rfl | rfl | hwh | ⟨hw0, hwh⟩
  · clear R1 R2 R3 R4
    rcases R0.out with ⟨hz, hb⟩ | ⟨z, v, hz, hb, c⟩ | ⟨z, v, hz, hb, hv, c⟩
    · go_wp2_with fail
      refine (C3.out _).mono ?_
      rintro e w5 ⟨rfl, hb5⟩
      go_wp2_with fail
      all_goals
        go_ret
        exact ⟨rfl, nextC (nextS q4 q1z) hb5⟩
    · have c := Lib.hid c
      go_wp2_with fail
      refine (c.out _).mono ?_
      rintro e w5 ⟨rfl, hb5⟩
      go_wp2_with fail
      all_goals
        go_ret
        exact ⟨rfl, nextC (nextS q4 q1z) hb5⟩
    · have c := Lib.hid c
      go_wp2_with fail
      refine (c.out _).mono ?_
      rintro e w5 ⟨rfl, hb5⟩
      go_wp2_with fail
      all_goals
        go_ret
        exact ⟨rfl, nextC (nextS q4 q1z) hb5⟩
  · clear R0 R2 R3 R4
    rcases R1.out with ⟨hz, hb⟩ | ⟨z, v, hz, hb, c⟩ | ⟨z, v, hz, hb, hv, c⟩
    · go_wp2_with fail
      refine (C3.out _).mono ?_
      rintro e w5 ⟨rfl, hb5⟩
      go_wp2_with fail
      all_goals
        go_ret
        exact ⟨rfl, nextC (nextS q4 q1z) hb5⟩
    · have c := Lib.hid c
      go_wp2_with fail
      refine (c.out _).mono ?_
      rintro e w5 ⟨rfl, hb5⟩
      go_wp2_with fail
      all_goals
        go_ret
        exact ⟨rfl, nextC (nextS q4 q1z) hb5⟩
    · have c := Lib.hid c
      go_wp2_with fail
      refine (c.out _).mono ?_
      rintro e w5 ⟨rfl, hb5⟩
      go_wp2_with fail
      all_goals
        go_ret
        exact ⟨rfl, nextC (nextS q4 q1z) hb5⟩
  · clear R0 R1 R3 R4
    rcases R2.out with ⟨hz, hb⟩ | ⟨z, v, hz, hb, c⟩ | ⟨z, v, hz, hb, hv, c⟩
    · go_wp2_with fail
      refine (C3.out _).mono ?_
      rintro e w5 ⟨rfl, hb5⟩
      go_wp2_with fail
      all_goals
        go_ret
        exact ⟨rfl, nextC (nextS q4 q1z) hb5⟩
    · have c := Lib.hid c
      go_wp2_with fail
      refine (c.out _).mono ?_
      rintro e w5 ⟨rfl, hb5⟩
      go_wp2_with fail
      all_goals
        go_ret
        exact ⟨rfl, nextC (nextS q4 q1z) hb5⟩
    · have c := Lib.hid c
      go_wp2_with fail
      refine (c.out _).mono ?_
      rintro e w5 ⟨rfl, hb5⟩
      go_wp2_with fail
      all_goals
        go_ret
        exact ⟨rfl, nextC (nextS q4 q1z) hb5⟩
  · clear R0 R1 R2 R4
    rcases R3.out with ⟨hz, hb⟩ | ⟨z, v, hz, hb, c⟩
    · go_wp2_with fail
      refine (C3.out _).mono ?_
      rintro e w5 ⟨rfl, hb5⟩
      go_wp2_with fail
      all_goals
        go_ret
        exact ⟨rfl, nextC (nextS q4 q1z) hb5⟩
    · have c := Lib.hid c
      go_wp2_with fail
      refine (c.out _).mono ?_
      rintro e w5 ⟨rfl, hb5⟩
      go_wp2_with fail
      all_goals
        go_ret
        exact ⟨rfl, nextC (nextS q4 q1z) hb5⟩
  · clear R0 R1 R2 R3
    rcases R4.out with ⟨hz, hb⟩ | ⟨z, v, hz, hb, c⟩ | ⟨z, v, hz, hb, hv, c⟩
    · go_wp2_with fail
      refine (C3.out _).mono ?_
      rintro e w5 ⟨rfl, hb5⟩
      go_wp2_with fail
      all_goals
        go_ret
        exact ⟨rfl, nextC (nextS q4 q1z) hb5⟩
    · have c := Lib.hid c
      go_wp2_with fail
      refine (c.out _).mono ?_
      rintro e w5 ⟨rfl, hb5⟩
      go_wp2_with fail
      all_goals
        go_ret
        exact ⟨rfl, nextC (nextS q4 q1z) hb5⟩
    · have c := Lib.hid c
      go_wp2_with fail
      refine (c.out _).mono ?_
      rintro e w5 ⟨rfl, hb5⟩
      go_wp2_with fail
      all_goals
        go_ret
        exact ⟨rfl, nextC (nextS q4 q1z) hb5⟩
  · go_wp2_with fail
    refine (C3.out _).mono ?_
    rintro e w5 ⟨rfl, hb5⟩
    go_wp2_with fail
    all_goals
      go_ret
      exact ⟨rfl, nextC q4 hb5⟩
  · go_wp2_with fail
    refine (C3.out _).mono ?_
    rintro e w5 ⟨rfl, hb5⟩
    go_wp2_with fail
    all_goals
      go_ret
      exact ⟨rfl, nextC q4 hb5⟩

end Go.Proofs.YtldfppjeelfahaaDoor.stampOrder
