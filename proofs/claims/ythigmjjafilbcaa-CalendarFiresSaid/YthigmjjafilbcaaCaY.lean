/- The reference's Fires. -/
import Derived.Test.YthigmjjafilbcaaCaX
import Derived.Test.YthigmjjafilbcaaRgN
namespace Go.Proofs.Ythigmjjafilbcaa
set_option linter.unusedVariables false
set_option maxRecDepth 100000
open Go.RowKit
/-- A day's firing goes to a day, by a mode. -/
def GoesTo (k : Nat) (off on : List Int) (mode d n : Int) : Prop :=
  (mode = 1 ∧ d = n) ∨ (mode ≠ 1 ∧ (worksC k off on d = true ∧ d = n ∨ worksC k off on d = false ∧ NearIs k off on d (if mode = 2 then 1 else -1) n))
def Hit (k : Nat) (off on : List Int) (mode : Int) (x : Xp) (n m d : Int) : Prop := inB d = true ∧ GoesTo k off on mode d n ∧ minFit x d m = true
/-- What Fires answers. -/
def FiresIs (k : Nat) (off on : List Int) (mode : Int) (x : Xp) (n m : Int) (e : Ending) : Prop := ∃ r, e = .returned (.bool r) ∧ (r = true ↔ worksC k off on n = true ∧ ∃ d, n - 250 ≤ d ∧ d ≤ n + 250 ∧ Hit k off on mode x n m d)
theorem near_one {k : Nat} {off on : List Int} {n s r r' : Int} (h : NearIs k off on n s r) (h' : NearIs k off on n s r') : r = r' := by
  have key : ∀ {a b : Nat}, (∀ j : Nat, j < b → inB (n + s * (j : Int)) = true ∧ worksC k off on (n + s * (j : Int)) = false) → (inB (n + s * (a : Int)) = false ∨ worksC k off on (n + s * (a : Int)) = true) → ¬ a < b := fun h1 h2 hlt => by
    obtain ⟨e1, e2⟩ := h1 _ hlt
    rcases h2 with h2 | h2
    · rw [e1] at h2; cases h2
    · rw [e2] at h2; cases h2
  rcases h with ⟨i, ha, hb, hc, rfl⟩ | ⟨i, ha, hb, rfl⟩ <;> rcases h' with ⟨i', ha', hb', hc', rfl⟩ | ⟨i', ha', hb', rfl⟩
  · have := key ha (.inr hc'); have := key ha' (.inr hc)
    rw [show i = i' by omega]
  · have := key ha (.inl hb'); have := key ha' (.inr hc)
    have e : i = i' := by omega
    subst e; rw [hb] at hb'; cases hb'
  · have := key ha (.inr hc'); have := key ha' (.inl hb)
    have e : i = i' := by omega
    subst e; rw [hb] at hb'; cases hb'
  · rfl
theorem step_hit {P : Int → Prop} {lo d : Int} (h : ∀ d', lo ≤ d' → d' < d → ¬ P d') (hd : ¬ P d) : ∀ d', lo ≤ d' → d' < d + 1 → ¬ P d' := fun d' h1 h2 => by
  by_cases e : d' = d
  · subst e; exact hd
  · exact h d' h1 (by omega)
theorem refSplit_min (n m : Int) (h0 : 0 ≤ n) (h1 : n < 157054) (m0 : 0 ≤ m) (m1 : m < 1440) (w : World) :
    Calls Try.prog 40 #[.int .i64 (n * 86400 + m * 60)] w fun e w' => e = .returned (.tuple #[.agg (clkA n m), .int .i64 0]) ∧ Below w.heap.size w w' := by
  have h := refSplit_yes (n * 86400 + m * 60) w (by omega) (by omega)
  have e1 : (n * 86400 + m * 60) / 86400 = n := by omega
  have e2 : (n * 86400 + m * 60) % 86400 / 3600 = m / 60 := by omega
  have e3 : (n * 86400 + m * 60) % 86400 % 3600 / 60 = m % 60 := by omega
  have e4 : (n * 86400 + m * 60) % 86400 % 60 = 0 := by omega
  rw [e1, e2, e3, e4] at h
  exact h
set_option maxHeartbeats 2000000 in
theorem fires_1 (v : Value) (k : Nat) (off on : List Int) (x : Xp) (hx : x.Ok) (n m : Int) (hn0 : 0 ≤ n) (hn1 : n < 157054) (m0 : 0 ≤ m) (m1 : m < 1440) (w : World) (h : CalAt w v k off on) (hm : mayC k off on = true) (hwn : worksC k off on n = true) :
    Calls Try.prog 16 #[v, .int .u8 1, xpV x, .int .i64 n, .int .i64 m] w fun e w' => FiresIs k off on 1 x n m e ∧ Below w.heap.size w w' := by
  have CM := Lib.hid (fun y W (hW : Below w.heap.size w W) => refWorks_any v k off on y W (h.over hW))
  have CD := Lib.hid refday_any
  have CN := Lib.hid (fun d (h0 : -1 ≤ d) (h1 : d ≤ 157054) W (hW : Below w.heap.size w W) => near_any v k off on d (1) h0 h1 (by decide) W (h.over hW) hm)
  have CS := Lib.hid refSplit_min
  have CF := Lib.hid (fun (d m : Int) (h0 : 0 ≤ d) (h1 : d < 157054) (m0 : 0 ≤ m) (m1 : m < 1440) W => by
    have := refFits_any x hx (ofY d) (ofM d) (ofD d) (m / 60) (m % 60) 0 ((d + 4) % 7) W
    rw [fitsC_at x h0 h1 m0 m1] at this
    exact this)
  rw [hm] at CM
  have HWN := Lib.hid hwn
  have hin : inB n = true := inB_iff.2 ⟨hn0, hn1⟩
  have CMN := Lib.hid (fun W hW => CM.out n W hW)
  rw [hin, hwn] at CMN
  clear hin hwn
  obtain ⟨A, cA, B, cB, rfl, ha, hb⟩ := h.ex
  obtain ⟨WB, hWB⟩ : ∃ WB, (w.alloc (.cells #[.int .u8 k, .slice A off.length cA, .slice B on.length cB] 31)).alloc (.cells (xpC x) 40) = WB := ⟨_, rfl⟩
  have T2 := two rfl hWB
  have K := Lib.hid T2.1
  have KX := Lib.hid T2.2.1
  have Q0 := Lib.hid T2.2.2.1
  have HW := Lib.hid hWB
  clear h ha hb hm hWB T2
  go_enter Try.func16, Try.ntmps16
  dsimp only [xpV]
  go_upto_region 1 with fail
  rw [show (w.alloc (.cells #[.int .u8 k, .slice A off.length cA, .slice B on.length cB] 31)).alloc (.cells #[.int .u64 x.b0, .bool x.s0, .int .u64 x.b1, .bool x.s1, .int .u64 x.b2, .bool x.s2, .int .u64 x.b3, .bool x.s3, .int .u64 x.b4, .bool x.s4] 40) = WB from HW.out]
  have kd0 := fun o => K.out.cell o
  go_wp2_with fail
  refine (CMN.out _ Q0.out).mono ?_
  rintro e w1 ⟨rfl, hb1⟩
  have HB1 := Lib.hid hb1
  clear hb1 kd0
  go_wp2_with fail
  go_loopw [11] (fun c wr => ∃ d : Int, c = .int .i64 d ∧ n - 250 ≤ d ∧ d ≤ n + 251 ∧ (∀ d', n - 250 ≤ d' → d' < d → ¬ Hit k off on 1 x n m d') ∧ Below WB.heap.size WB wr) (fun c _ => (n + 251 - intOf c).toNat)
  case atStart => exact ⟨n - 250, by go_num, by omega, by omega, fun d' h1 h2 => by omega, HB1.out⟩
  case round =>
    obtain ⟨d, rfl, b0, b1, hall, hbw⟩ := hrel
    have HA := Lib.hid hall
    have HB := Lib.hid hbw
    have kd := fun o => (K.out.over hbw).cell o
    have QW := Lib.hid (nextC Q0.out hbw)
    clear hall hbw
    by_cases hd : d ≤ n + 250
    · have CD1 := Lib.hid (fun W => CD.out d W)
      have CM1 := Lib.hid (fun W hW => CM.out d W hW)
      cases hin : inB d
      · rw [hin] at CD1
        have HI := Lib.hid hin
        clear hin
        go_wp2_with fail
        refine (CD1.out _).mono ?_
        rintro e w2 ⟨rfl, rfl⟩
        go_wp2_with fail
        go_roundw
        case rel => exact ⟨d + 1, by go_num, by omega, by omega, step_hit HA.out (fun hh => absurd hh.1 (by rw [HI.out]; decide)), HB.out⟩
        case measure => simp [intOf]; omega
      · rw [hin] at CD1 CM1
        have HI := Lib.hid hin
        obtain ⟨hd0, hd1⟩ := inB_iff.1 hin
        clear hin
        by_cases hdn : d = n
        · subst hdn
          go_wp2_with fail
          refine (CD1.out _).mono ?_
          rintro e w2 ⟨rfl, rfl⟩
          go_wp2_with fail
          refine (CMN.out _ (nextC Q0.out HB.out)).mono ?_
          rintro e w3 ⟨rfl, hbw3⟩
          have Hw3 := Lib.hid (nextC HB.out hbw3)
          have kdw3 := fun o => (K.out.over Hw3.out).cell o
          clear hbw3
          go_wp2_with fail
          refine (CMN.out _ (nextC Q0.out Hw3.out)).mono ?_
          rintro e w4 ⟨rfl, hbw4⟩
          have Hw4 := Lib.hid (nextC Hw3.out hbw4)
          have kdw4 := fun o => (K.out.over Hw4.out).cell o
          clear hbw4
          go_wp2_with fail
          refine (CS.out d m hd0 hd1 m0 m1 _).mono ?_
          rintro e w7 ⟨rfl, hb7⟩
          have hq7 := Lib.hid (nextC Hw4.out hb7)
          have ky7 := KX.out.over hq7.out
          clear hb7
          have rx7 := Row.new w7 62 (clkA d m)
          have hq8 := nextB (o := .cells (clkA d m) 62) hq7.out
          have kx8 := fun o => (KX.out.over hq8).cell o
          unfold clkA at *
          have kk8 := fun o => rx7.cell o
          have HQ8 := Lib.hid hq8
          clear hq8 rx7 ky7
          dsimp only [xpC] at kx8
          cases hft : minFit x d m
          · have CF1 := Lib.hid (fun W => CF.out d m hd0 hd1 m0 m1 W)
            rw [hft] at CF1
            have HFT := Lib.hid hft
            clear hft
            dsimp only [xpV] at CF1
            go_wp2_with fail
            refine (CF1.out _).mono ?_
            rintro e w9 ⟨rfl, hb9⟩
            have HQ9 := Lib.hid (nextC HQ8.out hb9)
            clear hb9
            go_wp2_with fail
            go_roundw
            case rel => exact ⟨d + 1, by go_num, by omega, by omega, step_hit HA.out (fun hh => absurd hh.2.2 (by rw [HFT.out]; decide)), HQ9.out⟩
            case measure => simp [intOf]; omega
          · have CF1 := Lib.hid (fun W => CF.out d m hd0 hd1 m0 m1 W)
            rw [hft] at CF1
            have HFT := Lib.hid hft
            clear hft
            dsimp only [xpV] at CF1
            go_wp2_with fail
            refine (CF1.out _).mono ?_
            rintro e w9 ⟨rfl, hb9⟩
            have HQ9 := Lib.hid (nextC HQ8.out hb9)
            clear hb9
            go_wp2_with fail
            go_ret
            exact ⟨⟨true, rfl, iff_of_true rfl ⟨HWN.out, d, by omega, by omega, HI.out, .inl ⟨rfl, rfl⟩, HFT.out⟩⟩, nextC Q0.out HQ9.out⟩
        · have hdb : (d == n) = false := by simpa using hdn
          have HDN := Lib.hid hdn
          clear hdn
          go_wp2_with fail
          refine (CD1.out _).mono ?_
          rintro e w2 ⟨rfl, rfl⟩
          go_wp2_with fail
          go_roundw
          case rel => exact ⟨d + 1, by go_num, by omega, by omega, step_hit HA.out (fun hh => by rcases hh.2.1 with h | h; exact HDN.out h.2; exact h.1 rfl), HB.out⟩
          case measure => simp [intOf]; omega
    · have e : d = n + 251 := by omega
      subst e
      go_wp2_with fail
      go_ret
      exact ⟨⟨false, rfl, iff_of_false (by decide) (fun hh => by obtain ⟨-, d', h1, h2, h3⟩ := hh; exact HA.out d' h1 (by omega) h3)⟩, QW.out⟩
set_option maxHeartbeats 2000000 in
theorem fires_2 (v : Value) (k : Nat) (off on : List Int) (x : Xp) (hx : x.Ok) (n m : Int) (hn0 : 0 ≤ n) (hn1 : n < 157054) (m0 : 0 ≤ m) (m1 : m < 1440) (w : World) (h : CalAt w v k off on) (hm : mayC k off on = true) (hwn : worksC k off on n = true) :
    Calls Try.prog 16 #[v, .int .u8 2, xpV x, .int .i64 n, .int .i64 m] w fun e w' => FiresIs k off on 2 x n m e ∧ Below w.heap.size w w' := by
  have CM := Lib.hid (fun y W (hW : Below w.heap.size w W) => refWorks_any v k off on y W (h.over hW))
  have CD := Lib.hid refday_any
  have CN := Lib.hid (fun d (h0 : -1 ≤ d) (h1 : d ≤ 157054) W (hW : Below w.heap.size w W) => near_any v k off on d (1) h0 h1 (by decide) W (h.over hW) hm)
  have CS := Lib.hid refSplit_min
  have CF := Lib.hid (fun (d m : Int) (h0 : 0 ≤ d) (h1 : d < 157054) (m0 : 0 ≤ m) (m1 : m < 1440) W => by
    have := refFits_any x hx (ofY d) (ofM d) (ofD d) (m / 60) (m % 60) 0 ((d + 4) % 7) W
    rw [fitsC_at x h0 h1 m0 m1] at this
    exact this)
  rw [hm] at CM
  have HWN := Lib.hid hwn
  have hin : inB n = true := inB_iff.2 ⟨hn0, hn1⟩
  have CMN := Lib.hid (fun W hW => CM.out n W hW)
  rw [hin, hwn] at CMN
  clear hin hwn
  obtain ⟨A, cA, B, cB, rfl, ha, hb⟩ := h.ex
  obtain ⟨WB, hWB⟩ : ∃ WB, (w.alloc (.cells #[.int .u8 k, .slice A off.length cA, .slice B on.length cB] 31)).alloc (.cells (xpC x) 40) = WB := ⟨_, rfl⟩
  have T2 := two rfl hWB
  have K := Lib.hid T2.1
  have KX := Lib.hid T2.2.1
  have Q0 := Lib.hid T2.2.2.1
  have HW := Lib.hid hWB
  clear h ha hb hm hWB T2
  go_enter Try.func16, Try.ntmps16
  dsimp only [xpV]
  go_upto_region 1 with fail
  rw [show (w.alloc (.cells #[.int .u8 k, .slice A off.length cA, .slice B on.length cB] 31)).alloc (.cells #[.int .u64 x.b0, .bool x.s0, .int .u64 x.b1, .bool x.s1, .int .u64 x.b2, .bool x.s2, .int .u64 x.b3, .bool x.s3, .int .u64 x.b4, .bool x.s4] 40) = WB from HW.out]
  have kd0 := fun o => K.out.cell o
  go_wp2_with fail
  refine (CMN.out _ Q0.out).mono ?_
  rintro e w1 ⟨rfl, hb1⟩
  have HB1 := Lib.hid hb1
  clear hb1 kd0
  go_wp2_with fail
  go_loopw [11] (fun c wr => ∃ d : Int, c = .int .i64 d ∧ n - 250 ≤ d ∧ d ≤ n + 251 ∧ (∀ d', n - 250 ≤ d' → d' < d → ¬ Hit k off on 2 x n m d') ∧ Below WB.heap.size WB wr) (fun c _ => (n + 251 - intOf c).toNat)
  case atStart => exact ⟨n - 250, by go_num, by omega, by omega, fun d' h1 h2 => by omega, HB1.out⟩
  case round =>
    obtain ⟨d, rfl, b0, b1, hall, hbw⟩ := hrel
    have HA := Lib.hid hall
    have HB := Lib.hid hbw
    have kd := fun o => (K.out.over hbw).cell o
    have QW := Lib.hid (nextC Q0.out hbw)
    clear hall hbw
    by_cases hd : d ≤ n + 250
    · have CD1 := Lib.hid (fun W => CD.out d W)
      have CM1 := Lib.hid (fun W hW => CM.out d W hW)
      cases hin : inB d
      · rw [hin] at CD1
        have HI := Lib.hid hin
        clear hin
        go_wp2_with fail
        refine (CD1.out _).mono ?_
        rintro e w2 ⟨rfl, rfl⟩
        go_wp2_with fail
        go_roundw
        case rel => exact ⟨d + 1, by go_num, by omega, by omega, step_hit HA.out (fun hh => absurd hh.1 (by rw [HI.out]; decide)), HB.out⟩
        case measure => simp [intOf]; omega
      · rw [hin] at CD1 CM1
        have HI := Lib.hid hin
        obtain ⟨hd0, hd1⟩ := inB_iff.1 hin
        clear hin
        cases hwk : worksC k off on d
        · rw [hwk] at CM1
          have HWK := Lib.hid hwk
          clear hwk
          go_wp2_with fail
          refine (CD1.out _).mono ?_
          rintro e w2 ⟨rfl, rfl⟩
          go_wp2_with fail
          refine (CM1.out _ (nextC Q0.out HB.out)).mono ?_
          rintro e w3 ⟨rfl, hbw3⟩
          have Hw3 := Lib.hid (nextC HB.out hbw3)
          have kdw3 := fun o => (K.out.over Hw3.out).cell o
          clear hbw3
          go_wp2_with fail
          refine (CN.out d (by omega) (by omega) _ (nextC Q0.out Hw3.out)).mono ?_
          rintro e w5 ⟨⟨r, rfl, hr⟩, hb5⟩
          have HR := Lib.hid hr
          have Hw5 := Lib.hid (nextC Hw3.out hb5)
          have kd5 := fun o => (K.out.over Hw5.out).cell o
          clear hb5 hr
          go_wp2_with fail
          refine (CM1.out _ (nextC Q0.out Hw5.out)).mono ?_
          rintro e w6 ⟨rfl, hbw6⟩
          have Hw6 := Lib.hid (nextC Hw5.out hbw6)
          have kdw6 := fun o => (K.out.over Hw6.out).cell o
          clear hbw6
          by_cases hrn : r = n
          · subst hrn
            go_wp2_with fail
            refine (CS.out d m hd0 hd1 m0 m1 _).mono ?_
            rintro e w7 ⟨rfl, hb7⟩
            have hq7 := Lib.hid (nextC Hw6.out hb7)
            have ky7 := KX.out.over hq7.out
            clear hb7
            have rx7 := Row.new w7 62 (clkA d m)
            have hq8 := nextB (o := .cells (clkA d m) 62) hq7.out
            have kx8 := fun o => (KX.out.over hq8).cell o
            unfold clkA at *
            have kk8 := fun o => rx7.cell o
            have HQ8 := Lib.hid hq8
            clear hq8 rx7 ky7
            dsimp only [xpC] at kx8
            cases hft : minFit x d m
            · have CF1 := Lib.hid (fun W => CF.out d m hd0 hd1 m0 m1 W)
              rw [hft] at CF1
              have HFT := Lib.hid hft
              clear hft
              dsimp only [xpV] at CF1
              go_wp2_with fail
              refine (CF1.out _).mono ?_
              rintro e w9 ⟨rfl, hb9⟩
              have HQ9 := Lib.hid (nextC HQ8.out hb9)
              clear hb9
              go_wp2_with fail
              go_roundw
              case rel => exact ⟨d + 1, by go_num, by omega, by omega, step_hit HA.out (fun hh => absurd hh.2.2 (by rw [HFT.out]; decide)), HQ9.out⟩
              case measure => simp [intOf]; omega
            · have CF1 := Lib.hid (fun W => CF.out d m hd0 hd1 m0 m1 W)
              rw [hft] at CF1
              have HFT := Lib.hid hft
              clear hft
              dsimp only [xpV] at CF1
              go_wp2_with fail
              refine (CF1.out _).mono ?_
              rintro e w9 ⟨rfl, hb9⟩
              have HQ9 := Lib.hid (nextC HQ8.out hb9)
              clear hb9
              go_wp2_with fail
              go_ret
              exact ⟨⟨true, rfl, iff_of_true rfl ⟨HWN.out, d, by omega, by omega, HI.out, .inr ⟨by decide, .inr ⟨HWK.out, HR.out⟩⟩, HFT.out⟩⟩, nextC Q0.out HQ9.out⟩
          · have hrb : (r == n) = false := by simpa using hrn
            have HRN := Lib.hid hrn
            clear hrn
            go_wp2_with fail
            go_roundw
            case rel => exact ⟨d + 1, by go_num, by omega, by omega, step_hit HA.out (fun hh => by
                rcases hh.2.1 with h | h
                · exact absurd h.1 (by decide)
                · rcases h.2 with h | h
                  · rw [HWK.out] at h; cases h.1
                  · exact HRN.out (near_one HR.out h.2)), Hw6.out⟩
            case measure => simp [intOf]; omega
        · rw [hwk] at CM1
          have HWK := Lib.hid hwk
          clear hwk
          by_cases hdn : d = n
          · subst hdn
            go_wp2_with fail
            refine (CD1.out _).mono ?_
            rintro e w2 ⟨rfl, rfl⟩
            go_wp2_with fail
            refine (CM1.out _ (nextC Q0.out HB.out)).mono ?_
            rintro e w3 ⟨rfl, hbw3⟩
            have Hw3 := Lib.hid (nextC HB.out hbw3)
            have kdw3 := fun o => (K.out.over Hw3.out).cell o
            clear hbw3
            go_wp2_with fail
            refine (CM1.out _ (nextC Q0.out Hw3.out)).mono ?_
            rintro e w4 ⟨rfl, hbw4⟩
            have Hw4 := Lib.hid (nextC Hw3.out hbw4)
            have kdw4 := fun o => (K.out.over Hw4.out).cell o
            clear hbw4
            go_wp2_with fail
            refine (CS.out d m hd0 hd1 m0 m1 _).mono ?_
            rintro e w7 ⟨rfl, hb7⟩
            have hq7 := Lib.hid (nextC Hw4.out hb7)
            have ky7 := KX.out.over hq7.out
            clear hb7
            have rx7 := Row.new w7 62 (clkA d m)
            have hq8 := nextB (o := .cells (clkA d m) 62) hq7.out
            have kx8 := fun o => (KX.out.over hq8).cell o
            unfold clkA at *
            have kk8 := fun o => rx7.cell o
            have HQ8 := Lib.hid hq8
            clear hq8 rx7 ky7
            dsimp only [xpC] at kx8
            cases hft : minFit x d m
            · have CF1 := Lib.hid (fun W => CF.out d m hd0 hd1 m0 m1 W)
              rw [hft] at CF1
              have HFT := Lib.hid hft
              clear hft
              dsimp only [xpV] at CF1
              go_wp2_with fail
              refine (CF1.out _).mono ?_
              rintro e w9 ⟨rfl, hb9⟩
              have HQ9 := Lib.hid (nextC HQ8.out hb9)
              clear hb9
              go_wp2_with fail
              go_roundw
              case rel => exact ⟨d + 1, by go_num, by omega, by omega, step_hit HA.out (fun hh => absurd hh.2.2 (by rw [HFT.out]; decide)), HQ9.out⟩
              case measure => simp [intOf]; omega
            · have CF1 := Lib.hid (fun W => CF.out d m hd0 hd1 m0 m1 W)
              rw [hft] at CF1
              have HFT := Lib.hid hft
              clear hft
              dsimp only [xpV] at CF1
              go_wp2_with fail
              refine (CF1.out _).mono ?_
              rintro e w9 ⟨rfl, hb9⟩
              have HQ9 := Lib.hid (nextC HQ8.out hb9)
              clear hb9
              go_wp2_with fail
              go_ret
              exact ⟨⟨true, rfl, iff_of_true rfl ⟨HWN.out, d, by omega, by omega, HI.out, .inr ⟨by decide, .inl ⟨HWK.out, rfl⟩⟩, HFT.out⟩⟩, nextC Q0.out HQ9.out⟩
          · have hdb : (d == n) = false := by simpa using hdn
            have HDN := Lib.hid hdn
            clear hdn
            go_wp2_with fail
            refine (CD1.out _).mono ?_
            rintro e w2 ⟨rfl, rfl⟩
            go_wp2_with fail
            refine (CM1.out _ (nextC Q0.out HB.out)).mono ?_
            rintro e w3 ⟨rfl, hbw3⟩
            have Hw3 := Lib.hid (nextC HB.out hbw3)
            have kdw3 := fun o => (K.out.over Hw3.out).cell o
            clear hbw3
            go_wp2_with fail
            refine (CM1.out _ (nextC Q0.out Hw3.out)).mono ?_
            rintro e w4 ⟨rfl, hbw4⟩
            have Hw4 := Lib.hid (nextC Hw3.out hbw4)
            have kdw4 := fun o => (K.out.over Hw4.out).cell o
            clear hbw4
            go_wp2_with fail
            go_roundw
            case rel => exact ⟨d + 1, by go_num, by omega, by omega, step_hit HA.out (fun hh => by
                rcases hh.2.1 with h | h
                · exact absurd h.1 (by decide)
                · rcases h.2 with h | h
                  · exact HDN.out h.2
                  · rw [HWK.out] at h; cases h.1), Hw4.out⟩
            case measure => simp [intOf]; omega
    · have e : d = n + 251 := by omega
      subst e
      go_wp2_with fail
      go_ret
      exact ⟨⟨false, rfl, iff_of_false (by decide) (fun hh => by obtain ⟨-, d', h1, h2, h3⟩ := hh; exact HA.out d' h1 (by omega) h3)⟩, QW.out⟩
set_option maxHeartbeats 2000000 in
theorem fires_3 (v : Value) (k : Nat) (off on : List Int) (x : Xp) (hx : x.Ok) (n m : Int) (hn0 : 0 ≤ n) (hn1 : n < 157054) (m0 : 0 ≤ m) (m1 : m < 1440) (w : World) (h : CalAt w v k off on) (hm : mayC k off on = true) (hwn : worksC k off on n = true) :
    Calls Try.prog 16 #[v, .int .u8 3, xpV x, .int .i64 n, .int .i64 m] w fun e w' => FiresIs k off on 3 x n m e ∧ Below w.heap.size w w' := by
  have CM := Lib.hid (fun y W (hW : Below w.heap.size w W) => refWorks_any v k off on y W (h.over hW))
  have CD := Lib.hid refday_any
  have CN := Lib.hid (fun d (h0 : -1 ≤ d) (h1 : d ≤ 157054) W (hW : Below w.heap.size w W) => near_any v k off on d (-1) h0 h1 (by decide) W (h.over hW) hm)
  have CS := Lib.hid refSplit_min
  have CF := Lib.hid (fun (d m : Int) (h0 : 0 ≤ d) (h1 : d < 157054) (m0 : 0 ≤ m) (m1 : m < 1440) W => by
    have := refFits_any x hx (ofY d) (ofM d) (ofD d) (m / 60) (m % 60) 0 ((d + 4) % 7) W
    rw [fitsC_at x h0 h1 m0 m1] at this
    exact this)
  rw [hm] at CM
  have HWN := Lib.hid hwn
  have hin : inB n = true := inB_iff.2 ⟨hn0, hn1⟩
  have CMN := Lib.hid (fun W hW => CM.out n W hW)
  rw [hin, hwn] at CMN
  clear hin hwn
  obtain ⟨A, cA, B, cB, rfl, ha, hb⟩ := h.ex
  obtain ⟨WB, hWB⟩ : ∃ WB, (w.alloc (.cells #[.int .u8 k, .slice A off.length cA, .slice B on.length cB] 31)).alloc (.cells (xpC x) 40) = WB := ⟨_, rfl⟩
  have T2 := two rfl hWB
  have K := Lib.hid T2.1
  have KX := Lib.hid T2.2.1
  have Q0 := Lib.hid T2.2.2.1
  have HW := Lib.hid hWB
  clear h ha hb hm hWB T2
  go_enter Try.func16, Try.ntmps16
  dsimp only [xpV]
  go_upto_region 1 with fail
  rw [show (w.alloc (.cells #[.int .u8 k, .slice A off.length cA, .slice B on.length cB] 31)).alloc (.cells #[.int .u64 x.b0, .bool x.s0, .int .u64 x.b1, .bool x.s1, .int .u64 x.b2, .bool x.s2, .int .u64 x.b3, .bool x.s3, .int .u64 x.b4, .bool x.s4] 40) = WB from HW.out]
  have kd0 := fun o => K.out.cell o
  go_wp2_with fail
  refine (CMN.out _ Q0.out).mono ?_
  rintro e w1 ⟨rfl, hb1⟩
  have HB1 := Lib.hid hb1
  clear hb1 kd0
  go_wp2_with fail
  go_loopw [11] (fun c wr => ∃ d : Int, c = .int .i64 d ∧ n - 250 ≤ d ∧ d ≤ n + 251 ∧ (∀ d', n - 250 ≤ d' → d' < d → ¬ Hit k off on 3 x n m d') ∧ Below WB.heap.size WB wr) (fun c _ => (n + 251 - intOf c).toNat)
  case atStart => exact ⟨n - 250, by go_num, by omega, by omega, fun d' h1 h2 => by omega, HB1.out⟩
  case round =>
    obtain ⟨d, rfl, b0, b1, hall, hbw⟩ := hrel
    have HA := Lib.hid hall
    have HB := Lib.hid hbw
    have kd := fun o => (K.out.over hbw).cell o
    have QW := Lib.hid (nextC Q0.out hbw)
    clear hall hbw
    by_cases hd : d ≤ n + 250
    · have CD1 := Lib.hid (fun W => CD.out d W)
      have CM1 := Lib.hid (fun W hW => CM.out d W hW)
      cases hin : inB d
      · rw [hin] at CD1
        have HI := Lib.hid hin
        clear hin
        go_wp2_with fail
        refine (CD1.out _).mono ?_
        rintro e w2 ⟨rfl, rfl⟩
        go_wp2_with fail
        go_roundw
        case rel => exact ⟨d + 1, by go_num, by omega, by omega, step_hit HA.out (fun hh => absurd hh.1 (by rw [HI.out]; decide)), HB.out⟩
        case measure => simp [intOf]; omega
      · rw [hin] at CD1 CM1
        have HI := Lib.hid hin
        obtain ⟨hd0, hd1⟩ := inB_iff.1 hin
        clear hin
        cases hwk : worksC k off on d
        · rw [hwk] at CM1
          have HWK := Lib.hid hwk
          clear hwk
          go_wp2_with fail
          refine (CD1.out _).mono ?_
          rintro e w2 ⟨rfl, rfl⟩
          go_wp2_with fail
          refine (CM1.out _ (nextC Q0.out HB.out)).mono ?_
          rintro e w3 ⟨rfl, hbw3⟩
          have Hw3 := Lib.hid (nextC HB.out hbw3)
          have kdw3 := fun o => (K.out.over Hw3.out).cell o
          clear hbw3
          go_wp2_with fail
          refine (CM1.out _ (nextC Q0.out Hw3.out)).mono ?_
          rintro e w4 ⟨rfl, hbw4⟩
          have Hw4 := Lib.hid (nextC Hw3.out hbw4)
          have kdw4 := fun o => (K.out.over Hw4.out).cell o
          clear hbw4
          go_wp2_with fail
          refine (CN.out d (by omega) (by omega) _ (nextC Q0.out Hw4.out)).mono ?_
          rintro e w5 ⟨⟨r, rfl, hr⟩, hb5⟩
          have HR := Lib.hid hr
          have Hw5 := Lib.hid (nextC Hw4.out hb5)
          have kd5 := fun o => (K.out.over Hw5.out).cell o
          clear hb5 hr
          by_cases hrn : r = n
          · subst hrn
            go_wp2_with fail
            refine (CS.out d m hd0 hd1 m0 m1 _).mono ?_
            rintro e w7 ⟨rfl, hb7⟩
            have hq7 := Lib.hid (nextC Hw5.out hb7)
            have ky7 := KX.out.over hq7.out
            clear hb7
            have rx7 := Row.new w7 62 (clkA d m)
            have hq8 := nextB (o := .cells (clkA d m) 62) hq7.out
            have kx8 := fun o => (KX.out.over hq8).cell o
            unfold clkA at *
            have kk8 := fun o => rx7.cell o
            have HQ8 := Lib.hid hq8
            clear hq8 rx7 ky7
            dsimp only [xpC] at kx8
            cases hft : minFit x d m
            · have CF1 := Lib.hid (fun W => CF.out d m hd0 hd1 m0 m1 W)
              rw [hft] at CF1
              have HFT := Lib.hid hft
              clear hft
              dsimp only [xpV] at CF1
              go_wp2_with fail
              refine (CF1.out _).mono ?_
              rintro e w9 ⟨rfl, hb9⟩
              have HQ9 := Lib.hid (nextC HQ8.out hb9)
              clear hb9
              go_wp2_with fail
              go_roundw
              case rel => exact ⟨d + 1, by go_num, by omega, by omega, step_hit HA.out (fun hh => absurd hh.2.2 (by rw [HFT.out]; decide)), HQ9.out⟩
              case measure => simp [intOf]; omega
            · have CF1 := Lib.hid (fun W => CF.out d m hd0 hd1 m0 m1 W)
              rw [hft] at CF1
              have HFT := Lib.hid hft
              clear hft
              dsimp only [xpV] at CF1
              go_wp2_with fail
              refine (CF1.out _).mono ?_
              rintro e w9 ⟨rfl, hb9⟩
              have HQ9 := Lib.hid (nextC HQ8.out hb9)
              clear hb9
              go_wp2_with fail
              go_ret
              exact ⟨⟨true, rfl, iff_of_true rfl ⟨HWN.out, d, by omega, by omega, HI.out, .inr ⟨by decide, .inr ⟨HWK.out, HR.out⟩⟩, HFT.out⟩⟩, nextC Q0.out HQ9.out⟩
          · have hrb : (r == n) = false := by simpa using hrn
            have HRN := Lib.hid hrn
            clear hrn
            go_wp2_with fail
            go_roundw
            case rel => exact ⟨d + 1, by go_num, by omega, by omega, step_hit HA.out (fun hh => by
                rcases hh.2.1 with h | h
                · exact absurd h.1 (by decide)
                · rcases h.2 with h | h
                  · rw [HWK.out] at h; cases h.1
                  · exact HRN.out (near_one HR.out h.2)), Hw5.out⟩
            case measure => simp [intOf]; omega
        · rw [hwk] at CM1
          have HWK := Lib.hid hwk
          clear hwk
          by_cases hdn : d = n
          · subst hdn
            go_wp2_with fail
            refine (CD1.out _).mono ?_
            rintro e w2 ⟨rfl, rfl⟩
            go_wp2_with fail
            refine (CM1.out _ (nextC Q0.out HB.out)).mono ?_
            rintro e w3 ⟨rfl, hbw3⟩
            have Hw3 := Lib.hid (nextC HB.out hbw3)
            have kdw3 := fun o => (K.out.over Hw3.out).cell o
            clear hbw3
            go_wp2_with fail
            refine (CM1.out _ (nextC Q0.out Hw3.out)).mono ?_
            rintro e w4 ⟨rfl, hbw4⟩
            have Hw4 := Lib.hid (nextC Hw3.out hbw4)
            have kdw4 := fun o => (K.out.over Hw4.out).cell o
            clear hbw4
            go_wp2_with fail
            refine (CS.out d m hd0 hd1 m0 m1 _).mono ?_
            rintro e w7 ⟨rfl, hb7⟩
            have hq7 := Lib.hid (nextC Hw4.out hb7)
            have ky7 := KX.out.over hq7.out
            clear hb7
            have rx7 := Row.new w7 62 (clkA d m)
            have hq8 := nextB (o := .cells (clkA d m) 62) hq7.out
            have kx8 := fun o => (KX.out.over hq8).cell o
            unfold clkA at *
            have kk8 := fun o => rx7.cell o
            have HQ8 := Lib.hid hq8
            clear hq8 rx7 ky7
            dsimp only [xpC] at kx8
            cases hft : minFit x d m
            · have CF1 := Lib.hid (fun W => CF.out d m hd0 hd1 m0 m1 W)
              rw [hft] at CF1
              have HFT := Lib.hid hft
              clear hft
              dsimp only [xpV] at CF1
              go_wp2_with fail
              refine (CF1.out _).mono ?_
              rintro e w9 ⟨rfl, hb9⟩
              have HQ9 := Lib.hid (nextC HQ8.out hb9)
              clear hb9
              go_wp2_with fail
              go_roundw
              case rel => exact ⟨d + 1, by go_num, by omega, by omega, step_hit HA.out (fun hh => absurd hh.2.2 (by rw [HFT.out]; decide)), HQ9.out⟩
              case measure => simp [intOf]; omega
            · have CF1 := Lib.hid (fun W => CF.out d m hd0 hd1 m0 m1 W)
              rw [hft] at CF1
              have HFT := Lib.hid hft
              clear hft
              dsimp only [xpV] at CF1
              go_wp2_with fail
              refine (CF1.out _).mono ?_
              rintro e w9 ⟨rfl, hb9⟩
              have HQ9 := Lib.hid (nextC HQ8.out hb9)
              clear hb9
              go_wp2_with fail
              go_ret
              exact ⟨⟨true, rfl, iff_of_true rfl ⟨HWN.out, d, by omega, by omega, HI.out, .inr ⟨by decide, .inl ⟨HWK.out, rfl⟩⟩, HFT.out⟩⟩, nextC Q0.out HQ9.out⟩
          · have hdb : (d == n) = false := by simpa using hdn
            have HDN := Lib.hid hdn
            clear hdn
            go_wp2_with fail
            refine (CD1.out _).mono ?_
            rintro e w2 ⟨rfl, rfl⟩
            go_wp2_with fail
            refine (CM1.out _ (nextC Q0.out HB.out)).mono ?_
            rintro e w3 ⟨rfl, hbw3⟩
            have Hw3 := Lib.hid (nextC HB.out hbw3)
            have kdw3 := fun o => (K.out.over Hw3.out).cell o
            clear hbw3
            go_wp2_with fail
            refine (CM1.out _ (nextC Q0.out Hw3.out)).mono ?_
            rintro e w4 ⟨rfl, hbw4⟩
            have Hw4 := Lib.hid (nextC Hw3.out hbw4)
            have kdw4 := fun o => (K.out.over Hw4.out).cell o
            clear hbw4
            go_wp2_with fail
            go_roundw
            case rel => exact ⟨d + 1, by go_num, by omega, by omega, step_hit HA.out (fun hh => by
                rcases hh.2.1 with h | h
                · exact absurd h.1 (by decide)
                · rcases h.2 with h | h
                  · exact HDN.out h.2
                  · rw [HWK.out] at h; cases h.1), Hw4.out⟩
            case measure => simp [intOf]; omega
    · have e : d = n + 251 := by omega
      subst e
      go_wp2_with fail
      go_ret
      exact ⟨⟨false, rfl, iff_of_false (by decide) (fun hh => by obtain ⟨-, d', h1, h2, h3⟩ := hh; exact HA.out d' h1 (by omega) h3)⟩, QW.out⟩
theorem fires_no (mode : Int) (v : Value) (k : Nat) (off on : List Int) (x : Xp) (n m : Int) (hn0 : 0 ≤ n) (hn1 : n < 157054) (w : World) (h : CalAt w v k off on) (hm : mayC k off on = true) (hwn : worksC k off on n = false) :
    Calls Try.prog 16 #[v, .int .u8 mode, xpV x, .int .i64 n, .int .i64 m] w fun e w' => FiresIs k off on mode x n m e ∧ Below w.heap.size w w' := by
  have CM := Lib.hid (fun y W (hW : Below w.heap.size w W) => refWorks_any v k off on y W (h.over hW))
  have HWN := Lib.hid hwn
  have CMN := Lib.hid (fun W hW => CM.out n W hW)
  rw [hm, inB_iff.2 ⟨hn0, hn1⟩, hwn] at CMN
  clear hwn
  obtain ⟨A, cA, B, cB, rfl, ha, hb⟩ := h.ex
  obtain ⟨WB, hWB⟩ : ∃ WB, (w.alloc (.cells #[.int .u8 k, .slice A off.length cA, .slice B on.length cB] 31)).alloc (.cells (xpC x) 40) = WB := ⟨_, rfl⟩
  have T2 := two rfl hWB
  have K := Lib.hid T2.1
  have Q0 := Lib.hid T2.2.2.1
  have HW := Lib.hid hWB
  clear h ha hb hm hWB T2
  go_enter Try.func16, Try.ntmps16
  dsimp only [xpV]
  go_upto_region 1 with fail
  rw [show (w.alloc (.cells #[.int .u8 k, .slice A off.length cA, .slice B on.length cB] 31)).alloc (.cells #[.int .u64 x.b0, .bool x.s0, .int .u64 x.b1, .bool x.s1, .int .u64 x.b2, .bool x.s2, .int .u64 x.b3, .bool x.s3, .int .u64 x.b4, .bool x.s4] 40) = WB from HW.out]
  have kd0 := fun o => K.out.cell o
  go_wp2_with fail
  refine (CMN.out _ Q0.out).mono ?_
  rintro e w1 ⟨rfl, hb1⟩
  have HB1 := Lib.hid hb1
  clear hb1 kd0
  go_wp2_with fail
  go_ret
  exact ⟨⟨false, rfl, iff_of_false (by decide) (fun hh => by rw [HWN.out] at hh; cases hh.1)⟩, nextC Q0.out HB1.out⟩
theorem fires_any (mode : Int) (hmode : 1 ≤ mode ∧ mode ≤ 3) (v : Value) (k : Nat) (off on : List Int) (x : Xp) (hx : x.Ok) (n m : Int) (hn0 : 0 ≤ n) (hn1 : n < 157054) (m0 : 0 ≤ m) (m1 : m < 1440) (w : World) (h : CalAt w v k off on) (hm : mayC k off on = true) :
    Calls Try.prog 16 #[v, .int .u8 mode, xpV x, .int .i64 n, .int .i64 m] w fun e w' => FiresIs k off on mode x n m e ∧ Below w.heap.size w w' := by
  cases hw : worksC k off on n
  · exact fires_no mode v k off on x n m hn0 hn1 w h hm hw
  · have : mode = 1 ∨ mode = 2 ∨ mode = 3 := by omega
    rcases this with rfl | rfl | rfl
    · exact fires_1 v k off on x hx n m hn0 hn1 m0 m1 w h hm hw
    · exact fires_2 v k off on x hx n m hn0 hn1 m0 m1 w h hm hw
    · exact fires_3 v k off on x hx n m hn0 hn1 m0 m1 w h hm hw
end Go.Proofs.Ythigmjjafilbcaa
