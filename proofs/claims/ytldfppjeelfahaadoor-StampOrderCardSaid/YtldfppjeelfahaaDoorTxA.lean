/- Contracts of the texts of clocks: stamp.Text, its closure, the reference's digits and Text. -/
import Derived.Test.YtldfppjeelfahaaDoorStC
import Derived.Test.YtldfppjeelfahaaDoorTxM
import Derived.Test.YtldfppjeelfahaaDoorShelf
import Derived.Lib.AppendIntMem
import Derived.Lib.SmallJoins
namespace Go.Proofs.YtldfppjeelfahaaDoor
set_option linter.unusedVariables false
open Go.RowKit

/-- The library's table of powers of ten lies as its initialiser lays it. -/
def Tab (w : World) : Prop := Lib.TabIs Tryd.prog w "internal/strconv.uint64pow10" .u64 Lib.pow10Tab
theorem gTab : ∃ g, Tryd.prog.globalNamed "internal/strconv.uint64pow10" = some g := ⟨0, by kernel_rfl⟩
theorem Tab.stays {w w' : World} {B : Nat} (h : Tab w) (hb : Below B w w') (hB : w.heap.size ≤ B) : Tab w' := by
  obtain ⟨g, hg⟩ := gTab
  exact Joins.tab_stays hg h hb hB
theorem Tab.alloc {w : World} (h : Tab w) (o : Obj) : Tab (w.alloc o) := h.stays ((Below.refl w.heap.size w).alloc (Nat.le_refl _) o) (Nat.le_refl _)
theorem Tab.drew {w : World} (h : Tab w) : Tab w.drew := h.stays ((Below.refl w.heap.size w).drew) (Nat.le_refl _)

theorem itoa_any (n : Int) (h0 : -9223372036854775808 ≤ n) (h1 : n ≤ 9223372036854775807) (w : World) (ht : Tab w) :
    Calls Tryd.prog 26 #[.int .i64 n] w fun e w' => e = .returned (.string (bts (Lib.itoa n))) ∧ Below w.heap.size w w' :=
  (Tryd.strconv_Itoa n h0 h1 w ht).mono fun e w' ⟨he, k, os, hw⟩ => ⟨he, hw ▸ Lib.below_grow _ _ (Nat.le_refl _) _ _⟩

theorem two_any (n : Int) (h0 : 0 ≤ n) (h1 : n < 100) (w : World) (ht : Tab w) :
    Calls Tryd.prog 25 #[.int .i64 n] w fun e w' => e = .returned (.string (bts (digL n 2))) ∧ Below w.heap.size w w' := by
  have c := itoa_any (100 + n) (by omega) (by omega) w ht
  rw [itoa_two n h0 h1] at c
  have C := Lib.hid c; clear c
  have hsz : (bts (49 :: digL n 2)).size = 3 := by rw [bts_size]; simp [digL_len]
  have hcut : ∀ W, (Instr.slice 9 (.string (bts (49 :: digL n 2))) (some (.int .i64 1)) none none).run Tryd.prog W = .ok (.string (bts (digL n 2))) W := fun W => by
    rw [run_slice_string_l W _ _ Tryd.underlying9 .i64 1 (by omega) (by rw [hsz]; omega)]
    rw [hsz]
    have : ByteArray.extract (bts (49 :: digL n 2)) (1 : Int).toNat 3 = bts (digL n 2) := bts_eq (by
      rw [Lib.extract_data, bts_data]
      simp only [show (1 : Int).toNat = 1 by rfl, List.drop_succ_cons, List.drop_zero]
      rw [List.take_of_length_le (by rw [digL_len]; omega)])
    rw [this]
  go_enter Tryd.func25, Tryd.ntmps25
  go_wp2_with fail
  refine C.out.mono ?_
  rintro e w1 ⟨rfl, hb1⟩
  go_wp2_with fail
  go_ret
  exact ⟨rfl, hb1⟩

theorem dig_cut (n : Int) (h0 : 0 ≤ n) (h1 : n < 10) : (ByteArray.mk #[48, 49, 50, 51, 52, 53, 54, 55, 56, 57]).extract n.toNat (n + 1).toNat = bts [ch n] := by
  obtain ⟨k, rfl⟩ : ∃ k : Nat, n = k := ⟨n.toNat, by omega⟩
  have hk : k < 10 := by omega
  refine bts_eq ?_
  rw [Lib.extract_data]
  unfold ch
  have : ∀ k < 10, (([48, 49, 50, 51, 52, 53, 54, 55, 56, 57] : List UInt8).drop k).take (k + 1 - k) = [UInt8.ofNat (48 + k)] := by decide
  rw [show ((k : Int) + 1).toNat = k + 1 by omega, show ((k : Int)).toNat = k by omega]
  exact this k hk

theorem digits_any (k : Nat) : ∀ (n many : Int) (w : World), 0 ≤ n → n ≤ 9223372036854775807 → k ≤ 100 → many = (k : Int) →
    Calls Tryd.prog 27 #[.int .i64 n, .int .i64 many] w fun e w' => e = .returned (.string (bts (digL n k))) ∧ ∃ q, w' = w.drewN q := by
  induction k with
  | zero =>
    rintro n many w h0 hb hk rfl
    go_enter Tryd.func27, Tryd.ntmps27
    go_wp2_with fail
    go_ret
    exact ⟨rfl, 0, by simp [World.drewN_zero]⟩
  | succ k ih =>
    intro n many w h0 hb hk hm
    have hm1 : 1 ≤ many := by omega
    have hm2 : many ≤ 101 := by omega
    have C := Lib.hid fun W => ih (n / 10) (many - 1) W (by omega) (by omega) (by omega) (by omega)
    clear ih
    have hne : (many == 0) = false := by rw [beq_eq_false_iff_ne]; omega
    clear hm
    obtain ⟨r, hr⟩ : ∃ r, n % 10 = r := ⟨_, rfl⟩
    have r0 : 0 ≤ r := by omega
    have r1 : r < 10 := by omega
    have hd := dig_cut r r0 r1
    have hcut : ∀ W, (Instr.slice 9 (.string (ByteArray.mk #[48, 49, 50, 51, 52, 53, 54, 55, 56, 57])) (some (.int .i64 r)) (some (.int .i64 (r + 1))) none).run Tryd.prog W = .ok (.string (bts [ch r])) W := fun W => by
      rw [run_slice_string W _ _ .i64 .i64 _ _ Tryd.underlying9 (by omega) (by omega) (by simp [ByteArray.size]; omega), hd]
    clear hd
    have hr1 : IntKind.i64.wrap (r + 1) = r + 1 := IntWalk.i64_in _ (by omega)
    have hr2 : n.tmod 10 = r := by rw [Int.tmod_eq_emod_of_nonneg h0]; exact hr
    have hr3 : IntKind.i64.wrap (n.tdiv 10) = n / 10 := by rw [Int.tdiv_eq_ediv_of_nonneg h0]; exact IntWalk.i64_in _ (by clear hr; omega)
    have hr4 : IntKind.i64.wrap (many - 1) = many - 1 := IntWalk.i64_in _ (by omega)
    have hadd := bts_add (digL (n / 10) k) [ch r] (by rw [digL_len]; simp; omega)
    rw [show digL (n / 10) k ++ [ch r] = digL n (k + 1) by rw [digL, hr]] at hadd
    go_enter Tryd.func27, Tryd.ntmps27
    go_wp2_with fail
    go_quiet ((go_at_call 27; exact Calls.quiet_of (C.out _)))
    go_wp2
    go_ret
    exact ⟨rfl, _, rfl⟩

theorem smay_tab (y m d h mi s wd : Int) (w : World) (b : Bool) (hc : clkB y m d h mi s wd = b) :
    Calls Tryd.prog 14 #[.agg #[.int .i64 y, .int .i64 m, .int .i64 d, .int .i64 h, .int .i64 mi, .int .i64 s, .int .i64 wd]] w fun e w' => e = .returned (.bool b) ∧ Below w.heap.size w w' := by
  have c := smay_any y m d h mi s wd w
  rw [hc] at c
  exact c

theorem text_no (y m d h mi s wd : Int) (w : World) (hc : clkB y m d h mi s wd = false) :
    Calls Tryd.prog 15 #[.agg #[.int .i64 y, .int .i64 m, .int .i64 d, .int .i64 h, .int .i64 mi, .int .i64 s, .int .i64 wd]] w fun e w' => e = .returned (.string (bts [])) ∧ Below w.heap.size w w' := by
  have C := Lib.hid fun W => smay_tab y m d h mi s wd W _ hc
  clear hc
  go_enter Tryd.func15, Tryd.ntmps15
  go_wp2_with fail
  refine (C.out _).mono ?_
  rintro e w1 ⟨rfl, hb1⟩
  have q1 := ((Below.refl w.heap.size w).alloc (Nat.le_refl _) _).trans (hb1.mono (by simp))
  go_wp2_with fail
  go_ret
  exact ⟨rfl, q1⟩

/-- What the worlds of a text's parts have. -/
def TxS (w w' : World) : Prop := Below w.heap.size w w' ∧ Tab w' ∧ w.heap.size < w'.heap.size
theorem TxS.drew {w w' : World} (h : TxS w w') : TxS w w'.drew := ⟨h.1.drew, h.2.1.drew, h.2.2⟩
theorem tx_tab {w w' : World} {a b c d e f : Prop} (h : a ∧ b ∧ c ∧ d ∧ e ∧ f ∧ TxS w w') : Tab w' := h.2.2.2.2.2.2.2.1
theorem tx_below {w w' : World} {a b c d e f : Prop} (h : a ∧ b ∧ c ∧ d ∧ e ∧ f ∧ TxS w w') : Below w.heap.size w w' := h.2.2.2.2.2.2.1
theorem tx_next {w w' w2 : World} {v0 v1 v2 v3 v4 v5 : Value} (h : w'.cell? ⟨w.heap.size, 0, none⟩ = some v0 ∧ w'.cell? ⟨w.heap.size, 1, none⟩ = some v1 ∧ w'.cell? ⟨w.heap.size, 2, none⟩ = some v2 ∧ w'.cell? ⟨w.heap.size, 3, none⟩ = some v3 ∧ w'.cell? ⟨w.heap.size, 4, none⟩ = some v4 ∧ w'.cell? ⟨w.heap.size, 5, none⟩ = some v5 ∧ TxS w w') (hb : Below w'.heap.size w' w2) :
    w2.cell? ⟨w.heap.size, 0, none⟩ = some v0 ∧ w2.cell? ⟨w.heap.size, 1, none⟩ = some v1 ∧ w2.cell? ⟨w.heap.size, 2, none⟩ = some v2 ∧ w2.cell? ⟨w.heap.size, 3, none⟩ = some v3 ∧ w2.cell? ⟨w.heap.size, 4, none⟩ = some v4 ∧ w2.cell? ⟨w.heap.size, 5, none⟩ = some v5 ∧ TxS w w2 := by
  obtain ⟨h0, h1, h2, h3, h4, h5, hb0, ht, hz⟩ := h
  exact ⟨(hb.cell (p := ⟨w.heap.size, 0, none⟩) hz).trans h0, (hb.cell (p := ⟨w.heap.size, 1, none⟩) hz).trans h1, (hb.cell (p := ⟨w.heap.size, 2, none⟩) hz).trans h2, (hb.cell (p := ⟨w.heap.size, 3, none⟩) hz).trans h3,
    (hb.cell (p := ⟨w.heap.size, 4, none⟩) hz).trans h4, (hb.cell (p := ⟨w.heap.size, 5, none⟩) hz).trans h5, hb0.trans (hb.mono (Nat.le_of_lt hz)), ht.stays hb (Nat.le_refl _), Nat.lt_of_lt_of_le hz hb.size⟩

set_option maxHeartbeats 4000000 in
theorem text_yes (y m d h mi s wd : Int) (w : World) (ht : Tab w) (hc : clkB y m d h mi s wd = true) :
    Calls Tryd.prog 15 #[.agg #[.int .i64 y, .int .i64 m, .int .i64 d, .int .i64 h, .int .i64 mi, .int .i64 s, .int .i64 wd]] w fun e w' => e = .returned (.string (bts (txtL y m d h mi s))) ∧ Below w.heap.size w w' := by
  have C := Lib.hid fun W => smay_tab y m d h mi s wd W _ hc
  obtain ⟨hm, hr, -⟩ := clkB_parts hc
  obtain ⟨r1, r2, r3, r4, r5, r6⟩ := rngB_iff.1 hr
  obtain ⟨b1, b2, b3, b4, b5, b6, -⟩ := mayB_bds hm
  clear hc hm hr
  have D := Lib.hid fun W hW => itoa_any y (by omega) (by omega) W hW
  rw [itoa_four y (by omega) (by omega)] at D
  obtain ⟨a1, a2, a3, a4, a5, a6, a7, a8, a9, aa, e1, e2, e3, e4, e5, e6, e7, e8, e9, ea, rfl⟩ := txt_steps y m d h mi s
  generalize txtL y m d h mi s = aa at *
  have E1 := Lib.hid fun W hW => two_any m (by omega) (by omega) W hW
  have E2 := Lib.hid fun W hW => two_any d (by omega) (by omega) W hW
  have E3 := Lib.hid fun W hW => two_any h (by omega) (by omega) W hW
  have E4 := Lib.hid fun W hW => two_any mi (by omega) (by omega) W hW
  have E5 := Lib.hid fun W hW => two_any s (by omega) (by omega) W hW
  clear r1 r2 r3 r4 r5 r6 b1 b2 b3 b4 b5 b6
  go_enter Tryd.func15, Tryd.ntmps15
  go_wp2_with fail
  refine (C.out _).mono ?_
  rintro e w1 ⟨rfl, hb1⟩
  obtain ⟨kc1, kz1⟩ := cells_of_new hb1
  have q1 := ((Below.refl w.heap.size w).alloc (Nat.le_refl _) _).trans (hb1.mono (by simp))
  have t1 : Tab w1 := ht.stays q1 (Nat.le_refl _)
  go_wp2_with fail
  have S0 : TxS w w1 := ⟨q1, t1, kz1⟩
  go_region_held3 (fun w' => w'.cell? ⟨w.heap.size, 0, none⟩ = some (.int .i64 y) ∧ w'.cell? ⟨w.heap.size, 1, none⟩ = some (.int .i64 m) ∧ w'.cell? ⟨w.heap.size, 2, none⟩ = some (.int .i64 d) ∧
      w'.cell? ⟨w.heap.size, 3, none⟩ = some (.int .i64 h) ∧ w'.cell? ⟨w.heap.size, 4, none⟩ = some (.int .i64 mi) ∧ w'.cell? ⟨w.heap.size, 5, none⟩ = some (.int .i64 s) ∧ TxS w w')
    (first | exact ⟨kc1 0, kc1 1, kc1 2, kc1 3, kc1 4, kc1 5, S0.drew⟩
           | exact hs)
    (first | (go_at_call 26; refine (D.out _ ?_).mono ?_; exact tx_tab (by assumption); rintro e w' ⟨rfl, hb⟩; have hs := tx_next (by assumption) hb)
           | (go_at_call 25; refine (E1.out _ ?_).mono ?_; exact tx_tab (by assumption); rintro e w' ⟨rfl, hb⟩; have hs := tx_next (by assumption) hb)
           | (go_at_call 25; refine (E2.out _ ?_).mono ?_; exact tx_tab (by assumption); rintro e w' ⟨rfl, hb⟩; have hs := tx_next (by assumption) hb)
           | (go_at_call 25; refine (E3.out _ ?_).mono ?_; exact tx_tab (by assumption); rintro e w' ⟨rfl, hb⟩; have hs := tx_next (by assumption) hb)
           | (go_at_call 25; refine (E4.out _ ?_).mono ?_; exact tx_tab (by assumption); rintro e w' ⟨rfl, hb⟩; have hs := tx_next (by assumption) hb)
           | (go_at_call 25; refine (E5.out _ ?_).mono ?_; exact tx_tab (by assumption); rintro e w' ⟨rfl, hb⟩; have hs := tx_next (by assumption) hb))
  go_wp2
  go_ret
  exact ⟨rfl, tx_below (by assumption)⟩
end Go.Proofs.YtldfppjeelfahaaDoor
