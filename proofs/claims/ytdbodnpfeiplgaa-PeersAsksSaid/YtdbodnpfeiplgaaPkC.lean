/- Contract of the reference's Take. -/
import Derived.Test.YtdbodnpfeiplgaaPkB
import Derived.Lib.Strings
import Derived.Outline
import Derived.BigQuiet
import Derived.Deep.QuietTactic
import Derived.Deep.RegionHeldLaw
namespace Go.Proofs.Ytdbodnpfeiplgaa
set_option linter.unusedVariables false
open Go.RowKit
/-- Bytes as a string. -/
def strI (l : List Int) : ByteArray := ⟨(l.map fun x => UInt8.ofNat x.toNat).toArray⟩
theorem strI_list (l : List Int) : (strI l).toList = l.map fun x => UInt8.ofNat x.toNat := by rw [Lib.toList_data]; rfl
theorem strI_inj : ∀ {a b : List Int}, (∀ x ∈ a, 0 ≤ x ∧ x < 256) → (∀ x ∈ b, 0 ≤ x ∧ x < 256) → (a.map fun x => UInt8.ofNat x.toNat) = (b.map fun x => UInt8.ofNat x.toNat) → a = b
  | [], [], _, _, _ => rfl
  | [], _ :: _, _, _, h => by simp at h
  | _ :: _, [], _, _, h => by simp at h
  | x :: a, y :: b, ha, hb, h => by
    simp only [List.map_cons, List.cons.injEq] at h
    have h1 := ha x (by simp)
    have h2 := hb y (by simp)
    have e : x = y := by
      have := congrArg UInt8.toNat h.1
      rw [UInt8.toNat_ofNat', UInt8.toNat_ofNat'] at this
      omega
    rw [e, strI_inj (fun z hz => ha z (by simp [hz])) (fun z hz => hb z (by simp [hz])) h.2]
theorem strI_eq {a b : List Int} (ha : ∀ x ∈ a, 0 ≤ x ∧ x < 256) (hb : ∀ x ∈ b, 0 ≤ x ∧ x < 256) : ((strI a).toList == (strI b).toList) = decide (a = b) := by
  rw [strI_list, strI_list]
  by_cases h : a = b
  · rw [h, decide_eq_true rfl, beq_self_eq_true]
  · rw [decide_eq_false h, beq_eq_false_iff_ne]
    exact fun e => h (strI_inj ha hb e)
theorem conv_bytes {w : World} {ad : Addr} {c : Nat} {l : List Int} (h : Sl w .u8 (some ad) l) (hb : ∀ x ∈ l, 0 ≤ x ∧ x < 256) :
    (convert 29 9 (.slice (some ad) l.length c)).run Try.prog w = .ok (.string (strI l)) w := by
  have := run_convert_bytes_back (P := Try.prog) w 29 9 5 ad c (l.map fun x => UInt8.ofNat x.toNat) Try.underlying29 Try.underlying5 Try.underlying9 (fun j hj => by
    have hj' : j < l.length := by simpa using hj
    rw [h.at_ hj']
    have h1 := hb l[j] (List.getElem_mem _)
    rw [List.getElem_map, UInt8.toNat_ofNat']
    congr 2
    omega)
  rw [List.length_map] at this
  exact this

theorem step_n (N x W : Nat) : IntKind.u64.wrap ((N : Int) + IntKind.u64.wrap ((x : Int) % 128 * (W : Int))) = (((N + x % 128 * W) % 18446744073709551616 : Nat) : Int) := by
  rw [IntKind.wrap_u64, IntKind.wrap_u64]
  have h : (x : Int) % 128 * (W : Int) = ((x % 128 * W : Nat) : Int) := by rw [Int.natCast_mul]; rfl
  rw [h]
  omega
theorem step_w (W : Nat) : IntKind.u64.wrap ((W : Int) * 128) = ((W * 128 % 18446744073709551616 : Nat) : Int) := by
  rw [IntKind.wrap_u64]
  omega
/-- What the worlds of the last step have. -/
def TkS (w : World) (ad : Addr) (T : List Int) (w' : World) : Prop := Sl w' .u8 (some ad) T ∧ Below w.heap.size w w'
theorem tkS_give {w w' : World} {ad : Addr} {T : List Int} {d : Nat} (hT : ∀ x ∈ T, 0 ≤ x ∧ x < 256) (h : TkS w ad T w') :
    (convert 29 9 (.slice (some ad) T.length d)).run Try.prog w' = .ok (.string (strI T)) w' ∧ TkS w ad T w' := ⟨conv_bytes h.1 hT, h⟩
theorem tkS_next {w w' w2 : World} {ad : Addr} {T : List Int} {d : Nat} {X : Prop} (hT : ∀ x ∈ T, 0 ≤ x ∧ x < 256) (h : X ∧ TkS w ad T w') (hb : Below w'.heap.size w' w2) :
    (convert 29 9 (.slice (some ad) T.length d)).run Try.prog w2 = .ok (.string (strI T)) w2 ∧ TkS w ad T w2 :=
  tkS_give hT ⟨h.2.1.over hb, h.2.2.trans (hb.mono h.2.2.size)⟩
theorem tkS_drew {w w' : World} {ad : Addr} {T : List Int} (h : TkS w ad T w') : TkS w ad T w'.drew := ⟨h.1, h.2.drew⟩
theorem tkS_below {w w' : World} {ad : Addr} {T : List Int} {X : Prop} (h : X ∧ TkS w ad T w') : Below w.heap.size w w' := h.2.2

set_option maxHeartbeats 2000000 in
set_option maxRecDepth 100000 in
theorem refTake_in (A : Option Addr) (c : Nat) (b : List Int) (p : Nat) (w : World) (h : Sl w .u8 A b) (hc : b.length ≤ c) (hm : c ≤ maxLen) (hb : ∀ x ∈ b, 0 ≤ x ∧ x < 256) (h1 : p ≤ b.length) (hbl : b.length ≤ 1000000) (r : Option (Nat × Nat)) (hr : tk 0 0 (b.drop p) = r) :
    Calls Try.prog 38 #[.slice A b.length c, .int .i64 p] w fun e w' =>
      e = .returned (.tuple #[.int .u64 (rV r), .int .i64 (rX p r), .int .i64 (rE r)]) ∧ Below w.heap.size w w' := by
  unfold maxLen at hm
  obtain ⟨L, hL⟩ : ∃ L, b.drop p = L := ⟨_, rfl⟩
  have hlen : L.length = b.length - p := by rw [← hL, List.length_drop]
  have hLb : ∀ x ∈ L, 0 ≤ x ∧ x < 256 := fun x hx => hb x (List.mem_of_mem_drop (hL ▸ hx))
  have hget : ∀ k (hk : p + k < b.length), L.getD k 0 = b[p + k] := fun k hk => by
    rw [← hL, List.getD_eq_getElem?_getD, List.getElem?_drop, List.getElem?_eq_getElem hk]; rfl
  rw [hL] at hr
  have HH := Lib.hid h
  have HL := Lib.hid hL
  have HB := Lib.hid hLb
  have HG := Lib.hid hget
  have HR := Lib.hid hr
  have HE := Lib.hid hlen
  clear h hL hLb hget hr hlen hb
  go_enter Try.func38, Try.ntmps38
  go_wp2_with fail
  go_loop [7, 8, 9] (fun v t i => ∃ (k N W : Nat), p + k ≤ b.length ∧ k ≤ 10 ∧ i = .int .i64 ((p + k : Nat) : Int) ∧ v = .int .u64 N ∧ t = .int .u64 W ∧ N = valL (L.take k) % 18446744073709551616 ∧ W = 128 ^ k % 18446744073709551616 ∧ ∀ j, j < k → 128 ≤ L.getD j 0)
    (fun _ _ i => b.length - (intOf i).toNat)
  case atStart => exact ⟨0, 0, 1, by omega, by omega, by simp, rfl, rfl, rfl, rfl, fun j hj => absurd hj (by omega)⟩
  case round =>
    obtain ⟨k, N, W, hk, hk10, rfl, rfl, rfl, hN, hW, hge⟩ := hrel
    have HN := Lib.hid hN
    have HW := Lib.hid hW
    have HGE := Lib.hid hge
    clear hN hW hge
    by_cases hlt : p + k < b.length
    · by_cases h10 : k < 10
      · have hi10 : (p : Int) + (k : Int) < (p : Int) + 10 := by omega
        obtain ⟨ad, rfl, hb1, hcell⟩ := HH.out (p + k) hlt
        have hx := HB.out (b[p + k]) (by
          rw [← HG.out k hlt, List.getD_eq_getElem?_getD]
          have : k < L.length := by have := HE.out; omega
          rw [List.getElem?_eq_getElem this]
          exact List.getElem_mem _)
        obtain ⟨x, hxe⟩ : ∃ x : Nat, b[p + k] = (x : Int) := ⟨(b[p + k]).toNat, by omega⟩
        have hgx : L.getD k 0 = (x : Int) := (HG.out k hlt).trans hxe
        rw [hxe] at hcell hx
        have hx2 : x < 256 := by omega
        clear hxe hx
        have s1 := step_n N x W
        have s2 := step_w W
        have hkL : k < L.length := by have := HE.out; omega
        have hN2 : (N + x % 128 * W) % 18446744073709551616 = valL (L.take (k + 1)) % 18446744073709551616 := by
          rw [List.take_succ_eq_append_getElem hkL, valL_snoc, HN.out, HW.out]
          have e1 : (L.take k).length = k := by rw [List.length_take]; omega
          have e2 : L[k] = (x : Int) := by rw [← hgx, List.getD_eq_getElem?_getD, List.getElem?_eq_getElem hkL]; rfl
          rw [e1, e2, Int.toNat_natCast, Nat.add_mod, Nat.mod_mod, Nat.mul_mod (x % 128), Nat.mod_mod, ← Nat.mul_mod, ← Nat.add_mod]
        have hW2 : W * 128 % 18446744073709551616 = 128 ^ (k + 1) % 18446744073709551616 := by
          rw [HW.out, Nat.pow_succ, Nat.mul_mod, Nat.mod_mod, ← Nat.mul_mod]
        generalize (N + x % 128 * W) % 18446744073709551616 = N' at *
        generalize W * 128 % 18446744073709551616 = W' at *
        have HN2 := Lib.hid hN2
        have HW2 := Lib.hid hW2
        have HX := Lib.hid hgx
        clear hN2 hW2 hgx
        by_cases hx128 : x < 128
        · obtain ⟨T, hT⟩ : ∃ T, L.take (k + 1) = T := ⟨_, rfl⟩
          have hTl : T.length = k + 1 := by rw [← hT, List.length_take]; omega
          have hTb : ∀ x ∈ T, 0 ≤ x ∧ x < 256 := fun x hx => HB.out x (List.mem_of_mem_take (hT ▸ hx))
          obtain ⟨d, hd⟩ : ∃ d, c - p = d := ⟨_, rfl⟩
          obtain ⟨ad', had⟩ : ∃ ad', ad.add p = ad' := ⟨_, rfl⟩
          have hsl : Sl w .u8 (some ad') T := by
            have := (HH.out.cut (n := p) hc).take (k + 1)
            rw [if_neg (by omega), HL.out, hT, Option.map_some, had] at this
            exact this
          have hsz : ∀ W, (sizeOf (Try.prog.elem 29)).run Try.prog W = .ok 1 W := fun W => by kernel_rfl
          have hut : Try.prog.underlying 29 = some (.slice (Try.prog.elem 29)) := by kernel_rfl
          have hs : ∀ W, (Instr.slice 29 (.slice (some ad) b.length c) (some (.int .i64 p)) (some (.int .i64 ((p : Int) + (k : Int) + 1))) none).run Try.prog W = .ok (.slice (some ad') T.length d) W := fun W => by
            rw [run_slice_lh W _ _ _ _ hut .i64 .i64 p ((p : Int) + (k : Int) + 1) (by omega) (by omega) (by omega), hsz]
            simp only [Result.andThen, sliced]
            have e1 : ((p : Int) + (k : Int) + 1).toNat = p + (k + 1) := by omega
            rw [e1, Int.toNat_natCast, Nat.mul_one, if_neg (by omega), Option.map_some, had, hd, hTl, Nat.add_sub_cancel_left]
          have hn' : N' < 18446744073709551616 := by rw [HN2.out]; omega
          have hst := tk_stop HB.out hkL HGE.out (by rw [HX.out]; omega) HN2.out
          rw [hT] at hst
          have hcall : ∀ W : World, Calls Try.prog 36 #[.int .u64 N'] W fun e w' => ∃ B dd, e = .returned (.slice B (putN N').length dd) ∧ OwnB W.heap.size w' B dd (putN N') ∧ Below W.heap.size W w' := fun W => refPut_any N' hn' W
          have hpb := putN_bytes N'
          have hpl : putN N' ≠ [] := fun h => by have := (putN_len 9 N' (by omega)).1; rw [h] at this; exact absurd this (by decide)
          generalize putN N' = PP at *
          have heq := strI_eq hpb hTb
          have hq0 : (0 : Int) ≤ (p : Int) := by omega
          have hq1 : (p : Int) ≤ (p : Int) + (k : Int) + 1 := by omega
          have hq2 : (p : Int) + (k : Int) + 1 ≤ (c : Int) := by omega
          have hq3 : IntKind.i64.wrap ((p : Int) + (k : Int) + 1) = (p : Int) + (k : Int) + 1 := by rw [IntKind.wrap_i64]; omega
          have HC := Lib.hid hcall
          have HS := Lib.hid hsl
          have HST := Lib.hid hst
          have HPL := Lib.hid hpl
          have HPB := Lib.hid hpb
          have HTB := Lib.hid hTb
          clear hcall hsl hst hpl hpb hTb hsz hut hT had hd hTl HX HN2 HW2
          by_cases hPT : PP = T
          · rw [decide_eq_true hPT] at heq
            have hr2 : r = some (N', k + 1) := HR.out.symm.trans (HST.out.1 hPT)
            have hrx : rX p r = (p : Int) + (k : Int) + 1 := by rw [hr2]; show (p : Int) + ((k + 1 : Nat) : Int) = _; omega
            have hrv : rV r = (N' : Int) := by rw [hr2]; rfl
            have hre : rE r = 0 := by rw [hr2]; rfl
            have HRX := Lib.hid hrx
            have HRV := Lib.hid hrv
            have HRE := Lib.hid hre
            clear hr2 hrx hrv hre hPT
            go_wp2_with fail
            go_region_held_law (fun w' => (convert 29 9 (.slice (some ad') T.length d)).run Try.prog w' = .ok (.string (strI T)) w' ∧ TkS w ad' T w')
              (first | exact tkS_give HTB.out (tkS_drew ⟨HS.out, Below.refl _ _⟩) | exact hs1)
              (first | (go_at_call 36; (with_reducible refine (HC.out _).mono ?_); rintro e w1 ⟨B, dd, rfl, ho1, hb1⟩; obtain ⟨B', rfl⟩ := ho1.sl.some_ HPL.out; have hcv := conv_bytes (c := dd) ho1.sl HPB.out; have hs1 := tkS_next (d := d) HTB.out (by assumption) hb1))
            go_wp2_with fail
            go_ret3
            rw [HRX.out, HRV.out, HRE.out]
            exact ⟨rfl, tkS_below (by assumption)⟩
          · rw [decide_eq_false hPT] at heq
            have hr2 : r = none := HR.out.symm.trans (HST.out.2 hPT)
            have HR2 := Lib.hid hr2
            clear hr2 hPT
            go_wp2_with fail
            go_region_held_law (fun w' => (convert 29 9 (.slice (some ad') T.length d)).run Try.prog w' = .ok (.string (strI T)) w' ∧ TkS w ad' T w')
              (first | exact tkS_give HTB.out (tkS_drew ⟨HS.out, Below.refl _ _⟩) | exact hs1)
              (first | (go_at_call 36; (with_reducible refine (HC.out _).mono ?_); rintro e w1 ⟨B, dd, rfl, ho1, hb1⟩; obtain ⟨B', rfl⟩ := ho1.sl.some_ HPL.out; have hcv := conv_bytes (c := dd) ho1.sl HPB.out; have hs1 := tkS_next (d := d) HTB.out (by assumption) hb1))
            go_wp2_with fail
            go_ret3
            rw [HR2.out]
            exact ⟨rfl, tkS_below (by assumption)⟩
        · have hx128' : decide ((x : Int) < 128) = false := decide_eq_false (by omega)
          have hx128n : decide (x < 128) = false := decide_eq_false (by omega)
          have H128 := Lib.hid hx128
          clear hx128
          go_wp2_with fail
          go_round
          case rel =>
            refine ⟨_, _, _, _, _, _, ⟨k + 1, by omega, by omega, ?_, N', rfl, W', rfl, HN2.out, HW2.out, fun j hj => ?_⟩, rfl, rfl, rfl, rfl, rfl, rfl⟩
            · go_num
            · rcases Nat.lt_succ_iff_lt_or_eq.1 hj with hj | hj
              · exact HGE.out j hj
              · subst hj
                have e1 := HX.out
                have e2 := H128.out
                rw [List.getD_eq_getElem?_getD] at e1
                rw [e1]; omega
          case measure => simp [intOf]; omega
      · have hd10 : decide ((p : Int) + (k : Int) < (p : Int) + 10) = false := decide_eq_false (by omega)
        have hrn : r = none := by
          rw [← HR.out]
          exact tk_nostop HB.out fun j hj hj10 => HGE.out j (by omega)
        have HRN := Lib.hid hrn
        clear hrn
        go_wp2_with fail
        go_ret3
        rw [HRN.out]
        exact ⟨rfl, Below.refl _ _⟩
    · have hd : decide (p + k < b.length) = false := decide_eq_false (by omega)
      have hrn : r = none := by
        rw [← HR.out]
        exact tk_nostop HB.out fun j hj hj10 => HGE.out j (by have := HE.out; omega)
      have HRN := Lib.hid hrn
      clear hrn
      go_wp2_with fail
      go_ret3
      rw [HRN.out]
      exact ⟨rfl, Below.refl _ _⟩
end Go.Proofs.Ytdbodnpfeiplgaa
