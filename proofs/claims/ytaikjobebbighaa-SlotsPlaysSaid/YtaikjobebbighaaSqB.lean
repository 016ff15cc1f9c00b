/- Slots: the law's tokens; slices.Equal at numbers. -/
import Derived.Test.YtaikjobebbighaaMf
namespace Go.Proofs.Ytaikjobebbighaa
set_option linter.unusedVariables false
set_option maxRecDepth 100000
open Go.RowKit
theorem map_take_fst (l : List Pl) {k : Nat} (h : k < l.length) : (l.take (k + 1)).map (·.1) = (l.take k).map (·.1) ++ [(l[k]).1] := by
  rw [List.take_succ_eq_append_getElem h, List.map_append]
  rfl
set_option maxHeartbeats 4000000 in
theorem tokens_any (A : Option Addr) (c : Nat) (l : List Pl) (w : World) (hA : PlS w A l) (hl : l.length ≤ 1000000) :
    Calls Try.prog 20 #[.slice A l.length c] w fun e w' => ∃ (B : Option Addr) (d : Nat), e = .returned (.slice B (l.map (·.1)).length d) ∧ RkO enU 1 28 w.heap.size w' B d (l.map (·.1)) ∧ Below w.heap.size w w' := by
  have HA := Lib.hid hA
  clear hA
  go_enter Try.func20, Try.ntmps20
  go_wp2_with fail
  go_loopw [8, 3] (fun i v wr => ∃ (k : Nat) (B : Option Addr) (d : Nat) (out : List Int), k ≤ l.length ∧ i = .int .i64 k ∧ v = .slice B out.length d ∧ out.length = k ∧ Hid (out = (l.take k).map (·.1)) ∧ Hid (RkO enU 1 28 w.heap.size wr B d out) ∧ Hid (Below w.heap.size w wr)) (fun i _ _ => l.length - (intOf i).toNat)
  case atStart => exact ⟨0, none, 0, [], by omega, rfl, rfl, rfl, Lib.hid rfl, Lib.hid (RkO.nil _ _), Lib.hid (Below.refl _ _)⟩
  case round =>
    obtain ⟨k, B, d, out, hk, rfl, rfl, hol, hO, hR, hB⟩ := hrel
    by_cases hlt : k < l.length
    · have hs := HA.out.over hB.out
      obtain ⟨ad, rfl, hb, hc⟩ := hs k hlt
      obtain ⟨-, c1, c2⟩ := hs.cells2 k hlt (u := .int .u64 (l[k]).1) (v := .int .i64 (l[k]).2) rfl
      have HS := Lib.hid (map_take_fst l hlt)
      generalize l[k] = x at *
      obtain ⟨x1, x2⟩ := x
      dsimp only at c1 c2
      obtain ⟨W1, hW1⟩ : ∃ W1, wr.alloc (.cells #[.int .u64 x1, .int .i64 x2] 38) = W1 := ⟨_, rfl⟩
      obtain ⟨W2, hW2⟩ : ∃ W2, W1.alloc (.cells #[.int .u64 x1] 28) = W2 := ⟨_, rfl⟩
      have hbW1 : Below wr.heap.size wr W1 := by rw [← hW1]; exact (Below.refl _ _).alloc (Nat.le_refl _) _
      have hbW2 : Below W1.heap.size W1 W2 := by rw [← hW2]; exact (Below.refl _ _).alloc (Nat.le_refl _) _
      have rx := (show Row W1 wr.heap.size 38 #[.int .u64 x1, .int .i64 x2] by rw [← hW1]; exact Row.new wr _ _)
      have x0 := rx.cell 0
      simp only [List.getElem?_toArray, List.getElem?_cons_zero] at x0
      have hrow := (hR.out.over hbW1).over hbW2
      have hsl : RkS enU 1 W2 (some ⟨W1.heap.size, 0, none⟩) [x1] := by
        have := Row.new W1 28 #[.int .u64 x1]
        rw [hW2] at this
        exact RkS.of_row (t := 28) enU_len (by simpa [rkCs, enU] using this)
      have hz := hB.out.size
      have hz1 := hbW1.size
      have hz2 := hbW2.size
      obtain ⟨B', d', w4, hrun, ho, hg, hn⟩ := run_appK (P := Try.prog) (st := 57) (ty := 57) (ys := [x1]) Try.underlying57 infoU rfl (by decide) (by decide) enU_len enU_one hrow ⟨W1.heap.size, 0, none⟩ 1 hsl (by omega) (by simp; omega)
      have hb4 := (nextC (nextC hB.out hbW1) hbW2).grown hg (by omega) (fun j e => by
        rcases hrow.fresh none j (ownK (hrow.low (Nat.zero_le _)) e) with h1 | h1
        · cases h1
        · exact h1)
      have HR' := Lib.hid ho
      have HB' := Lib.hid hb4
      have HO' := Lib.hid (show out ++ [x1] = (l.take (k + 1)).map (·.1) by rw [HS.out, ← hO.out])
      clear hs hb hc hbW1 hbW2 rx hrow hsl ho hg hn hb4 hz hz1 hz2
      go_wp2_with (at_builtin; refine Lib.wpList_append_run _ rfl _ _ 57 57 rfl _ _ (by simp [Act.eval]; done) (by simp [Act.eval]; done) _ _ hrun ?_)
      go_roundw
      case rel => exact ⟨k + 1, B', d', out ++ [x1], by omega, by go_num, by rw [List.length_append, hol]; rfl, by rw [List.length_append, hol]; rfl, HO', HR', HB'⟩
      case measure => simp [intOf]; omega
    · obtain rfl : k = l.length := by omega
      have HE := Lib.hid (show out = l.map (·.1) by rw [hO.out, List.take_length])
      go_wp2_with fail
      go_ret
      exact ⟨B, d, by rw [← HE.out]; rfl, by rw [← HE.out]; exact hR.out, hB.out⟩
theorem getElem_neU {l m : List Int} {k : Nat} (h1 : k < l.length) (h2 : k < m.length) (h : l[k] ≠ m[k]) : l ≠ m := fun e => h (by subst e; rfl)
set_option maxHeartbeats 4000000 in
theorem equalU_any (A : Option Addr) (c : Nat) (l : List Int) (B : Option Addr) (d : Nat) (w : World) (hA : RkS enU 1 w A l) (hB : RkS enU 1 w B l) (hl : l.length ≤ 1000000) :
    Calls Try.prog 19 #[.slice A l.length c, .slice B l.length d] w fun e w' => e = .returned (.bool true) ∧ Below w.heap.size w w' := by
  have HA := Lib.hid hA
  have HB := Lib.hid hB
  clear hA hB
  go_enter Try.func19, Try.ntmps19
  go_wp2_with fail
  go_loopw [13] (fun i wr => ∃ k : Nat, k ≤ l.length ∧ i = .int .i64 k ∧ Hid (Below w.heap.size w wr)) (fun i _ => l.length - (intOf i).toNat)
  case atStart => exact ⟨0, by omega, rfl, Lib.hid (Below.refl _ _)⟩
  case round =>
    obtain ⟨k, hk, rfl, hbw⟩ := hrel
    by_cases hlt : k < l.length
    · have hsA := HA.out.over hbw.out
      have hsB := HB.out.over hbw.out
      obtain ⟨ad, rfl, hb, hc⟩ := hsA k hlt
      obtain ⟨ad2, rfl, hb2, hc2⟩ := hsB k hlt
      obtain ⟨T, F, hT2, hF, hG⟩ := class_of (fun v => Below wr.heap.size wr v) wr.drew (Below.refl _ _).drew
      have c1 := fun n => ((hsA.over (hF n)).cells1 k hlt (u := .int .u64 l[k]) rfl).2
      have c3 := fun n => ((hsB.over (hF n)).cells1 k hlt (u := .int .u64 l[k]) rfl).2
      have HF := Lib.hid hF
      have HG := Lib.hid hG
      generalize l[k] = x at *
      clear hc hc2 hb hb2 hsA hsB hF hG
      go_upto_region 6 with fail
      refine wp_region_class F (by kernel_rfl) (by kernel_rfl) (HG.out _ (Below.refl _ _).drew) ?_
      repeat (go_big_quiet_step (fail))
      refine wpQuiet_nil ?_
      rintro _ ⟨nq, rfl⟩
      go_wp2_with fail
      go_roundw
      case rel => exact ⟨k + 1, by omega, by go_num, Lib.hid (nextC hbw.out (HF.out nq))⟩
      case measure => simp [intOf]; omega
    · obtain rfl : k = l.length := by omega
      go_wp2_with fail
      go_ret
      exact ⟨rfl, hbw.out⟩
end Go.Proofs.Ytaikjobebbighaa
