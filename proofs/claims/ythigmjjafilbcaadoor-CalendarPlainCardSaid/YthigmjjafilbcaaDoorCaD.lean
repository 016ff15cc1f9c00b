/- Contract of slices.DeleteFunc at []int, over a closure that may make memory. -/
import Derived.Test.YthigmjjafilbcaaDoorCaV
import Derived.Lib.SliceRun
namespace Go.Proofs.YthigmjjafilbcaaDoor
set_option linter.unusedVariables false
set_option maxRecDepth 100000
open Go.RowKit
theorem below_sets {B b : Nat} {a : World} (hb : B ≤ b) : ∀ (vs : List Value) (o : Nat) (w : World), Below B a w → Below B a (w.setCells b o vs)
  | [], o, w, h => h
  | v :: r, o, w, h => by rw [World.setCells]; exact below_sets hb r (o + 1) _ (h.setCell (p := ⟨b, o, none⟩) hb v)
theorem keeps_sets {b : Nat} : ∀ (vs : List Value) (o : Nat) (w : World), KeepsOthers w (w.setCells b o vs)
  | [], o, w => KeepsOthers.refl w
  | v :: r, o, w => by rw [World.setCells]; exact (KeepsOthers.setCell w _ v).trans (keeps_sets r (o + 1) _)
theorem take_keep_succ (keep : Int → Bool) (L : List Int) {t : Nat} (ht : t < L.length) : (L.take (t + 1)).filter keep = (L.take t).filter keep ++ (if keep (L.getD t 0) = true then [L.getD t 0] else []) := by
  rw [List.take_add_one, List.filter_append, List.getElem?_eq_getElem ht, getD_of ht]
  simp [List.filter_cons]
theorem take_all_keep (keep : Int → Bool) (L : List Int) : ∀ (i : Nat), i ≤ L.length → (∀ j, j < i → keep (L.getD j 0) = true) → (L.take i).filter keep = L.take i := fun i hi h => by
  rw [List.filter_eq_self]
  intro x hx
  obtain ⟨j, hj, rfl⟩ := List.mem_iff_getElem.1 hx
  rw [List.length_take] at hj
  have := h j (by omega)
  rw [getD_of (by omega)] at this
  rwa [List.getElem_take]
theorem cell_putq (w : World) (b off q r : Nat) (u old : Value) (h : w.cell? ⟨b, off + q, none⟩ = some old) : (w.setCell ⟨b, off + q, none⟩ u).cell? ⟨b, off + r, none⟩ = if r = q then some u else w.cell? ⟨b, off + r, none⟩ := by
  by_cases e : r = q
  · subst e
    rw [if_pos rfl]
    exact World.cell?_setCell_same' _ _ _ (by rw [h]; rfl)
  · rw [if_neg e]
    exact World.cell?_setCell_other _ _ _ _ (by intro h2; injection h2 with _ h3; omega)
set_option maxHeartbeats 1000000 in
theorem deleteF1 (G : Nat) (P0 : Value) (hG : ∀ (args : Array Value) (W : World), (callFunc G args).run Tryd.prog W = .ok (.enter G args) W) (p : Int → Bool) (b off cap : Nat) (L : List Int) (w : World) (base : Nat) (hbase : base ≤ b) (hbw : base ≤ w.heap.size) (hl : L.length ≤ 200000) (hlc : L.length ≤ cap) (hbl : b < w.heap.size)
    (hrow : ∀ r, r < L.length → w.cell? ⟨b, off + r, none⟩ = some (.int .i64 (L.getD r 0)) ∧ w.frozen? ⟨b, off + r, none⟩ = false)
    (hp : ∀ (x : Int) (W : World), x ∈ L → Below base w W → Calls Tryd.prog G #[.int .i64 x, P0] W fun e w' => e = .returned (.bool (p x)) ∧ Below W.heap.size W w') :
    Calls Tryd.prog 35 #[.slice (some ⟨b, off, none⟩) L.length cap, .func (.func G) #[] #[P0]] w fun e w' => e = .returned (.slice (some ⟨b, off, none⟩) (L.filter fun x => !p x).length cap) ∧ (Below base w w' ∧ KeepsOthers w w') ∧
      ∀ r, r < (L.filter fun x => !p x).length → w'.cell? ⟨b, off + r, none⟩ = some (.int .i64 ((L.filter fun x => !p x).getD r 0)) := by
  have hsl : Sl w .i64 (some ⟨b, off, none⟩) L := fun j hj => by
    refine ⟨_, rfl, hbl, ?_⟩
    rw [Addr.add_mid, (hrow j hj).1, getD_of hj]
  have CI := Lib.hid (indexF1 G P0 hG p (some ⟨b, off, none⟩) cap L w hsl (by omega) (fun x W hx hW => hp x W hx (hW.mono hbw)))
  have HP := Lib.hid hp
  have HR := Lib.hid hrow
  clear hp hsl hrow
  obtain ⟨keep, hkeep⟩ : ∃ keep : Int → Bool, (fun x => !p x) = keep := ⟨_, rfl⟩
  have HK := Lib.hid (show ∀ x, keep x = !p x by intro x; rw [← hkeep])
  rw [hkeep]
  clear hkeep
  go_enter Tryd.func35, Tryd.ntmps35
  go_wp2_with fail
  refine CI.out.mono ?_
  rintro e w1 ⟨⟨q, rfl, -, hq⟩, hb1⟩
  rcases hq with ⟨rfl, hno⟩ | ⟨i, rfl, hil, hpi, hno⟩
  · have hall : L.filter keep = L := by
      have := take_all_keep keep L L.length (Nat.le_refl _) (fun j hj => by rw [HK.out, hno j hj]; rfl)
      rwa [List.take_length] at this
    have HA := Lib.hid hall
    clear hno hall
    go_wp2_with fail
    go_ret
    refine ⟨by rw [HA.out]; rfl, ⟨hb1.mono hbw, keeps_of_below hb1⟩, fun r hr => ?_⟩
    rw [HA.out] at hr ⊢
    exact (hb1.cell (p := ⟨b, off + r, none⟩) hbl).trans (HR.out r hr).1
  · have hne : ((i : Int) == -1) = false := by simp
    have H0 := Lib.hid (show (L.take (i + 1)).filter keep = L.take i by
      rw [take_keep_succ keep L hil, if_neg (by rw [HK.out, hpi]; simp), List.append_nil]
      exact take_all_keep keep L i (by omega) (fun j hj => by rw [HK.out, hno j hj]; rfl))
    clear hno hpi
    go_wp2_with fail
    go_loopw [5, 6, 7] (fun a j v wr => ∃ t : Nat, t ≤ L.length ∧ j = .int .i64 t ∧ a = .int .i64 ((L.take t).filter keep).length ∧ ((L.take t).filter keep).length < t ∧ (∀ r, r < ((L.take t).filter keep).length → wr.cell? ⟨b, off + r, none⟩ = some (.int .i64 (((L.take t).filter keep).getD r 0))) ∧
      (∀ r, t ≤ r → r < L.length → wr.cell? ⟨b, off + r, none⟩ = some (.int .i64 (L.getD r 0))) ∧ (∀ r, r < L.length → (wr.cell? ⟨b, off + r, none⟩).isSome = true ∧ wr.frozen? ⟨b, off + r, none⟩ = false) ∧ Below base w wr ∧ b < wr.heap.size ∧ KeepsOthers w wr) (fun _ j _ _ => L.length - (intOf j).toNat)
    case atStart =>
      have hc : ∀ r, r < L.length → w1.cell? ⟨b, off + r, none⟩ = some (.int .i64 (L.getD r 0)) := fun r hr => (hb1.cell (p := ⟨b, off + r, none⟩) hbl).trans (HR.out r hr).1
      have hf : ∀ r, r < L.length → w1.frozen? ⟨b, off + r, none⟩ = false := fun r hr => (hb1.frozen (p := ⟨b, off + r, none⟩) hbl).trans (HR.out r hr).2
      refine ⟨i + 1, by omega, by go_num, ?_, ?_, ?_, fun r h1 h2 => hc r h2, fun r hr => ⟨by rw [hc r hr]; rfl, hf r hr⟩, hb1.mono hbw, Nat.lt_of_lt_of_le hbl hb1.size, keeps_of_below hb1⟩
      · rw [H0.out, List.length_take, Nat.min_eq_left (by omega)]
      · rw [H0.out, List.length_take]; omega
      · intro r hr
        rw [H0.out] at hr ⊢
        rw [List.length_take] at hr
        have hri : r < i := by omega
        have hri2 : r < (L.take i).length := by rw [List.length_take]; omega
        rw [hc r (by omega), getD_of hri2, getD_of (show r < L.length by omega), List.getElem_take]
    case round =>
      obtain ⟨t, ht, rfl, rfl, hqt, hlo, hhi, hsm, hbw2, hbl2, hko⟩ := hrel
      have HKO := Lib.hid hko
      clear hko
      obtain ⟨ys, hys⟩ : ∃ ys, (L.take t).filter keep = ys := ⟨_, rfl⟩
      rw [hys] at hqt hlo ⊢
      have HLO := Lib.hid hlo
      have HHI := Lib.hid hhi
      have HSM := Lib.hid hsm
      have HYS := Lib.hid hys
      have hbw3 : base ≤ wr.heap.size := Nat.le_trans hbw hbw2.size
      clear hys hlo hsm
      by_cases hlt : t < L.length
      · have hc := hhi t (Nat.le_refl _) hlt
        obtain ⟨x, hx⟩ : ∃ x, L.getD t 0 = x := ⟨_, rfl⟩
        rw [hx] at hc
        have HS := Lib.hid (show (L.take (t + 1)).filter keep = ys ++ (if keep x = true then [x] else []) by rw [take_keep_succ keep L hlt, HYS.out, hx])
        have HM := Lib.hid (show x ∈ L by rw [← hx, getD_of hlt]; exact List.getElem_mem _)
        clear hhi hx
        cases hpx : p x
        · have HPX := Lib.hid hpx
          have HKX := Lib.hid (show keep x = true by rw [HK.out, hpx]; rfl)
          clear hpx
          go_wp2_with fail
          refine (HP.out x _ HM.out hbw2).mono ?_
          rintro e w2 ⟨rfl, hb2⟩
          rw [HPX.out]
          have hcq := hb2.cell (p := ⟨b, off + ys.length, none⟩) hbl2
          have hsq := (HSM.out ys.length (by omega)).1
          have hfq := (hb2.frozen (p := ⟨b, off + ys.length, none⟩) hbl2).trans (HSM.out ys.length (by omega)).2
          obtain ⟨old, hold⟩ := Option.isSome_iff_exists.1 hsq
          rw [hold] at hcq
          clear hold hsq
          go_wp2_with fail
          have HQ := Lib.hid hcq
          have hc2 : ∀ r, (w2.setCell ⟨b, off + ys.length, none⟩ (.int .i64 x)).cell? ⟨b, off + r, none⟩ = if r = ys.length then some (.int .i64 x) else wr.cell? ⟨b, off + r, none⟩ := fun r => by
            rw [cell_putq w2 b off ys.length r _ _ HQ.out]
            by_cases e : r = ys.length
            · rw [if_pos e, if_pos e]
            · rw [if_neg e, if_neg e]; exact hb2.cell (p := ⟨b, off + r, none⟩) hbl2
          have hf2 : ∀ r, (w2.setCell ⟨b, off + ys.length, none⟩ (.int .i64 x)).frozen? ⟨b, off + r, none⟩ = wr.frozen? ⟨b, off + r, none⟩ := fun r => by
            rw [World.frozen?_setCell]; exact hb2.frozen (p := ⟨b, off + r, none⟩) hbl2
          have hB2 : Below base w (w2.setCell ⟨b, off + ys.length, none⟩ (.int .i64 x)) := (hbw2.trans (hb2.mono hbw3)).setCell (p := ⟨b, off + ys.length, none⟩) hbase _
          have hz2 : b < (w2.setCell ⟨b, off + ys.length, none⟩ (.int .i64 x)).heap.size := by have := hb2.size; simp; omega
          have HS2 : (L.take (t + 1)).filter keep = ys ++ [x] := by rw [HS.out, if_pos HKX.out]
          go_roundw
          case rel =>
            refine ⟨t + 1, by omega, by go_num, by rw [HS2]; simp, by rw [HS2]; simp; omega, fun r hr => ?_, fun r h1 h2 => ?_, fun r hr => ?_, hB2, hz2, HKO.out.trans ((keeps_of_below hb2).trans (KeepsOthers.setCell _ _ _))⟩
            · rw [HS2] at hr ⊢
              rw [hc2 r]
              by_cases e : r = ys.length
              · subst e; rw [if_pos rfl]; simp
              · have hrl : r < ys.length := by rw [List.length_append] at hr; simp only [List.length_singleton] at hr; omega
                rw [if_neg e, HLO.out r hrl, getD_of (l := ys ++ [x]) (by rw [List.length_append]; omega), getD_of hrl, List.getElem_append_left hrl]
            · rw [hc2 r, if_neg (by omega)]; exact HHI.out r (by omega) h2
            · rw [hc2 r, hf2 r]
              by_cases e : r = ys.length
              · rw [if_pos e]; exact ⟨rfl, (HSM.out r hr).2⟩
              · rw [if_neg e]; exact HSM.out r hr
          case measure => simp [intOf]; omega
        · have HPX := Lib.hid hpx
          have HKX := Lib.hid (show keep x = false by rw [HK.out, hpx]; rfl)
          clear hpx
          go_wp2_with fail
          refine (HP.out x _ HM.out hbw2).mono ?_
          rintro e w2 ⟨rfl, hb2⟩
          rw [HPX.out]
          go_wp2_with fail
          have HS2 : (L.take (t + 1)).filter keep = ys := by rw [HS.out, if_neg (by rw [HKX.out]; simp), List.append_nil]
          have hc2 : ∀ r, w2.cell? ⟨b, off + r, none⟩ = wr.cell? ⟨b, off + r, none⟩ := fun r => hb2.cell (p := ⟨b, off + r, none⟩) hbl2
          have hf2 : ∀ r, w2.frozen? ⟨b, off + r, none⟩ = wr.frozen? ⟨b, off + r, none⟩ := fun r => hb2.frozen (p := ⟨b, off + r, none⟩) hbl2
          have hB2 : Below base w w2 := hbw2.trans (hb2.mono hbw3)
          have hz2 : b < w2.heap.size := by have := hb2.size; omega
          go_roundw
          case rel =>
            refine ⟨t + 1, by omega, by go_num, by rw [HS2], by rw [HS2]; omega, fun r hr => ?_, fun r h1 h2 => ?_, fun r hr => ?_, hB2, hz2, HKO.out.trans (keeps_of_below hb2)⟩
            · rw [HS2] at hr ⊢
              rw [hc2 r]; exact HLO.out r hr
            · rw [hc2 r]; exact HHI.out r (by omega) h2
            · rw [hc2 r, hf2 r]; exact HSM.out r hr
          case measure => simp [intOf]; omega
      · have e : t = L.length := by omega
        subst e
        have HF := Lib.hid (show L.filter keep = ys by rw [← HYS.out, List.take_length])
        have hcl : ∀ ty, (Builtin.clear_ #[22] ty #[.slice (some ⟨b, off + ys.length, none⟩) (L.length - ys.length) (cap - ys.length)]).run Tryd.prog wr = .ok (.tuple #[]) (wr.setCells b (off + ys.length) (List.replicate (L.length - ys.length) (.int .i64 0))) :=
          fun ty => Lib.run_clear_slice wr _ _ ty _ Tryd.underlying22 (fun w => by kernel_rfl) rfl rfl b (off + ys.length) _ _ (by omega) (fun j hj => by rw [show off + ys.length + j = off + (ys.length + j) by omega]; exact (HSM.out _ (by omega)).1) (fun j hj => by rw [show off + ys.length + j = off + (ys.length + j) by omega]; exact (HSM.out _ (by omega)).2)
        clear hhi
        go_wp2_with fail
        go_ret
        refine ⟨by rw [HF.out]; rfl, ⟨below_sets hbase _ _ _ hbw2, HKO.out.trans (keeps_sets _ _ _)⟩, fun r hr => ?_⟩
        rw [HF.out] at hr ⊢
        rw [World.cell?_setCells_out b _ _ _ _ (fun _ _ => .inl (by show off + r < off + ys.length; omega))]
        exact HLO.out r hr
end Go.Proofs.YthigmjjafilbcaaDoor
