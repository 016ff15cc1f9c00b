/- Contract of the reference's May. -/
import Derived.Test.YtceeopjmdfefjaaGrE
import Derived.StillTail
namespace Go.Proofs.Ytceeopjmdfefjaa
set_option linter.unusedVariables false
open Go.RowKit Go.Sort
set_option maxHeartbeats 4000000 in
set_option maxRecDepth 100000 in
theorem refMay_any (A : Option Addr) (c : Nat) (l : List Nd) (w : World) (h : NdS w A l) (hl : l.length ≤ 64) (hlc : l.length ≤ c) (hd : ∀ n ∈ l, n.deps.length ≤ 1000000) :
    Calls Try.prog 11 #[.slice A l.length c] w fun e w' => e = .returned (.int .i64 (mayE l)) ∧ Below w.heap.size w w' := by
  have d1 : decide ((64 : Int) < (l.length : Int)) = false := decide_eq_false (by omega)
  have H := Lib.hid h
  have HD := Lib.hid hd
  clear h hd
  go_enter Try.func11, Try.ntmps11
  go_wp2_with fail
  go_loop [3] (fun i => ∃ k : Nat, k ≤ l.length ∧ i = .int .i64 k ∧ ∀ n ∈ l.take k, n.deps.length ≤ 8) (fun i => l.length - (intOf i).toNat)
  case atStart => exact ⟨0, by omega, rfl, fun n hn => by simp at hn⟩
  case round =>
    obtain ⟨k, hk, rfl, hall⟩ := hrel
    have HA := Lib.hid hall; clear hall
    by_cases hlt : k < l.length
    · obtain ⟨ad, B1, c1, rfl, hb, h1, h2, hsl, hn1, hle1, hc1⟩ := H.out k hlt
      have hex : 8 < l[k].deps.length → ∃ n ∈ l, 8 < n.deps.length := fun h => ⟨_, List.getElem_mem _, h⟩
      have htk : ∀ n ∈ l.take (k + 1), n ∈ l.take k ∨ n.deps.length = l[k].deps.length := fun n hn => (mem_take_nd hlt hn).imp id (fun e => by rw [e])
      obtain ⟨x, hx⟩ : ∃ x, l[k].deps.length = x := ⟨_, rfl⟩
      rw [hx] at h2 htk hex
      have HE := Lib.hid hex
      have HT := Lib.hid htk
      clear hx htk h1 hsl hn1 hle1 hc1 hex
      rw [show ad.add (k * 2 + 1) = ⟨(ad.add (k * 2)).block, (ad.add (k * 2)).off + 1, none⟩ by rw [← add_add]; rfl] at h2
      by_cases ht : 8 < x
      · have t1 : (8 : Int) < (x : Int) := by omega
        have HX := Lib.hid (HE.out ht)
        clear ht
        go_wp2_with fail
        go_ret
        exact ⟨by rw [mayE_deps (by omega) HX.out]; rfl, Below.refl _ _⟩
      · have t1 : decide ((8 : Int) < (x : Int)) = false := decide_eq_false (by omega)
        have HN := Lib.hid ht
        clear ht
        go_wp2_with fail
        go_round
        case rel => exact ⟨k + 1, by omega, by go_num, fun n hn => by
          rcases HT.out n hn with h | h
          · exact HA.out n h
          · have := HN.out; omega⟩
        case measure => simp [intOf]; omega
    · obtain rfl : k = l.length := by omega
      have h8 := HA.out
      rw [List.take_length] at h8
      have H8 := Lib.hid h8
      clear h8 HA
      go_wp2_with fail
      go_loopw [4] (fun i wr => ∃ k : Nat, k ≤ l.length ∧ i = .int .i64 k ∧ Below w.heap.size w wr ∧ (ids (l.take k)).Nodup ∧ ∀ n ∈ l.take k, n.deps.Nodup) (fun i _ => l.length - (intOf i).toNat)
      case atStart => exact ⟨0, by omega, rfl, Below.refl _ _, by simp [ids], fun n hn => by simp at hn⟩
      case round =>
        obtain ⟨k, hk2, rfl, hkp, hnd, hnn⟩ := hrel
        have KP := Lib.hid hkp
        have N1 := Lib.hid hnd
        have N2 := Lib.hid hnn
        clear hkp hnd hnn
        by_cases hlt2 : k < l.length
        · obtain ⟨ad, B1, c1, rfl, hb, h1, h2, hsl, hn1, hle1, hc1⟩ := (H.out.over KP.out) k hlt2
          have hits := ids_take_succ hlt2
          have htk : ∀ n ∈ l.take (k + 1), n ∈ l.take k ∨ n.deps = l[k].deps := fun n hn => (mem_take_nd hlt2 hn).imp id (fun e => by rw [e])
          have hm1 : l[k].id ∈ ids (l.take k) → ¬ (ids l).Nodup := fun hm hn => by
            have := List.Nodup.sublist (List.Sublist.map (fun n : Nd => n.id) (List.take_sublist (k + 1) l)) (show (List.map (fun n : Nd => n.id) l).Nodup from hn)
            have e : List.map (fun n : Nd => n.id) (l.take (k + 1)) = ids (l.take k) ++ [l[k].id] := hits
            rw [e] at this
            exact (List.nodup_append.1 this).2.2 _ hm _ (by simp) rfl
          have hm2 : ¬ l[k].deps.Nodup → ¬ ∀ n ∈ l, n.deps.Nodup := fun hn ha => hn (ha _ (List.getElem_mem _))
          have hdl := HD.out l[k] (List.getElem_mem _)
          obtain ⟨y, hy⟩ : ∃ y, l[k].id = y := ⟨_, rfl⟩
          obtain ⟨ds, hds⟩ : ∃ ds, l[k].deps = ds := ⟨_, rfl⟩
          rw [hy] at h1 hits hm1
          rw [hds] at h2 hsl hle1 htk hm2 hdl
          have htl : (l.take k).length = k := by rw [List.length_take]; omega
          have hC1 : ∀ n, Calls Try.prog 21 #[.slice (some ad) k c, .int .u64 y] (wr.drewN n) fun e w' => e = .returned (.int .i64 (placeI (l.take k) y)) ∧ w' = wr.drewN n := fun n => by
            have := place_val (some ad) c (l.take k) y (wr.drewN n) (((H.out.over KP.out).over (below_drewN (Below.refl _ _) n)).take k) (by omega)
            rwa [htl] at this
          have hC2 : ∀ n, Calls Try.prog 22 #[.slice B1 ds.length c1] (wr.drewN n) fun e w' => e = .returned (.bool (!decide ds.Nodup)) ∧ ∃ m, w' = (wr.drewN n).drewN m := fun n => refTwice_any B1 c1 ds hdl hle1 (wr.drewN n) (hsl.drewN n)
          have hsli : ∀ W, (Instr.slice 22 (.slice (some ad) l.length c) none (some (.int .i64 (k : Nat))) none).run Try.prog W = .ok (.slice (some ad) k c) W := fun W => by
            have hsz : (sizeOf (Try.prog.elem 22)).run Try.prog W = .ok 2 W := by kernel_rfl
            have hut : Try.prog.underlying 22 = some (.slice (Try.prog.elem 22)) := by kernel_rfl
            rw [run_slice_h W _ _ _ _ hut .i64 (k : Nat) (by omega) (by omega), hsz]
            simp [Result.andThen, sliced, Addr.add]
          have hpi := placeI_iff (l := l.take k) (id := y)
          obtain ⟨q, hq⟩ : ∃ q, placeI (l.take k) y = q := ⟨_, rfl⟩
          rw [hq] at hpi
          simp only [hq] at hC1
          have C1 := Lib.hid hC1
          have C2 := Lib.hid hC2
          have HIT := Lib.hid hits
          have HTK := Lib.hid htk
          have M1 := Lib.hid hm1
          have M2 := Lib.hid hm2
          have PI := Lib.hid hpi
          rw [show ad.add (k * 2 + 1) = ⟨(ad.add (k * 2)).block, (ad.add (k * 2)).off + 1, none⟩ by rw [← add_add]; rfl] at h2
          clear hC1 hC2 hits htk hm1 hm2 hpi hq hy hds hsl hn1 hle1 hc1 hb htl
          by_cases hp : 0 ≤ q
          · have p1 : decide ((0 : Int) ≤ q) = true := decide_eq_true hp
            have HP := Lib.hid (PI.out.1 hp)
            clear hp
            go_wp2_with fail
            go_big_quiet (first | (go_at_call 21; refine Calls.quiet_of_same (C1.out _)) | (go_at_call 22; refine Calls.quiet_of (C2.out _)))
            go_wp2_with fail
            go_ret
            exact ⟨by rw [mayE_twice (by omega) H8.out (fun h => M1.out HP.out h.1)]; rfl, below_drewN KP.out _⟩
          · have p1 : decide ((0 : Int) ≤ q) = false := decide_eq_false hp
            have HP := Lib.hid (fun h => hp (PI.out.2 h))
            clear hp
            go_wp2_with fail
            go_big_quiet (first | (go_at_call 21; refine Calls.quiet_of_same (C1.out _)) | (go_at_call 22; refine Calls.quiet_of (C2.out _)))
            by_cases hn : ds.Nodup
            · rw [decide_eq_true hn]
              have HN := Lib.hid hn
              clear hn
              go_wp2_with fail
              go_roundw
              case rel => exact ⟨k + 1, by omega, by go_num, below_drewN KP.out _, by
                rw [HIT.out]
                exact List.nodup_append.2 ⟨N1.out, by simp, fun a ha b hb e => HP.out (by rw [List.mem_singleton] at hb; rw [← hb, ← e]; exact ha)⟩, fun n hn => by
                rcases HTK.out n hn with h | h
                · exact N2.out n h
                · rw [h]; exact HN.out⟩
              case measure => simp [intOf]; omega
            · rw [decide_eq_false hn]
              have HN := Lib.hid hn
              clear hn
              go_wp2_with fail
              go_ret
              exact ⟨by rw [mayE_twice (by omega) H8.out (fun h => M2.out HN.out h.2)]; rfl, below_drewN KP.out _⟩
        · obtain rfl : k = l.length := by omega
          have h9 := And.intro N1.out N2.out
          rw [List.take_length] at h9
          have H9 := Lib.hid h9
          clear h9 N1 N2
          go_wp2_with fail
          go_loopw [5] (fun i wr => ∃ k : Nat, k ≤ l.length ∧ i = .int .i64 k ∧ Below w.heap.size w wr ∧ ∀ n ∈ l.take k, ∀ d ∈ n.deps, d ∈ ids l) (fun i _ => l.length - (intOf i).toNat)
          case atStart => exact ⟨0, by omega, rfl, KP.out, fun n hn => by simp at hn⟩
          case round =>
            obtain ⟨k, hk3, rfl, hkp, hall⟩ := hrel
            have KQ := Lib.hid hkp
            have N3 := Lib.hid hall
            clear hkp hall KP
            by_cases hlt3 : k < l.length
            · obtain ⟨ad, B1, c1, rfl, hb, h1, h2, hsl, hn1, hle1, hc1⟩ := H.out k hlt3
              have htk : ∀ n ∈ l.take (k + 1), n ∈ l.take k ∨ n.deps = l[k].deps := fun n hn => (mem_take_nd hlt3 hn).imp id (fun e => by rw [e])
              have hm2 : ∀ d, d ∈ l[k].deps → ¬ d ∈ ids l → ¬ ∀ n ∈ l, ∀ d ∈ n.deps, d ∈ ids l := fun d h1 h2 h => h2 (h _ (List.getElem_mem _) d h1)
              have hdl := HD.out l[k] (List.getElem_mem _)
              obtain ⟨ds, hds⟩ : ∃ ds, l[k].deps = ds := ⟨_, rfl⟩
              rw [hds] at h2 hsl hle1 htk hm2 hdl
              have HSL := Lib.hid hsl
              have HTK := Lib.hid htk
              have M2 := Lib.hid hm2
              rw [show ad.add (k * 2 + 1) = ⟨(ad.add (k * 2)).block, (ad.add (k * 2)).off + 1, none⟩ by rw [← add_add]; rfl] at h2
              have H2 := Lib.hid h2
              have hbb : (⟨(ad.add (k * 2)).block, (ad.add (k * 2)).off + 1, none⟩ : Addr).block < w.heap.size := by show (ad.add (k * 2)).block < _; rw [add_block]; exact hb
              have HBB := Lib.hid hbb
              clear htk hm2 hsl hds h1 h2 hn1 hle1 hc1 hb hbb
              go_wp2_with fail
              go_loopw [6] (fun i wr => ∃ j : Nat, j ≤ ds.length ∧ i = .int .i64 j ∧ Below w.heap.size w wr ∧ ∀ d ∈ ds.take j, d ∈ ids l) (fun i _ => ds.length - (intOf i).toNat)
              case atStart => exact ⟨0, by omega, rfl, KQ.out, fun d hd => by simp at hd⟩
              case round =>
                obtain ⟨j, hj, rfl, hkp, hall⟩ := hrel
                have KR := Lib.hid hkp
                have N4 := Lib.hid hall
                have h2 := (KR.out.cell (p := ⟨(ad.add (k * 2)).block, (ad.add (k * 2)).off + 1, none⟩) HBB.out).trans H2.out
                clear hkp hall KQ
                by_cases hlj : j < ds.length
                · obtain ⟨dd, rfl, hdb, hdc⟩ := HSL.out j hlj
                  have hc4 := (KR.out.cell (p := dd.add j) (by rw [add_block]; exact hdb)).trans hdc
                  have htj : ∀ d ∈ ds.take (j + 1), d ∈ ds.take j ∨ d = ds[j] := fun d hd => mem_take_succ hlj hd
                  have hzm : ds[j] ∈ ds := List.getElem_mem _
                  obtain ⟨z, hz⟩ : ∃ z, ds[j] = z := ⟨_, rfl⟩
                  rw [hz] at hc4 htj hzm
                  have C1 := place_val (some ad) c l z wr (H.out.over KR.out) (by omega)
                  have hpi := placeI_iff (l := l) (id := z)
                  obtain ⟨q, hq⟩ : ∃ q, placeI l z = q := ⟨_, rfl⟩
                  rw [hq] at hpi C1
                  have C1 := Lib.hid C1
                  have PI := Lib.hid hpi
                  have HTJ := Lib.hid htj
                  have HZM := Lib.hid hzm
                  clear hpi hq hz hdc htj hzm hdb
                  go_wp2_with fail
                  refine C1.out.mono ?_
                  rintro e w5 ⟨rfl, rfl⟩
                  by_cases hp : 0 ≤ q
                  · have p1 : decide (q < 0) = false := decide_eq_false (by omega)
                    have HP := Lib.hid (PI.out.1 hp)
                    clear hp C1
                    go_wp2_with fail
                    go_roundw
                    case rel => exact ⟨j + 1, by omega, by go_num, KR.out, fun d hd => by
                      rcases HTJ.out d hd with h | rfl
                      · exact N4.out d h
                      · exact HP.out⟩
                    case measure => simp [intOf]; omega
                  · have p1 : q < 0 := by omega
                    have HP := Lib.hid (fun h => hp (PI.out.2 h))
                    clear hp C1
                    go_wp2_with fail
                    go_ret
                    exact ⟨by rw [mayE_none (by omega) H8.out H9.out (M2.out z HZM.out HP.out)]; rfl, KR.out⟩
                · obtain rfl : j = ds.length := by omega
                  go_wp2_with fail
                  go_roundw
                  case rel => exact ⟨k + 1, by omega, by go_num, KR.out, fun n hn => by
                    rcases HTK.out n hn with h | h
                    · exact N3.out n h
                    · rw [h]
                      have := N4.out
                      rw [List.take_length] at this
                      exact this⟩
                  case measure => simp [intOf]; omega
            · obtain rfl : k = l.length := by omega
              have h9 := N3.out
              rw [List.take_length] at h9
              have hfine : Fine l := ⟨hl, H8.out, H9.out.1, H9.out.2, h9⟩
              have HF := Lib.hid hfine
              clear h9 N3 hfine
              go_wp2_with fail
              go_loopw [7] (fun i wr => ∃ k : Nat, k ≤ l.length ∧ i = .int .i64 k ∧ Below w.heap.size w wr ∧ ∀ n ∈ l.take k, ¬ Rch l n.id n.id) (fun i _ => l.length - (intOf i).toNat)
              case atStart => exact ⟨0, by omega, rfl, KQ.out, fun n hn => by simp at hn⟩
              case round =>
                obtain ⟨k, hk4, rfl, hkp, hall⟩ := hrel
                have KS := Lib.hid hkp
                have N5 := Lib.hid hall
                clear hkp hall KQ
                by_cases hlt4 : k < l.length
                · obtain ⟨ad, B1, c1, rfl, hb, h1, h2, hsl, hn1, hle1, hc1⟩ := H.out k hlt4
                  have h1 := (KS.out.cell (p := ad.add (k * 2)) (by rw [add_block]; exact hb)).trans h1
                  have htk : ∀ n ∈ l.take (k + 1), n ∈ l.take k ∨ n.id = l[k].id := fun n hn => (mem_take_nd hlt4 hn).imp id (fun e => by rw [e])
                  have hin : l[k].id ∈ ids l := mem_ids.2 ⟨_, List.getElem_mem _, rfl⟩
                  obtain ⟨y, hy⟩ : ∃ y, l[k].id = y := ⟨_, rfl⟩
                  rw [hy] at h1 htk hin
                  have KS1 : Below w.heap.size w wr.drew := below_drewN KS.out 1
                  have KD := Lib.hid KS1
                  have C1 := Lib.hid (refReach_any (some ad) c l y y wr.drew (H.out.over KD.out) hl (fun n hn => by have := H8.out n hn; omega))
                  have HTK := Lib.hid htk
                  have HIN := Lib.hid hin
                  clear htk hin hy h2 hsl hn1 hle1 hc1 hb KS1
                  go_wp2_with fail
                  refine wp_region_still_tail 11 (by kernel_rfl) (by kernel_rfl) ?_
                  simp only [List.take_succ_cons, List.take_zero, List.drop_succ_cons, List.drop_zero]
                  repeat still_step
                  refine wpStill_nil ?_
                  go_wp2_with fail
                  refine C1.out.mono ?_
                  rintro e w5 ⟨rfl, hb5⟩
                  have KT := Lib.hid (nextC KD.out hb5)
                  clear hb5 C1
                  by_cases hp : Rch l y y
                  · rw [(rchB_iff hl).2 hp]
                    have HP := Lib.hid hp
                    clear hp
                    go_wp2_with fail
                    go_ret
                    exact ⟨by rw [mayE_fine HF.out, if_pos ⟨y, HIN.out, HP.out⟩]; rfl, KT.out⟩
                  · rw [rchB_no hp]
                    have HP := Lib.hid hp
                    clear hp
                    go_wp2_with fail
                    go_roundw
                    case rel => exact ⟨k + 1, by omega, by go_num, KT.out, fun n hn => by
                      rcases HTK.out n hn with h | h
                      · exact N5.out n h
                      · rw [h]; exact HP.out⟩
                    case measure => simp [intOf]; omega
                · obtain rfl : k = l.length := by omega
                  go_wp2_with fail
                  go_ret
                  refine ⟨?_, KS.out⟩
                  rw [mayE_fine HF.out, if_neg]
                  · rfl
                  · rintro ⟨i, hi, hr⟩
                    obtain ⟨n, hn, rfl⟩ := mem_ids.1 hi
                    exact N5.out n (by rw [List.take_length]; exact hn) hr
end Go.Proofs.Ytceeopjmdfefjaa
