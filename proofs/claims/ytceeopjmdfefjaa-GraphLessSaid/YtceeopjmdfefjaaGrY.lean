/- Contract of graph.May. -/
import Derived.Test.YtceeopjmdfefjaaGrK
namespace Go.Proofs.Ytceeopjmdfefjaa
set_option linter.unusedVariables false
open Go.RowKit Go.Sort
theorem ids_take_len (l : List Nd) (k : Nat) (hk : k ≤ l.length) : (ids (l.take k)).length = k := by
  unfold ids
  rw [List.length_map, List.length_take]
  omega
set_option maxHeartbeats 4000000 in
set_option maxRecDepth 100000 in
theorem may_any (A : Option Addr) (c : Nat) (l : List Nd) (w : World) (h : NdS w A l) (hl : l.length ≤ 64) (hd : ∀ n ∈ l, n.deps.length ≤ 1000000) (hw : ∀ n ∈ l, (Lit.int .u64 n.id).wf = true) :
    Calls Try.prog 10 #[.slice A l.length c] w fun e w' => e = .returned (.int .i64 (mayE l)) ∧ Below w.heap.size w w' := by
  have d1 : decide ((64 : Int) < (l.length : Int)) = false := decide_eq_false (by omega)
  have H := Lib.hid h
  have HD := Lib.hid hd
  have HW := Lib.hid hw
  clear h hd hw
  go_enter Try.func10, Try.ntmps10
  go_wp2_with fail
  go_loopw [3, 17] (fun v i wr => ∃ (k : Nat) (B : Option Addr) (d : Nat), k ≤ l.length ∧ i = .int .i64 k ∧ v = .slice B (ids (l.take k)).length d ∧ OwnU w.heap.size wr B d (ids (l.take k)) ∧ Below w.heap.size w wr ∧ ∀ n ∈ l.take k, n.deps.length ≤ 8) (fun _ i _ => l.length - (intOf i).toNat)
  case atStart => exact ⟨0, none, 0, by omega, rfl, by simp [ids], by simpa [ids] using OwnU.nil w.heap.size w, Below.refl _ _, fun n hn => by simp at hn⟩
  case round =>
    obtain ⟨k, B, d, hk, rfl, rfl, hown, hnx, hall⟩ := hrel
    have HO := Lib.hid hown
    have HN := Lib.hid hnx
    have HA := Lib.hid hall
    clear hown hnx hall
    by_cases hlt : k < l.length
    · obtain ⟨ad, B1, c1, rfl, hb, h1, h2, hsl, hn1, hle1, hc1⟩ := (H.out.over HN.out) k hlt
      have hex : 8 < l[k].deps.length → ∃ n ∈ l, 8 < n.deps.length := fun h => ⟨_, List.getElem_mem _, h⟩
      have htk : ∀ n ∈ l.take (k + 1), n ∈ l.take k ∨ n.deps.length = l[k].deps.length := fun n hn => (mem_take_nd hlt hn).imp id (fun e => by rw [e])
      have hits := ids_take_succ hlt
      have hlen := ids_take_len l k (by omega)
      obtain ⟨x, hx⟩ : ∃ x, l[k].id = x := ⟨_, rfl⟩
      obtain ⟨n0, hn0⟩ : ∃ n0, l[k].deps.length = n0 := ⟨_, rfl⟩
      rw [hx] at h1 hits
      rw [hn0] at h2 hex htk
      have HE := Lib.hid hex
      have HT := Lib.hid htk
      have HIT := Lib.hid hits
      have HLN := Lib.hid hlen
      clear hx hn0 hex htk hits hlen hsl hn1 hle1 hc1
      rw [show ad.add (k * 2 + 1) = ⟨(ad.add (k * 2)).block, (ad.add (k * 2)).off + 1, none⟩ by rw [← add_add]; rfl] at h2
      go_upto_region 7 with fail
      obtain ⟨W3, hW3⟩ : ∃ W3, wr.alloc (.cells #[.int .u64 x, .slice B1 n0 c1] 35) = W3 := ⟨_, rfl⟩
      have rC : Row W3 wr.heap.size 35 #[.int .u64 x, .slice B1 n0 c1] := by rw [← hW3]; exact Row.new wr _ _
      have b3 : Below wr.heap.size wr W3 := by rw [← hW3]; exact (Below.refl _ wr).alloc (Nat.le_refl _) _
      rw [hW3]
      have z0 := rC.cell 0
      have z1 := rC.cell 1
      simp at z0 z1
      have HO3 := Lib.hid (HO.out.over b3)
      have HN3 := Lib.hid (nextC HN.out b3)
      have hz3 := HN3.out.size
      clear hW3 rC b3 HO HN h1 h2 hb
      by_cases ht : 8 < n0
      · have t1 : (8 : Int) < (n0 : Int) := by omega
        have HX := Lib.hid (HE.out ht)
        clear ht
        go_wp2_with fail
        go_ret
        exact ⟨by rw [mayE_deps (by omega) HX.out]; rfl, HN3.out⟩
      · have t1 : decide ((8 : Int) < (n0 : Int)) = false := decide_eq_false (by omega)
        have HNN := Lib.hid ht
        clear ht
        go_wp2_with (at_builtin; refine app1U rfl _ _ rfl w.heap.size B _ d (ids (l.take k)) x rfl rfl HO3.out rfl hz3 (by rw [HLN.out]; omega) ?_; intro B' d' w5 hown5 hg5 hb5; have HO5 := Lib.hid hown5; have HN5 := Lib.hid (HN3.out.trans hb5); clear hown5 hb5 hg5)
        go_roundw
        case rel => exact ⟨k + 1, B', d', by omega, by go_num, by rw [HIT.out, List.length_append]; rfl, by rw [HIT.out]; exact HO5.out, HN5.out, fun n hn => by
          rcases HT.out n hn with h | h
          · exact HA.out n h
          · have := HNN.out; omega⟩
        case measure => simp [intOf]; omega
    · obtain rfl : k = l.length := by omega
      have h8 := HA.out
      rw [List.take_length] at h8 HO
      have H8 := Lib.hid h8
      have hil : (ids l).length = l.length := by unfold ids; rw [List.length_map]
      obtain ⟨il, hIL⟩ : ∃ il, ids l = il := ⟨_, rfl⟩
      rw [hIL] at HO hil
      rw [List.take_length, hIL]
      have C1 := Lib.hid (twice_any B d il (by omega) wr HO.out.sl)
      have HI := Lib.hid hIL
      have HIL := Lib.hid hil
      clear h8 HA hIL hil
      go_wp2_with fail
      refine C1.out.mono ?_
      rintro e w2 ⟨rfl, hb2⟩
      have O2 := Lib.hid (HO.out.over hb2)
      have N2 := Lib.hid (nextC HN.out hb2)
      clear hb2 C1 HO HN
      by_cases hnd : il.Nodup
      · rw [decide_eq_true hnd]
        have ND := Lib.hid hnd
        clear hnd
        go_wp2_with fail
        go_loopw [35] (fun i wr => ∃ k : Nat, k ≤ l.length ∧ i = .int .i64 k ∧ OwnU w.heap.size wr B d il ∧ Below w.heap.size w wr ∧ ∀ n ∈ l.take k, n.deps.Nodup) (fun i _ => l.length - (intOf i).toNat)
        case atStart => exact ⟨0, by omega, rfl, O2.out, N2.out, fun n hn => by simp at hn⟩
        case round =>
          obtain ⟨k, hk2, rfl, hown, hkp, hnn⟩ := hrel
          have O3 := Lib.hid hown
          have K3 := Lib.hid hkp
          have A3 := Lib.hid hnn
          clear hown hkp hnn O2 N2
          by_cases hlt2 : k < l.length
          · obtain ⟨ad, B1, c1, rfl, hb, h1, h2, hsl, hn1, hle1, hc1⟩ := (H.out.over K3.out) k hlt2
            have htk : ∀ n ∈ l.take (k + 1), n ∈ l.take k ∨ n.deps = l[k].deps := fun n hn => (mem_take_nd hlt2 hn).imp id (fun e => by rw [e])
            have hm2 : ¬ l[k].deps.Nodup → ¬ ∀ n ∈ l, n.deps.Nodup := fun hn ha => hn (ha _ (List.getElem_mem _))
            have hdl := HD.out l[k] (List.getElem_mem _)
            obtain ⟨y, hy⟩ : ∃ y, l[k].id = y := ⟨_, rfl⟩
            obtain ⟨ds, hds⟩ : ∃ ds, l[k].deps = ds := ⟨_, rfl⟩
            rw [hy] at h1
            rw [hds] at h2 hsl hdl htk hm2
            have HTK := Lib.hid htk
            have M2 := Lib.hid hm2
            have HSL := Lib.hid hsl
            rw [show ad.add (k * 2 + 1) = ⟨(ad.add (k * 2)).block, (ad.add (k * 2)).off + 1, none⟩ by rw [← add_add]; rfl] at h2
            clear hy hds htk hm2 hsl hn1 hle1 hc1
            go_upto_region 16 with fail
            obtain ⟨W3, hW3⟩ : ∃ W3, wr.alloc (.cells #[.int .u64 y, .slice B1 ds.length c1] 35) = W3 := ⟨_, rfl⟩
            have rC : Row W3 wr.heap.size 35 #[.int .u64 y, .slice B1 ds.length c1] := by rw [← hW3]; exact Row.new wr _ _
            have b3 : Below wr.heap.size wr W3 := by rw [← hW3]; exact (Below.refl _ wr).alloc (Nat.le_refl _) _
            rw [hW3]
            have z0 := rC.cell 0
            have z1 := rC.cell 1
            simp at z0 z1
            have C2 := Lib.hid (twice_any B1 c1 ds hdl W3 (HSL.out.over b3))
            have O4 := Lib.hid (O3.out.over b3)
            have K4 := Lib.hid (nextC K3.out b3)
            clear hW3 rC b3 O3 K3 h1 h2 hb
            go_wp2_with fail
            refine C2.out.mono ?_
            rintro e w5 ⟨rfl, hb5⟩
            have O5 := Lib.hid (O4.out.over hb5)
            have K5 := Lib.hid (nextC K4.out hb5)
            clear hb5 C2 O4 K4
            by_cases hn : ds.Nodup
            · rw [decide_eq_true hn]
              have HN2 := Lib.hid hn
              clear hn
              go_wp2_with fail
              go_roundw
              case rel => exact ⟨k + 1, by omega, by go_num, O5.out, K5.out, fun n hn => by
                rcases HTK.out n hn with h | h
                · exact A3.out n h
                · rw [h]; exact HN2.out⟩
              case measure => simp [intOf]; omega
            · rw [decide_eq_false hn]
              have HN2 := Lib.hid hn
              clear hn
              go_wp2_with fail
              go_ret
              exact ⟨by rw [mayE_twice (by omega) H8.out (fun h => M2.out HN2.out h.2)]; rfl, K5.out⟩
          · obtain rfl : k = l.length := by omega
            have h9 := A3.out
            rw [List.take_length] at h9
            have H9 := Lib.hid (show (ids l).Nodup ∧ ∀ n ∈ l, n.deps.Nodup from ⟨by rw [HI.out]; exact ND.out, h9⟩)
            clear h9 A3 ND
            go_wp2_with fail
            go_loopw [45] (fun i wr => ∃ k : Nat, k ≤ l.length ∧ i = .int .i64 k ∧ OwnU w.heap.size wr B d il ∧ Below w.heap.size w wr ∧ ∀ n ∈ l.take k, ∀ d ∈ n.deps, d ∈ il) (fun i _ => l.length - (intOf i).toNat)
            case atStart => exact ⟨0, by omega, rfl, O3.out, K3.out, fun n hn => by simp at hn⟩
            case round =>
              obtain ⟨k, hk3, rfl, hown, hkp, hall⟩ := hrel
              have O6 := Lib.hid hown
              have K6 := Lib.hid hkp
              have N3 := Lib.hid hall
              clear hown hkp hall O3 K3
              by_cases hlt3 : k < l.length
              · obtain ⟨ad, B1, c1, rfl, hb, h1, h2, hsl, hn1, hle1, hc1⟩ := (H.out.over K6.out) k hlt3
                have htk : ∀ n ∈ l.take (k + 1), n ∈ l.take k ∨ n.deps = l[k].deps := fun n hn => (mem_take_nd hlt3 hn).imp id (fun e => by rw [e])
                have hm2 : ∀ d, d ∈ l[k].deps → ¬ d ∈ il → ¬ ∀ n ∈ l, ∀ d ∈ n.deps, d ∈ ids l := fun d h1 h2 h => h2 (by rw [← HI.out]; exact h _ (List.getElem_mem _) d h1)
                have hdl := HD.out l[k] (List.getElem_mem _)
                obtain ⟨y, hy⟩ : ∃ y, l[k].id = y := ⟨_, rfl⟩
                obtain ⟨ds, hds⟩ : ∃ ds, l[k].deps = ds := ⟨_, rfl⟩
                rw [hy] at h1
                rw [hds] at h2 hsl hdl htk hm2
                have HTK := Lib.hid htk
                have M2 := Lib.hid hm2
                rw [show ad.add (k * 2 + 1) = ⟨(ad.add (k * 2)).block, (ad.add (k * 2)).off + 1, none⟩ by rw [← add_add]; rfl] at h2
                go_upto_region 22 with fail
                obtain ⟨W3, hW3⟩ : ∃ W3, wr.alloc (.cells #[.int .u64 y, .slice B1 ds.length c1] 35) = W3 := ⟨_, rfl⟩
                have rC : Row W3 wr.heap.size 35 #[.int .u64 y, .slice B1 ds.length c1] := by rw [← hW3]; exact Row.new wr _ _
                have b3 : Below wr.heap.size wr W3 := by rw [← hW3]; exact (Below.refl _ wr).alloc (Nat.le_refl _) _
                rw [hW3]
                have z0 := rC.cell 0
                have z1 := rC.cell 1
                simp at z0 z1
                have HSL := Lib.hid (hsl.over b3)
                have O7 := Lib.hid (O6.out.over b3)
                have K7 := Lib.hid (nextC K6.out b3)
                have CC := Lib.hid (fun z => contains_any B d il z W3 O7.out.sl (by have := HIL.out; omega))
                clear hy hds htk hm2 hsl hn1 hle1 hc1 hW3 rC b3 O6 K6 h1 h2 hb
                go_wp2_with fail
                go_loop [52] (fun i => ∃ j : Nat, j ≤ ds.length ∧ i = .int .i64 j ∧ ∀ d ∈ ds.take j, d ∈ il) (fun i => ds.length - (intOf i).toNat)
                case atStart => exact ⟨0, by omega, rfl, fun d hd => by simp at hd⟩
                case round =>
                  obtain ⟨j, hj, rfl, hall⟩ := hrel
                  have N4 := Lib.hid hall
                  clear hall
                  by_cases hlj : j < ds.length
                  · obtain ⟨dd, rfl, hdb, hdc⟩ := HSL.out j hlj
                    have htj : ∀ d ∈ ds.take (j + 1), d ∈ ds.take j ∨ d = ds[j] := fun d hd => mem_take_succ hlj hd
                    have hzm : ds[j] ∈ ds := List.getElem_mem _
                    obtain ⟨z, hz⟩ : ∃ z, ds[j] = z := ⟨_, rfl⟩
                    rw [hz] at hdc htj hzm
                    have C1 := Lib.hid (CC.out z)
                    have HTJ := Lib.hid htj
                    have HZM := Lib.hid hzm
                    clear hz htj hzm hdb
                    go_wp2_with fail
                    refine C1.out.mono ?_
                    rintro e w5 ⟨rfl, rfl⟩
                    by_cases hp : z ∈ il
                    · rw [decide_eq_true hp]
                      have HP := Lib.hid hp
                      clear hp C1
                      go_wp2_with fail
                      go_round
                      case rel => exact ⟨j + 1, by omega, by go_num, fun d hd => by
                        rcases HTJ.out d hd with h | rfl
                        · exact N4.out d h
                        · exact HP.out⟩
                      case measure => simp [intOf]; omega
                    · rw [decide_eq_false hp]
                      have HP := Lib.hid hp
                      clear hp C1
                      go_wp2_with fail
                      go_ret
                      exact ⟨by rw [mayE_none (by omega) H8.out H9.out (M2.out z HZM.out HP.out)]; rfl, K7.out⟩
                  · obtain rfl : j = ds.length := by omega
                    go_wp2_with fail
                    go_roundw
                    case rel => exact ⟨k + 1, by omega, by go_num, O7.out, K7.out, fun n hn => by
                      rcases HTK.out n hn with h | h
                      · exact N3.out n h
                      · rw [h]
                        have := N4.out
                        rw [List.take_length] at this
                        exact this⟩
                    case measure => simp [intOf]; omega
              · obtain rfl : k = l.length := by omega
                have h9 := N3.out
                rw [List.take_length] at h9
                have hfine : Fine l := ⟨hl, H8.out, H9.out.1, H9.out.2, by rw [HI.out]; exact h9⟩
                have HF := Lib.hid hfine
                have C1 := Lib.hid (order_any A c l wr (H.out.over K6.out) hfine HW.out)
                clear h9 N3 hfine
                go_wp2_with fail
                refine C1.out.mono ?_
                rintro e w5 ⟨Bo, dO, out, rfl, hends, _, hb5⟩
                have K8 := Lib.hid (nextC K6.out hb5)
                have hme := mayE_ends HF.out hends
                have HME := Lib.hid hme
                clear hme hb5 C1 hends
                by_cases hlo : out.length < l.length
                · have t1 : (out.length : Int) < (l.length : Int) := by omega
                  have HL := Lib.hid hlo
                  clear hlo
                  go_wp2_with fail
                  go_ret
                  exact ⟨by rw [HME.out, if_pos HL.out]; rfl, K8.out⟩
                · have t1 : decide ((out.length : Int) < (l.length : Int)) = false := decide_eq_false (by omega)
                  have HL := Lib.hid hlo
                  clear hlo
                  go_wp2_with fail
                  go_ret
                  exact ⟨by rw [HME.out, if_neg HL.out]; rfl, K8.out⟩
      · rw [decide_eq_false hnd]
        have ND := Lib.hid hnd
        clear hnd
        go_wp2_with fail
        go_ret
        exact ⟨by rw [mayE_twice (by omega) H8.out (fun h => ND.out (by rw [← HI.out]; exact h.1))]; rfl, N2.out⟩
end Go.Proofs.Ytceeopjmdfefjaa
