/- GraphOrder: in an order each one stands once, behind all whom it reaches; there is one just if nobody reaches themselves; with one Dep more, of somebody who is not reached back, there still is one. No condition. -/
import Derived.Test.YtceeopjmdfefjaaGrT
import Derived.Test.YtceeopjmdfefjaaGrD
import Derived.Test.YtceeopjmdfefjaaGrO
import Derived.Test.YtceeopjmdfefjaaPost
import Derived.Test.YtceeopjmdfefjaaOpenS
import Derived.Test.YtceeopjmdfefjaaGrZ
import Derived.Test.YtceeopjmdfefjaaQc
import Derived.StillTail
import Derived.Deep.RegionHeldLaw
import Derived.Deep.RegionLaw
import Derived.Deep.DeepCutAuto
namespace Go.Proofs.Ytceeopjmdfefjaa.graphOrder
open Go.ChangeShapes Go.WideShapes Go.ChangeAt Go.RowKit
set_option linter.unusedVariables false

theorem laidOut : laidOutB Try.prog = true := by kernel_rfl
theorem own : ownKnob Try.prog.godebug = none := by kernel_rfl
theorem sl_next (w : World) (o : Obj) (z : Int) : Sl ((w.alloc o).alloc (.cells #[.int .u64 z] 23)) .u64 (some ⟨w.heap.size + 1, 0, none⟩) [z] := by
  have := sl_row [z] (Row.new (w.alloc o) 23 #[.int .u64 z]) rfl
  rwa [show (w.alloc o).heap.size = w.heap.size + 1 by simp] at this
set_option maxHeartbeats 4000000 in
set_option maxRecDepth 100000 in
theorem walk (A : Option Addr) (c : Nat) (l : List Nd) (x y : Int) (w : World) (h : NdS w A l) (hlc : l.length ≤ c) (hcm : c ≤ maxLen) (hw : ∀ n ∈ l, (Lit.int .u64 n.id).wf = true ∧ ∀ x ∈ n.deps, (Lit.int .u64 x).wf = true)
    (hx : -9223372036854775808 ≤ x ∧ x ≤ 9223372036854775807) (hy : -9223372036854775808 ≤ y ∧ y ≤ 9223372036854775807) :
    Calls Try.prog 4 #[.slice A l.length c, .int .i64 x, .int .i64 y] w fun e w' => e = .returned (.bool true) ∧ Below w.heap.size w w' := by
  have H := Lib.hid h
  have HW := Lib.hid hw
  have hl63 : l.length ≤ 9223372036854775807 := by unfold maxLen at hcm; omega
  clear h hw
  go_enter Try.func4, Try.ntmps4
  go_wp2_with fail
  refine (known_any w).mono ?_
  rintro e w1 ⟨rfl, hb1⟩
  have K1 := Lib.hid hb1
  clear hb1
  go_wp2_with fail
  refine (great_any A c l w1 (H.out.over K1.out) hl63).mono ?_
  rintro e w2 ⟨rfl, rfl⟩
  rcases hg : greatB l with _ | _
  rotate_left
  · go_wp2_with fail
    go_ret
    exact ⟨rfl, K1.out⟩
  obtain ⟨hl70, hd12⟩ := greatB_no hg
  have HD := Lib.hid hd12
  clear hg hd12
  go_wp2_with fail
  refine (ordG_all A c l _ (H.out.over K1.out) HD.out (fun n hn => (HW.out n hn).1)).mono ?_
  rintro e w3 ⟨hb3, B3, d3, o3, rfl, hi3, ho3⟩
  have K3 := Lib.hid (nextC K1.out hb3)
  have S3 := Lib.hid ho3.sl
  have I3 := Lib.hid hi3
  clear hb3 ho3 hi3 K1
  obtain ⟨m0, hm0⟩ : ∃ m0, mayE l = m0 := ⟨_, rfl⟩
  rw [hm0] at I3 ⊢
  have HM := Lib.hid hm0
  clear hm0
  by_cases hm1 : m0 = 131
  · subst hm1
    as_aux_lemma =>
    have hcr := order_circle HM.out
    obtain ⟨k0, hk0, hr0⟩ := hcr
    have HR := Lib.hid hr0
    clear hr0 I3 S3
    go_wp2_with fail
    go_loopw [9] (fun i wr => ∃ k : Nat, k ≤ k0 ∧ i = .int .i64 k ∧ Below w.heap.size w wr) (fun i _ => k0 + 1 - (intOf i).toNat)
    case atStart => exact ⟨0, by omega, rfl, K3.out⟩
    case round =>
      obtain ⟨k, hk, rfl, hkp⟩ := hrel
      have KS := Lib.hid hkp
      clear hkp K3
      have hlt : k < l.length := by omega
      obtain ⟨ad, B1, c1, rfl, hb, h1, h2, hsl, hn1, hle1, hc1⟩ := H.out k hlt
      have h1 := (KS.out.cell (p := ad.add (k * 2)) (by rw [add_block]; exact hb)).trans h1
      have hkk : k = k0 → rchB l l[k].id l[k].id = true := fun e => by subst e; exact HR.out
      obtain ⟨z, hz⟩ : ∃ z, l[k].id = z := ⟨_, rfl⟩
      rw [hz] at h1 hkk
      have KD := Lib.hid (show Below w.heap.size w wr.drew from below_drewN KS.out 1)
      have C1 := Lib.hid (reachG_all (some ad) c l wr.drew z z (H.out.over KD.out) HD.out (fun n hn => (HW.out n hn).2))
      have HK := Lib.hid hkk
      clear hkk hz h2 hsl hn1 hle1 hc1 hb
      go_wp2_with fail
      refine wp_region_still_tail 11 (by kernel_rfl) (by kernel_rfl) ?_
      simp only [List.take_succ_cons, List.take_zero, List.drop_succ_cons, List.drop_zero]
      repeat still_step
      refine wpStill_nil ?_
      go_wp2_with fail
      refine C1.out.mono ?_
      rintro e w5 ⟨rfl, hb5⟩
      have KT := Lib.hid (nextC KD.out hb5)
      clear hb5 C1
      rcases hp : rchB l z z with _ | _
      · have hne : k ≠ k0 := fun e => by
          have := HK.out e
          rw [hp] at this
          cases this
        have HN := Lib.hid hne
        clear hp hne
        go_wp2_with fail
        go_roundw
        case rel => exact ⟨k + 1, by have := HN.out; omega, by go_num, KT.out⟩
        case measure => simp [intOf]; omega
      · go_wp2_with fail
        go_ret
        exact ⟨rfl, KT.out⟩
  have t131 : (m0 == 131) = false := beq_eq_false_iff_ne.2 hm1
  by_cases hm2 : m0 = 0
  rotate_left
  · have t0 : (m0 != 0) = true := by simpa using hm2
    go_wp2_with fail
    go_ret
    exact ⟨rfl, K3.out⟩
  subst hm2
  have hi := I3.out
  rw [if_pos rfl] at hi
  have hol := order_whole HM.out hi
  have OB := Lib.hid (order_behind HM.out hi)
  have OO := Lib.hid (order_once hi)
  clear hi I3 hm1
  have tl : ((o3.length : Int) != (l.length : Int)) = false := by rw [hol]; simp
  go_wp2_with fail
  go_loopw [10] (fun i wr => ∃ k : Nat, k ≤ l.length ∧ i = .int .i64 k ∧ Below w3.heap.size w3 wr) (fun i _ => l.length - (intOf i).toNat)
  case atStart => exact ⟨0, by omega, rfl, Below.refl _ _⟩
  case round =>
    obtain ⟨i, hi, rfl, hkp⟩ := hrel
    have KP := Lib.hid hkp
    clear hkp
    by_cases hlt : i < l.length
    · as_aux_lemma =>
      have t1 : (i : Int) < (o3.length : Int) := by omega
      go_wp2_with fail
      go_loopw [11] (fun j wr => ∃ k : Nat, i ≤ k ∧ k ≤ l.length ∧ j = .int .i64 k ∧ Below w3.heap.size w3 wr) (fun j _ => l.length - (intOf j).toNat)
      case atStart => exact ⟨i, by omega, by omega, rfl, KP.out⟩
      case round =>
        obtain ⟨k, hik, hk, rfl, hkp⟩ := hrel
        have KQ := Lib.hid hkp
        clear hkp KP
        by_cases hlt2 : k < l.length
        · have t2 : (k : Int) < (o3.length : Int) := by omega
          obtain ⟨od, rfl, hb1, hc1⟩ := S3.out i (by omega)
          obtain ⟨od', e2, hb2, hc2⟩ := S3.out k (by omega)
          injection e2 with e2
          subst e2
          have hrb := OB.out i k hik (by omega)
          have hne : i < k → (o3[i]'(by omega) == o3[k]'(by omega)) = false := fun h => beq_eq_false_iff_ne.2 (OO.out i k h (by omega))
          obtain ⟨u, hu⟩ : ∃ u, o3[i]'(by omega) = u := ⟨_, rfl⟩
          obtain ⟨v, hv⟩ : ∃ v, o3[k]'(by omega) = v := ⟨_, rfl⟩
          rw [hu] at hc1 hrb hne
          rw [hv] at hc2 hrb hne
          have L1 := Lib.hid (show (od.add i).block < w3.heap.size by rw [add_block]; exact hb1)
          have L2 := Lib.hid (show (od.add k).block < w3.heap.size by rw [add_block]; exact hb2)
          have c1 := (KQ.out.cell (p := od.add i) (by rw [add_block]; exact hb1)).trans hc1
          have c2 := (KQ.out.cell (p := od.add k) (by rw [add_block]; exact hb2)).trans hc2
          have C1 := Lib.hid (fun W (hW : Below w3.heap.size w3 W) => show Calls Try.prog 15 #[.slice A l.length c, .int .u64 u, .int .u64 v] W fun e w' => e = .returned (.bool false) ∧ Below W.heap.size W w' from by
            have := reachG_all A c l W u v (H.out.over (nextC K3.out hW)) HD.out (fun n hn => (HW.out n hn).2)
            rwa [hrb] at this)
          clear hu hv hrb hb1 hb2
          clear S3 OB OO
          obtain ⟨T, F, hT, hF, hG⟩ := class_of (fun v' => v'.cell? (od.add i) = some (.int .u64 u) ∧ v'.cell? (od.add k) = some (.int .u64 v) ∧ Below w3.heap.size w3 v') wr.drew ⟨c1, c2, below_drewN KQ.out 1⟩
          have q1 := fun n => (hF n).1
          have q2 := fun n => (hF n).2.1
          have C2 := Lib.hid (fun n => show Calls Try.prog 15 #[.slice A l.length c, .int .u64 u, .int .u64 v] (F n) fun e w' => e = .returned (.bool false) ∧ ∃ m, w' = F m from
            (C1.out _ (hF n).2.2).mono fun e w' ⟨he, hb⟩ => ⟨he, hG _ (sa_below L1.out L2.out hb (hF n))⟩)
          have Q0 := Lib.hid (hG wr.drew ⟨c1, c2, below_drewN KQ.out 1⟩)
          have QB := Lib.hid (fun n => (hF n).2.2)
          clear hF hG c1 c2 C1 L1 L2 hc1 hc2
          have hif : (i < k ∧ (u == v) = false) ∨ ¬ i < k := by
            by_cases h : i < k
            · exact .inl ⟨h, hne h⟩
            · exact .inr h
          clear hne
          rcases hif with ⟨hik2, t4⟩ | hik2
          · have t3 : (i : Int) < (k : Int) := by omega
            go_wp2_with fail
            refine wp_region_class F (by kernel_rfl) (by kernel_rfl) Q0.out ?_
            repeat (go_big_quiet_step ((go_at_call 15; exact C2.out _)))
            refine wpQuiet_nil ?_
            rintro _ ⟨nq, rfl⟩
            go_wp2_with fail
            go_roundw
            case rel => exact ⟨k + 1, by omega, by omega, by go_num, QB.out nq⟩
            case measure => simp [intOf]; omega
          · have t3 : decide ((i : Int) < (k : Int)) = false := decide_eq_false (by omega)
            have t3n : decide (i < k) = false := decide_eq_false hik2
            go_wp2_with fail
            refine wp_region_class F (by kernel_rfl) (by kernel_rfl) Q0.out ?_
            repeat (go_big_quiet_step ((go_at_call 15; exact C2.out _)))
            refine wpQuiet_nil ?_
            rintro _ ⟨nq, rfl⟩
            go_wp2_with fail
            go_roundw
            case rel => exact ⟨k + 1, by omega, by omega, by go_num, QB.out nq⟩
            case measure => simp [intOf]; omega
        · obtain rfl : k = l.length := by omega
          have t2 : decide ((l.length : Int) < (o3.length : Int)) = false := decide_eq_false (by omega)
          go_wp2_with fail
          go_roundw
          case rel => exact ⟨i + 1, by omega, by go_num, KQ.out⟩
          case measure => simp [intOf]; omega
    · obtain rfl : i = l.length := by omega
      have t1 : decide ((l.length : Int) < (o3.length : Int)) = false := decide_eq_false (by omega)
      clear OB OO
      as_aux_lemma =>
      have K4 := Lib.hid (nextC K3.out KP.out)
      clear K3 KP S3
      by_cases hl0 : l.length = 0
      · have t3 : ((l.length : Int) == 0) = true := by rw [hl0]; rfl
        go_wp2_with fail
        go_ret
        exact ⟨rfl, K4.out⟩
      have t3 : ((l.length : Int) == 0) = false := beq_eq_false_iff_ne.2 (by omega)
      by_cases hx0 : x < 0
      · go_wp2_with fail
        go_ret
        exact ⟨rfl, K4.out⟩
      have t4 : decide (x < 0) = false := decide_eq_false hx0
      by_cases hy0 : y < 0
      · go_wp2_with fail
        go_ret
        exact ⟨rfl, K4.out⟩
      have t5 : decide (y < 0) = false := decide_eq_false hy0
      have hln : ¬ l = [] := fun e => by rw [e] at hl0; simp at hl0
      obtain ⟨f, hf⟩ : ∃ f : Nat, x.toNat % l.length = f := ⟨_, rfl⟩
      have hfl : f < l.length := by rw [← hf]; exact Nat.mod_lt _ (by omega)
      have hfm : x.tmod (l.length : Int) = (f : Int) := by
        obtain ⟨n, rfl⟩ := Int.eq_ofNat_of_zero_le (show 0 ≤ x by omega)
        rw [Int.tmod_eq_emod_of_nonneg (by omega), ← hf]; simp
      obtain ⟨t, ht⟩ : ∃ t : Nat, y.toNat % l.length = t := ⟨_, rfl⟩
      have htl : t < l.length := by rw [← ht]; exact Nat.mod_lt _ (by omega)
      have htm : y.tmod (l.length : Int) = (t : Int) := by
        obtain ⟨n, rfl⟩ := Int.eq_ofNat_of_zero_le (show 0 ≤ y by omega)
        rw [Int.tmod_eq_emod_of_nonneg (by omega), ← ht]; simp
      clear hf ht
      have t6 : ((l.length : Int) = 0) = False := eq_false (by omega)
      go_upto_region 27 with fail
      go_big_quiet (fail)
      obtain ⟨V, hV⟩ : ∃ V, wr.drewN nq = V := ⟨_, rfl⟩
      have KV := Lib.hid (show Below w.heap.size w V by rw [← hV]; exact below_drewN K4.out nq)
      rw [hV]
      clear hV K4
      obtain ⟨ad, Bf, cf, rfl, hbf, h1f, h2f, hslf, hn0f, hle1f, hc1f⟩ := (H.out.over KV.out) f hfl
      obtain ⟨ad', Bt, ct, e2, hbt, h1t, -, -, -, -, -⟩ := (H.out.over KV.out) t htl
      injection e2 with e2
      subst e2
      obtain ⟨us, hus, hcell, hone⟩ := (H.out.over KV.out).cells
      have HU := Lib.hid hus
      have HC := Lib.hid (fun (o : Obj) j u (hu : us[j]? = some u) => show (V.alloc o).cell? (ad.add j) = some u from (World.cell?_alloc_lt V o _ (World.block_lt_of_cell? _ _ (hcell j u hu))).trans (hcell j u hu))
      have HO := Lib.hid hone
      have hdl := HD.out l[f] (List.getElem_mem _)
      obtain ⟨z, hz⟩ : ∃ z, l[t].id = z := ⟨_, rfl⟩
      obtain ⟨ds, hds⟩ : ∃ ds, l[f].deps = ds := ⟨_, rfl⟩
      rw [hz] at h1t
      rw [hds] at h2f hslf hdl
      have HZ := Lib.hid hz
      have HDS := Lib.hid hds
      have HSF := Lib.hid hslf
      have HBF := Lib.hid hbf
      have HBT := Lib.hid hbt
      have HN0 := Lib.hid hn0f
      have H1F := Lib.hid h1f
      have H2F := Lib.hid h2f
      have H1T := Lib.hid h1t
      clear hus hcell hone hz hds hslf hbf hbt hn0f h1f h2f h1t hc1f hle1f
      go_wp2_with (at_builtin; refine appSN rfl _ _ rfl V.heap.size (some ⟨V.heap.size, 0, none⟩) 0 0 [] rfl rfl (OwnN.made0 V V _ (Nat.le_refl _)) ad c l _ rfl rfl us HU.out (HC.out _) HO.out (by simp) (by simp; omega) ?_)
      intro B5 d5 w5 hown5 hg5 hb5
      have hb5' : Below V.heap.size V w5 := ((Below.refl _ V).alloc (Nat.le_refl _) _).trans hb5
      obtain ⟨g, hg, hgb⟩ : ∃ g, B5 = some ⟨g, 0, none⟩ ∧ V.heap.size ≤ g := by
        obtain ⟨us', ho, _⟩ := hown5
        rcases ho.2 with ⟨e, e0⟩ | ⟨g, cap, cur, e, hb, _⟩
        · omega
        · injection e with e1 e2 e3; exact ⟨g, e1, hb⟩
      subst hg
      have OW := Lib.hid hown5
      have KW := Lib.hid hb5'
      have HG := Lib.hid hgb
      clear hown5 hg5 hb5 hb5' hgb
      go_upto_region 29 with fail
      have c1 : w5.cell? ⟨(ad.add (f * 2)).block, (ad.add (f * 2)).off + 1, none⟩ = some (.slice Bf ds.length cf) := by
        have := H2F.out
        rw [show ad.add (f * 2 + 1) = ⟨(ad.add (f * 2)).block, (ad.add (f * 2)).off + 1, none⟩ by rw [← add_add]; rfl] at this
        exact (KW.out.cell (p := ⟨(ad.add (f * 2)).block, (ad.add (f * 2)).off + 1, none⟩) (show (ad.add (f * 2)).block < V.heap.size by rw [add_block]; exact HBF.out)).trans this
      have c2 : w5.cell? (ad.add (t * 2)) = some (.int .u64 z) := (KW.out.cell (show (ad.add (t * 2)).block < V.heap.size by rw [add_block]; exact HBT.out)).trans H1T.out
      have L1 := Lib.hid (show (⟨(ad.add (f * 2)).block, (ad.add (f * 2)).off + 1, none⟩ : Addr).block < w5.heap.size from Nat.lt_of_lt_of_le (by rw [add_block]; exact HBF.out) KW.out.size)
      have L2 := Lib.hid (show (ad.add (t * 2)).block < w5.heap.size from Nat.lt_of_lt_of_le (by rw [add_block]; exact HBT.out) KW.out.size)
      have V1 := Lib.hid (show (⟨(ad.add (f * 2)).block, (ad.add (f * 2)).off + 1, none⟩ : Addr).block < V.heap.size from (by rw [add_block]; exact HBF.out))
      have V2 := Lib.hid (show (ad.add (t * 2)).block < V.heap.size from (by rw [add_block]; exact HBT.out))
      have S5 := Lib.hid (show w5.cell? ⟨(ad.add (f * 2)).block, (ad.add (f * 2)).off + 1, none⟩ = some (.slice Bf ds.length cf) ∧ w5.cell? (ad.add (t * 2)) = some (.int .u64 z) ∧ Below w5.heap.size w5 w5 from ⟨c1, c2, Below.refl _ _⟩)
      have S5d := Lib.hid (sa_drew S5.out)
      have HS5 := Lib.hid (HSF.out.over KW.out)
      have SZ := Lib.hid (fun (W : World) => sl_row [z] (Row.new W 23 #[.int .u64 z]) rfl)
      have HD5 := Lib.hid hdl
      have GL := Lib.hid (show g < w5.heap.size from by obtain ⟨us', ho, _⟩ := OW.out; exact (ho.lt g rfl).2)
      have O1 := Lib.hid (fun w7 (h : Below w5.heap.size w5 w7) => ((OW.out.over h).at1 f hfl))
      clear H2F c1 c2
      go_cut [] (fun wx => Below V.heap.size V wx ∧ NdS wx (some ⟨g, 0, none⟩) (oneMore l f z))
      case first =>
        go_region_held_law (fun v => v.cell? ⟨(ad.add (f * 2)).block, (ad.add (f * 2)).off + 1, none⟩ = some (.slice Bf ds.length cf) ∧ v.cell? (ad.add (t * 2)) = some (.int .u64 z) ∧ Below V.heap.size V v)
          (first | exact sa_to KW.out S5d.out | exact sa_to KW.out (sa_drew (sa_alloc _ L1.out L2.out S5.out)) | exact sa_to KW.out (sa_drew (sa_alloc _ L1.out L2.out (sa_alloc _ L1.out L2.out S5.out))) | exact sa_store V1.out V2.out HG.out _ (sa_to KW.out hk7.out) | exact sa_to KW.out hk7.out | exact sa_to KW.out (sa_alloc _ L1.out L2.out hk6.out) | exact sa_to KW.out hk6.out)
          (first
            | (refine stepSU rfl 119 rfl (.tmp 113) (.tmp 118) rfl w5.heap.size (some ⟨w5.heap.size, 0, none⟩) 0 0 [] rfl (by rfl) ((OwnU.made0 w5 _ (Nat.le_refl _)).drew) Bf ds.length cf ds rfl (by rfl) ((HS5.out.alloc _).drew) HN0.out (sa_b (sa_drew (sa_alloc _ L1.out L2.out S5.out))).size (by rw [List.length_nil]; have := HD5.out; omega) ?_; intro B6 d6 w6 hown6 hg6 hb6; have hk6 := Lib.hid (sa_low L1.out L2.out hb6 (sa_drew (sa_alloc _ L1.out L2.out S5.out))); have ho6 := Lib.hid hown6; clear hown6 hg6 hb6)
            | (refine stepSU rfl 119 rfl (.tmp 113) (.tmp 118) rfl w5.heap.size (some ⟨w5.heap.size, 0, none⟩) 0 0 [] rfl (by rfl) (((OwnU.made0 w5 _ (Nat.le_refl _)).alloc _).drew) Bf ds.length cf ds rfl (by rfl) (((HS5.out.alloc _).alloc _).drew) HN0.out (sa_b (sa_drew (sa_alloc _ L1.out L2.out (sa_alloc _ L1.out L2.out S5.out)))).size (by rw [List.length_nil]; have := HD5.out; omega) ?_; intro B6 d6 w6 hown6 hg6 hb6; have hk6 := Lib.hid (sa_low L1.out L2.out hb6 (sa_drew (sa_alloc _ L1.out L2.out (sa_alloc _ L1.out L2.out S5.out)))); have ho6 := Lib.hid hown6; have hz6 := Lib.hid (sl_grown hg6 ((sl_next w5 (.cells #[] 23) z).drew) (by simp [Value.ownBlock])); clear hown6 hg6 hb6)
            | (refine stepSU rfl 119 rfl (.tmp 113) (.tmp 118) rfl w5.heap.size (some ⟨w5.heap.size + 1, 0, none⟩) 0 0 [] rfl (by rfl) ((made0_next w5 _).drew) Bf ds.length cf ds rfl (by rfl) (((HS5.out.alloc _).alloc _).drew) HN0.out (sa_b (sa_drew (sa_alloc _ L1.out L2.out (sa_alloc _ L1.out L2.out S5.out)))).size (by rw [List.length_nil]; have := HD5.out; omega) ?_; intro B6 d6 w6 hown6 hg6 hb6; have hk6 := Lib.hid (sa_low L1.out L2.out hb6 (sa_drew (sa_alloc _ L1.out L2.out (sa_alloc _ L1.out L2.out S5.out)))); have ho6 := Lib.hid hown6; have hz6 := Lib.hid (sl_grown hg6 (((SZ.out w5).alloc _).drew) (by simp [Value.ownBlock])); clear hown6 hg6 hb6)
            | (refine stepSU rfl 126 rfl (.tmp 119) (.tmp 125) rfl w5.heap.size B6 ds.length d6 ds rfl (by rfl) (ho6.out.alloc _) (some ⟨w6.heap.size, 0, none⟩) 1 1 [z] rfl (by rfl) (SZ.out w6) (fun e => by cases e) (sa_b (sa_alloc _ L1.out L2.out hk6.out)).size (by have := HD5.out; rw [List.length_singleton]; omega) ?_; intro B7 d7 w7 hown7 hg7 hb7; have hk7 := Lib.hid (sa_low L1.out L2.out hb7 (sa_alloc _ L1.out L2.out hk6.out)); have ho7 := Lib.hid hown7; obtain ⟨⟨vv, hvv⟩, hfr⟩ := O1.out w7 (sa_b hk7.out); clear hown7 hg7 hb7)
            | (refine stepSU rfl 126 rfl (.tmp 119) (.tmp 125) rfl w5.heap.size B6 (0 + ds.length) d6 ds (by simp) (by rfl) ho6.out _ 1 1 [z] rfl (by rfl) hz6.out (fun e => by cases e) (sa_b hk6.out).size (by have := HD5.out; rw [List.length_singleton]; omega) ?_; intro B7 d7 w7 hown7 hg7 hb7; have hk7 := Lib.hid (sa_low L1.out L2.out hb7 hk6.out); have ho7 := Lib.hid hown7; obtain ⟨⟨vv, hvv⟩, hfr⟩ := O1.out w7 (sa_b hk7.out); clear hown7 hg7 hb7))
        all_goals go_wp2_with fail
        all_goals go_meet
        all_goals (have hm := OwnN.more (OW.out.over (sa_b hk7.out)) (nextC KW.out (sa_b hk7.out)) HG.out GL.out f hfl z B7 d7 (by rw [HDS.out]; exact ho7.out); rw [HDS.out] at hm; exact hm)
      case rest =>
        obtain ⟨hbc, hnc⟩ := hcut
        have KC := Lib.hid (nextC KV.out hbc)
        have VC := Lib.hid hbc
        have hml := oneMore_len (l := l) f z
        have hin : ∀ n ∈ oneMore l f z, ∃ m ∈ l, n.id = m.id ∧ n.deps.length ≤ m.deps.length + 1 := fun n hn => by
          obtain ⟨j, hj, rfl⟩ := List.mem_iff_getElem.1 hn
          rw [oneMore_len] at hj
          refine ⟨l[j], List.getElem_mem _, ?_⟩
          simp only [oneMore, List.getElem_modify]
          split <;> simp
        have h8 := (mayE_ok.1 HM.out).1.deps
        have C1 := mayG_all (some ⟨g, 0, none⟩) d5 (oneMore l f z) wc hnc (fun n hn => by obtain ⟨m, hm, -, h⟩ := hin n hn; have := h8 m hm; omega) (fun n hn => by obtain ⟨m, hm, e, -⟩ := hin n hn; rw [e]; exact (HW.out m hm).1)
        rw [hml] at C1
        have hord := order_more HM.out f t hfl htl
        rw [HZ.out] at hord
        obtain ⟨m5, hm5⟩ : ∃ m5, mayE (oneMore l f z) = m5 := ⟨_, rfl⟩
        rw [hm5] at C1 hord
        have C1 := Lib.hid C1
        have ORD := Lib.hid hord
        clear hord hm5 hin h8 hml hnc hbc
        go_wp2_with fail
        refine C1.out.mono ?_
        rintro e w8 ⟨rfl, hb8⟩
        have K8 := Lib.hid (nextC KC.out hb8)
        have V8 := Lib.hid (nextC VC.out hb8)
        clear hb8 KC VC C1
        by_cases e3 : m5 = 3
        · subst e3
          go_wp2_with fail
          go_ret
          exact ⟨rfl, K8.out⟩
        by_cases e130 : m5 = 130
        · subst e130
          go_wp2_with fail
          go_ret
          exact ⟨rfl, K8.out⟩
        have t31 : (m5 == 3) = false := beq_eq_false_iff_ne.2 e3
        have t32 : (m5 == 130) = false := beq_eq_false_iff_ne.2 e130
        have hor := ORD.out e3 e130
        have c2 : w8.cell? (ad.add (t * 2)) = some (.int .u64 z) := (V8.out.cell V2.out).trans H1T.out
        obtain ⟨y0, hy0'⟩ : ∃ y0, l[f].id = y0 := ⟨_, rfl⟩
        rw [hy0'] at hor
        have c3 : w8.cell? (ad.add (f * 2)) = some (.int .u64 y0) := by
          rw [← hy0']
          exact (V8.out.cell (p := ad.add (f * 2)) (by rw [add_block]; exact HBF.out)).trans H1F.out
        have V3 := Lib.hid (show (ad.add (f * 2)).block < V.heap.size from (by rw [add_block]; exact HBF.out))
        have HOR := Lib.hid hor
        clear hor hy0' ORD e3 e130
        obtain ⟨T, F, hT, hF, hG⟩ := class_of (fun v => v.cell? (ad.add (t * 2)) = some (.int .u64 z) ∧ v.cell? (ad.add (f * 2)) = some (.int .u64 y0) ∧ Below V.heap.size V v) w8.drew ⟨c2, c3, below_drewN V8.out 1⟩
        have q1 := fun n => (hF n).1
        have q2 := fun n => (hF n).2.1
        have C2 := Lib.hid (fun n => show Calls Try.prog 15 #[.slice (some ad) l.length c, .int .u64 z, .int .u64 y0] (F n) fun e w' => e = .returned (.bool (rchB l z y0)) ∧ ∃ m, w' = F m from
          (reachG_all (some ad) c l (F n) z y0 (H.out.over (nextC KV.out (hF n).2.2)) HD.out (fun n hn => (HW.out n hn).2)).mono fun e w' ⟨he, hb⟩ => ⟨he, hG _ (sa_below V2.out V3.out hb (hF n))⟩)
        have Q0 := Lib.hid (hG w8.drew ⟨c2, c3, below_drewN V8.out 1⟩)
        have QB := Lib.hid (fun n => nextC KV.out (hF n).2.2)
        clear hF hG c2 c3
        by_cases hft : f = t
        · have t33 : ((f : Int) != (t : Int)) = false := by rw [hft]; simp
          have t34 : (f != t) = false := by rw [hft]; simp
          have t35 : (m5 == 0) = false := by
            have := HOR.out
            rw [show decide (f ≠ t) = false from decide_eq_false (fun h => h hft), Bool.false_and] at this
            exact beq_eq_false_iff_ne.2 (of_decide_eq_false this)
          go_wp2_with fail
          refine wp_region_class F (by kernel_rfl) (by kernel_rfl) Q0.out ?_
          repeat (go_big_quiet_step ((go_at_call 15; exact C2.out _)))
          refine wpQuiet_nil ?_
          rintro _ ⟨nr, rfl⟩
          go_wp2_with fail
          go_ret
          exact ⟨rfl, QB.out nr⟩
        · have t33 : ((f : Int) != (t : Int)) = true := bne_iff_ne.2 (by omega)
          have t34 : (f != t) = true := by simpa using hft
          obtain ⟨r0, hr0⟩ : ∃ r0, rchB l z y0 = r0 := ⟨_, rfl⟩
          rw [hr0] at C2 HOR
          have t35 : (m5 == 0) = !r0 := by
            have := HOR.out
            rw [decide_eq_true hft, Bool.true_and] at this
            rw [← this]
            exact Bool.eq_iff_iff.2 (by simp)
          clear hr0 HOR
          rcases r0 with _ | _
          all_goals
            go_wp2_with fail
            refine wp_region_class F (by kernel_rfl) (by kernel_rfl) Q0.out ?_
            repeat (go_big_quiet_step ((go_at_call 15; exact C2.out _)))
            refine wpQuiet_nil ?_
            rintro _ ⟨nr, rfl⟩
            go_wp2_with fail
            go_ret
            exact ⟨rfl, QB.out nr⟩
theorem opened (H : Type) (enc : TypeId × Value → H) (W : World) (base : Nat) (args : Array Value) (ds gs : List (DataW H)) (before : List MemPlace)
    (hval : ∀ (j : Nat) t v, Try.f4.params[j]? = some t → args[j]? = some v → Value.okWide Try.prog W .any base t v)
    (hW : DataW.Whole enc Try.prog Try.f4.params.toList Rows.graphOrderSpec.vars false W args.toList ds gs before) :
    Calls Try.prog 4 args W fun e w' => e = .returned (.bool true) ∧ Below W.heap.size W w' := by
  obtain ⟨p, q, hA, hV, rfl, hfz, hnd⟩ := hW
  rw [Try.params4] at hA hval
  obtain ⟨v0, vs0, d0, ds0, p0, q0, hargs, rfl, rfl, h0, r0⟩ := trodAll_cons hA
  obtain ⟨v1, vs1, d1, ds1, p1, q1, rfl, rfl, rfl, h1, r1⟩ := trodAll_cons r0
  obtain ⟨v2, vs2, d2, ds2, p2, q2, rfl, rfl, rfl, h2, r2⟩ := trodAll_cons r1
  obtain ⟨rfl, rfl, rfl⟩ := trodAll_nil r2
  obtain rfl : args = #[v0, v1, v2] := by cases args; simp_all
  obtain ⟨A, c, l, rfl, s0, c0, m0, w0⟩ := open_nodes Try.underlying22 Try.underlying35 (by kernel_rfl) rfl rfl (by kernel_rfl) (by kernel_rfl) Try.underlying23 Try.underlying26 Try.underlying23 (by kernel_rfl) (hval 0 22 v0 rfl rfl) h0
  obtain ⟨x, rfl, _, _, w1⟩ := open_int Try.underlying3 (hval 1 3 v1 rfl rfl) h1
  obtain ⟨y, rfl, _, _, w2⟩ := open_int Try.underlying3 (hval 2 3 v2 rfl rfl) h2
  have b1 := bounds_i64 w1
  have b2 := bounds_i64 w2
  exact walk A c l x y W s0 c0 m0 w0 ⟨by omega, by omega⟩ ⟨by omega, by omega⟩

set_option maxRecDepth 100000 in
theorem lifted (os : Os) (started : os.Started) (H : Type) (enc : TypeId × Value → H) :
    ReturnsInHanded {} Try.checked os 4 .any (Rows.graphOrderSpec.pre6 enc Try.prog Try.f4 Rows.graphOrderRow.domain false) (Rows.graphOrderSpec.post enc Try.prog Try.f4 false true false false) := by
  refine returnsInHanded_of_change (C := Try.checked) own started (by kernel_rfl) Try.func4
    (ChangeSpec.witness6 (enc := enc) (C := Try.checked) false ⟨#[], #[.slice none 0 0, .int .i64 0, .int .i64 0], []⟩ 8 (by kernel_rfl) (by kernel_rfl) (by kernel_rfl) (by kernel_rfl)) ?_
  intro W base args ds gs before hval hW hcnd hh
  refine (opened H enc W base args ds gs before hval hW).mono fun e W' ⟨he, hg⟩ => ?_
  subst he
  exact ⟨_, rfl, law_post hW rfl laidOut (by kernel_rfl) rfl Try.underlying4 (fun l hl => by match l, hl with | [d0, d1, d2], _ => rfl) hg⟩

theorem over : Rows.graphOrderRow.holds Try.pinned (OpenSpec.ofChange Rows.graphOrderSpec) :=
  OpenClaim.holds_of_wide 4 Try.f4 rfl rfl rfl rfl rfl rfl rfl ⟨rfl, rfl, rfl, rfl, rfl⟩ rfl rfl rfl rfl rfl (by kernel_rfl) Try.func4 (by kernel_rfl)
    (of_decide_eq_true (by kernel_rfl)) (by unfold Func.isWrapper; first | (rw [if_pos (by decide +kernel)]; kernel_rfl) | (rw [if_neg (by decide +kernel)]; exact ⟨rfl, rfl⟩))
    (fun os started H enc _ => lifted os started H enc)

/-- THE STATEMENT. -/
theorem proved : Rows.GraphOrderSaid :=
  over
#print axioms proved
end Go.Proofs.Ytceeopjmdfefjaa.graphOrder
