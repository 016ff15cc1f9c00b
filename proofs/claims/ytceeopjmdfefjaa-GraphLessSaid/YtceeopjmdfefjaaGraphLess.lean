/- GraphLess: a row without somebody for whom nobody waits may be, and its order is the same without it; a row in another order has the same order; who waits is reached back. No condition. -/
import Derived.Test.YtceeopjmdfefjaaGrT
import Derived.Test.YtceeopjmdfefjaaGrD
import Derived.Test.YtceeopjmdfefjaaGrO
import Derived.Test.YtceeopjmdfefjaaPost
import Derived.Test.YtceeopjmdfefjaaOpenS
import Derived.Test.YtceeopjmdfefjaaGrJ
import Derived.Test.YtceeopjmdfefjaaQc
import Derived.StillTail
import Derived.Deep.RegionHeldLaw
import Derived.Deep.DeepCutAuto
namespace Go.Proofs.Ytceeopjmdfefjaa.graphLess
open Go.ChangeShapes Go.WideShapes Go.ChangeAt Go.RowKit
set_option linter.unusedVariables false

theorem laidOut : laidOutB Try.prog = true := by kernel_rfl
theorem own : ownKnob Try.prog.godebug = none := by kernel_rfl
set_option maxHeartbeats 4000000 in
set_option maxRecDepth 100000 in
theorem walk (A : Option Addr) (c : Nat) (l : List Nd) (x : Int) (w : World) (h : NdS w A l) (hlc : l.length ≤ c) (hcm : c ≤ maxLen) (hw : ∀ n ∈ l, (Lit.int .u64 n.id).wf = true ∧ ∀ x ∈ n.deps, (Lit.int .u64 x).wf = true)
    (hx : -9223372036854775808 ≤ x ∧ x ≤ 9223372036854775807) :
    Calls Try.prog 5 #[.slice A l.length c, .int .i64 x] w fun e w' => e = .returned (.bool true) ∧ Below w.heap.size w w' := by
  have H := Lib.hid h
  have HW := Lib.hid hw
  have hl63 : l.length ≤ 9223372036854775807 := by unfold maxLen at hcm; omega
  obtain ⟨i0, hi0, hz0, hz1, hz2⟩ := info_parts infoN
  have HI := Lib.hid (And.intro hi0 (And.intro hz0 (And.intro hz1 hz2)))
  clear h hw hi0 hz0 hz1 hz2
  go_enter Try.func5, Try.ntmps5
  go_wp2_with fail
  refine (known_any w).mono ?_
  rintro e w1 ⟨rfl, hb1⟩
  have K1 := Lib.hid hb1
  clear hb1
  go_wp2_with fail
  refine (great_any A c l w1 (H.out.over K1.out) hl63).mono ?_
  rintro e w2 ⟨rfl, rfl⟩
  rcases hg : greatB l with _ | _
  rotate_left
  · go_wp2_with fail
    go_ret
    exact ⟨rfl, K1.out⟩
  obtain ⟨hl70, hd12⟩ := greatB_no hg
  have HD := Lib.hid hd12
  clear hg hd12
  obtain ⟨m0, hm0⟩ : ∃ m0, mayE l = m0 := ⟨_, rfl⟩
  have C1 := mayG_all A c l _ (H.out.over K1.out) HD.out (fun n hn => (HW.out n hn).1)
  rw [hm0] at C1
  have C1 := Lib.hid C1
  have HM := Lib.hid hm0
  clear hm0
  go_wp2_with fail
  refine C1.out.mono ?_
  rintro e w3 ⟨rfl, hb3⟩
  have K3 := Lib.hid (nextC K1.out hb3)
  clear hb3 K1 C1
  by_cases hm2 : m0 = 0
  rotate_left
  · have t0 : (m0 != 0) = true := by simpa using hm2
    go_wp2_with fail
    go_ret
    exact ⟨rfl, K3.out⟩
  subst hm2
  by_cases hl0 : l.length = 0
  · have t3 : ((l.length : Int) == 0) = true := by rw [hl0]; rfl
    go_wp2_with fail
    go_ret
    exact ⟨rfl, K3.out⟩
  have t3 : ((l.length : Int) == 0) = false := beq_eq_false_iff_ne.2 (by omega)
  by_cases hx0 : x < 0
  · go_wp2_with fail
    go_ret
    exact ⟨rfl, K3.out⟩
  have t4 : decide (x < 0) = false := decide_eq_false hx0
  have hln : ¬ l = [] := fun e => by rw [e] at hl0; simp at hl0
  obtain ⟨f, hf⟩ : ∃ f : Nat, x.toNat % l.length = f := ⟨_, rfl⟩
  have hfl : f < l.length := by rw [← hf]; exact Nat.mod_lt _ (by omega)
  have hfm : x.tmod (l.length : Int) = (f : Int) := by
    obtain ⟨n, rfl⟩ := Int.eq_ofNat_of_zero_le (show 0 ≤ x by omega)
    rw [Int.tmod_eq_emod_of_nonneg (by omega), ← hf]; simp
  have t6 : ((l.length : Int) = 0) = False := eq_false (by omega)
  clear hf
  go_wp2_with fail
  refine (ordG_all A c l _ (H.out.over K3.out) HD.out (fun n hn => (HW.out n hn).1)).mono ?_
  rintro e V ⟨hb4, B3, d3, o3, rfl, hi3, ho3⟩
  rw [HM.out] at hi3 ⊢
  rw [if_pos rfl] at hi3
  have KV := Lib.hid (nextC K3.out hb4)
  have S3 := Lib.hid ho3.sl
  have I3 := Lib.hid hi3
  have HOL := Lib.hid (order_whole HM.out hi3)
  clear hb4 ho3 hi3 K3
  go_wp2_with (at_make; refine wpList_make_full _ rfl _ _ _ rfl V.heap.size 35 i0 (.agg #[.int .u64 0, .slice none 0 0]) 2 Try.underlying22 HI.out.1 HI.out.2.1 HI.out.2.2.1 .i64 .i64 _ _ l.length rfl rfl rfl rfl (by rw [HI.out.2.2.2]; omega) (by unfold maxLen; omega) (Nat.le_refl _) ?_)
  intro w5 hown5 hg5
  obtain ⟨us0, hown5⟩ : ∃ us0, w5.ownsRow V.heap.size 35 2 (.slice (some ⟨V.heap.size, 0, none⟩) l.length l.length) l.length us0 := ⟨_, hown5⟩
  have hul : us0.length = l.length * 2 := hown5.1
  have O5 := Lib.hid hown5
  have K5 := Lib.hid ((Below.refl V.heap.size V).grown hg5 (Nat.le_refl _) (fun g hg => by cases hg))
  clear hown5 hg5
  obtain ⟨ad, -, -, rfl, -⟩ := H.out f hfl
  have HV := Lib.hid (H.out.over KV.out)
  obtain ⟨G, hG⟩ : ∃ G, V.heap.size = G := ⟨_, rfl⟩
  rw [hG] at O5 K5 ⊢
  have HG := Lib.hid hG
  clear hG
  go_wp2_with fail
  go_loopw [8] (fun i wr => ∃ (k : Nat) (us : List Value), k ≤ l.length ∧ i = .int .i64 k ∧ wr.ownsRow G 35 2 (.slice (some ⟨G, 0, none⟩) l.length l.length) l.length us ∧ Below G V wr ∧ Back V us l k) (fun i _ => l.length - (intOf i).toNat)
  case atStart => exact ⟨0, us0, by omega, rfl, O5.out, K5.out, Back.start hul⟩
  case round =>
    obtain ⟨k, us, hk, rfl, hown, hkp, hbk⟩ := hrel
    have OW := Lib.hid hown
    have KP := Lib.hid hkp
    have BK := Lib.hid hbk
    clear hown hkp hbk O5 K5 hul
    by_cases hlt : k < l.length
    · as_aux_lemma =>
      obtain ⟨ad', B1, c1, e1, hb, h1, h2, hsl, hn1, hle1, hc1⟩ := HV.out k hlt
      injection e1 with e1
      subst e1
      rw [show ad.add (k * 2 + 1) = ⟨(ad.add (k * 2)).block, (ad.add (k * 2)).off + 1, none⟩ by rw [← add_add]; rfl] at h2
      have hbG : (ad.add (k * 2)).block < G := by rw [add_block, ← HG.out]; exact hb
      have c0 := (KP.out.cell (p := ad.add (k * 2)) hbG).trans h1
      have c2 := (KP.out.cell (p := ⟨(ad.add (k * 2)).block, (ad.add (k * 2)).off + 1, none⟩) hbG).trans h2
      obtain ⟨m, hm⟩ : ∃ m : Nat, l.length - 1 - k = m := ⟨_, rfl⟩
      have e2 : (l.length : Int) - 1 - (k : Int) = (m : Int) := by omega
      have e3 : (m : Int) < (l.length : Int) := by omega
      have g0 := (OW.out.cellAt (m * 2) (by omega))
      have g1 := (OW.out.cellAt (m * 2 + 1) (by omega))
      have f0 := OW.out.frozenAt (m * 2)
      have f1 := OW.out.frozenAt (m * 2 + 1)
      have hul : us.length = l.length * 2 := OW.out.1
      rw [List.getElem?_eq_getElem (by omega)] at g0 g1
      obtain ⟨v0, hv0⟩ : ∃ v0, us[m * 2]'(by omega) = v0 := ⟨_, rfl⟩
      obtain ⟨v1, hv1⟩ : ∃ v1, us[m * 2 + 1]'(by omega) = v1 := ⟨_, rfl⟩
      rw [hv0] at g0
      rw [hv1] at g1
      clear hv0 hv1 hbG h1 h2
      have hbs := BK.out.step hlt hsl hn1 hle1 hc1
      rw [hm] at hbs
      have BS := Lib.hid hbs
      clear hbs hsl hn1 hle1 hc1
      go_wp2_with fail
      go_roundw
      case rel => exact ⟨k + 1, _, by omega, by go_num, ((OW.out.stored (m * 2) _).1.stored (m * 2 + 1) _).1, (KP.out.setCell (p := ⟨G, m * 2, none⟩) (Nat.le_refl _) _).setCell (p := ⟨G, m * 2 + 1, none⟩) (Nat.le_refl _) _, BS.out⟩
      case measure => simp [intOf]; omega
    · obtain rfl : k = l.length := by omega
      as_aux_lemma =>
      have KPV := Lib.hid (show Below V.heap.size V wr by rw [HG.out]; exact KP.out)
      have hnr : NdS wr (some ⟨G, 0, none⟩) l.reverse := (BK.out.done.over KPV.out).nds (w' := wr) (own_cells OW.out rfl)
      have hmr := back_may HM.out
      have C1 := ordG_all (some ⟨G, 0, none⟩) l.length l.reverse wr hnr (fun n hn => HD.out n (List.mem_reverse.1 hn)) (fun n hn => (HW.out n (List.mem_reverse.1 hn)).1)
      rw [List.length_reverse] at C1
      have C1 := Lib.hid (show Calls Try.prog 8 #[.slice (some ⟨G, 0, none⟩) l.length l.length] wr fun e w' => ∃ B d, e = .returned (.tuple #[.slice B o3.length d, .int .i64 0]) ∧ Sl w' .u64 B o3 ∧ Below wr.heap.size wr w' from
        C1.mono fun e w' ⟨hb, B, d, out, he, hif, hown⟩ => by
          rw [hmr] at he hif
          rw [if_pos rfl] at hif
          obtain rfl := back_order I3.out hif
          exact ⟨B, d, he, hown.sl, hb⟩)
      clear hnr hmr OW KP BK
      go_wp2_with fail
      refine C1.out.mono ?_
      rintro e w6 ⟨B6, d6, rfl, hs6, hb6⟩
      have K6 := Lib.hid (nextC KPV.out hb6)
      have S6 := Lib.hid hs6
      clear hs6 hb6 C1 KPV
      go_wp2_with fail
      refine (same_any B3 B6 d3 d6 o3 o3 w6 (S3.out.over K6.out) S6.out (by have := HOL.out; omega)).mono ?_
      rintro e w7 ⟨rfl, q, rfl⟩
      rw [decide_eq_true (rfl : o3 = o3)]
      have K7 := Lib.hid (below_drewN K6.out q)
      obtain ⟨W7, hW7⟩ : ∃ W7, w6.drewN q = W7 := ⟨_, rfl⟩
      rw [hW7] at K7 ⊢
      clear hW7 K6 S6
      obtain ⟨ad', B1, c1, e1, hb, h1, -, -, -, -, -⟩ := HV.out f hfl
      injection e1 with e1
      subst e1
      obtain ⟨s, hs⟩ : ∃ s, l[f].id = s := ⟨_, rfl⟩
      rw [hs] at h1
      have HS := Lib.hid hs
      have H1 := Lib.hid h1
      have LB := Lib.hid (show (ad.add (f * 2)).block < V.heap.size by rw [add_block]; exact hb)
      have cs := (K7.out.cell LB.out).trans h1
      have C2 := Lib.hid (usersG_all (some ad) c l W7 s (HV.out.over K7.out) HD.out)
      clear hs h1 hb
      go_wp2_with fail
      refine C2.out.mono ?_
      rintro e w8 ⟨B8, d8, us8, rfl, hu8, ho8, hb8⟩
      have hfine := (mayE_ok.1 HM.out).1
      have hu8 : Usr l s us8 := by
        rcases hu8 with ⟨h, -⟩ | ⟨-, h⟩
        · have := hfine.long; omega
        · exact h
      have K8 := Lib.hid (nextC K7.out hb8)
      have S8 := Lib.hid ho8.sl
      have U8 := Lib.hid hu8
      have UR := Lib.hid (fun u hm => users_reach HM.out hu8 u hm)
      have hul : us8.length ≤ 1000 := by
        have := nodup_le (rise_nodup hu8.1) (ys := ids l) (fun x hx => by
          obtain ⟨n, hn, e, _⟩ := (hu8.2 x).1 hx
          exact mem_ids.2 ⟨n, hn, e⟩)
        rw [ids, List.length_map] at this
        omega
      clear hu8 ho8 hb8 hfine C2 K7 cs
      go_wp2_with fail
      go_loopw [12] (fun i wr => ∃ k : Nat, k ≤ us8.length ∧ i = .int .i64 k ∧ Below w8.heap.size w8 wr) (fun i _ => us8.length - (intOf i).toNat)
      case atStart => exact ⟨0, by omega, rfl, Below.refl _ _⟩
      case round =>
        obtain ⟨k, hk2, rfl, hkp⟩ := hrel
        have KP := Lib.hid hkp
        clear hkp
        by_cases hlt2 : k < us8.length
        · as_aux_lemma =>
          obtain ⟨ud, rfl, hb1, hc1⟩ := S8.out k hlt2
          have hur := UR.out us8[k] (List.getElem_mem _)
          obtain ⟨u, hu⟩ : ∃ u, us8[k] = u := ⟨_, rfl⟩
          rw [hu] at hc1 hur
          have c1 := (KP.out.cell (p := ud.add k) (by rw [add_block]; exact hb1)).trans hc1
          have L2 := Lib.hid (show (ad.add (f * 2)).block < w8.heap.size from Nat.lt_of_lt_of_le LB.out K8.out.size)
          have c2 := (KP.out.cell L2.out).trans ((K8.out.cell LB.out).trans H1.out)
          have L1 := Lib.hid (show (ud.add k).block < w8.heap.size by rw [add_block]; exact hb1)
          obtain ⟨T, F, hT, hF, hG⟩ := class_of (fun v => v.cell? (ud.add k) = some (.int .u64 u) ∧ v.cell? (ad.add (f * 2)) = some (.int .u64 s) ∧ Below w8.heap.size w8 v) wr.drew ⟨c1, c2, below_drewN KP.out 1⟩
          have q1 := fun n => (hF n).1
          have q2 := fun n => (hF n).2.1
          have C2 := Lib.hid (fun a b n => show Calls Try.prog 15 #[.slice (some ad) l.length c, .int .u64 a, .int .u64 b] (F n) fun e w' => e = .returned (.bool (rchB l a b)) ∧ ∃ m, w' = F m from
            (reachG_all (some ad) c l (F n) a b (HV.out.over (nextC K8.out (hF n).2.2)) HD.out (fun n hn => (HW.out n hn).2)).mono fun e w' ⟨he, hb⟩ => ⟨he, hG _ (sa_below L1.out L2.out hb (hF n))⟩)
          obtain ⟨hr1, hr2⟩ := hur
          have Q0 := Lib.hid (hG wr.drew ⟨c1, c2, below_drewN KP.out 1⟩)
          have QB := Lib.hid (fun n => (hF n).2.2)
          clear hF hG c1 c2 hc1 hb1 hu
          go_wp2_with fail
          refine wp_region_class F (by kernel_rfl) (by kernel_rfl) Q0.out ?_
          repeat (go_big_quiet_step ((go_at_call 15; exact C2.out _ _ _)))
          refine wpQuiet_nil ?_
          rintro _ ⟨nq, rfl⟩
          go_wp2_with fail
          go_roundw
          case rel => exact ⟨k + 1, by omega, by go_num, QB.out nq⟩
          case measure => simp [intOf]; omega
        · obtain rfl : k = us8.length := by omega
          by_cases hul0 : 0 < us8.length
          · have t7 : (0 : Int) < (us8.length : Int) := by omega
            go_wp2_with fail
            go_ret
            exact ⟨rfl, nextC KV.out (nextC K8.out KP.out)⟩
          have t7 : decide ((0 : Int) < (us8.length : Int)) = false := decide_eq_false (by omega)
          obtain rfl : us8 = [] := List.length_eq_zero_iff.1 (by omega)
          as_aux_lemma =>
          have hse : ∀ a, ¬ Edge l a s := fun a ha => by
            have := (U8.out.2 a).2 ha
            simp at this
          have KW := Lib.hid (nextC K8.out KP.out)
          have HE := Lib.hid hse
          clear hse K8 KP S8 U8 UR
          have hrw := HV.out.over KW.out
          obtain ⟨ad2, had2, hcut⟩ := hrw.cut (n := f + 1) hlc
          have hsz : ∀ W, (sizeOf (Try.prog.elem 22)).run Try.prog W = .ok 2 W := fun W => by kernel_rfl
          have hut : Try.prog.underlying 22 = some (.slice (Try.prog.elem 22)) := by kernel_rfl
          have hcm' := hcm
          unfold maxLen at hcm'
          obtain ⟨n2, hn2⟩ : ∃ n2, l.length - (f + 1) = n2 := ⟨_, rfl⟩
          obtain ⟨d2, hd2⟩ : ∃ d2, c - (f + 1) = d2 := ⟨_, rfl⟩
          have hs1 : ∀ W, (Instr.slice 22 (.slice (some ad) l.length c) none (some (.int .i64 (f : Int))) none).run Try.prog W = .ok (.slice (some ad) f c) W := fun W => by
            rw [run_slice_h W _ _ _ _ hut .i64 (f : Int) (by omega) (by omega), hsz]
            simp [Result.andThen, sliced, Addr.add]
          have hs2 : ∀ W, (Instr.slice 22 (.slice (some ad) l.length c) (some (.int .i64 ((f : Int) + 1))) none none).run Try.prog W = .ok (.slice (some ad2) n2 d2) W := fun W => by
            rw [run_slice_l W _ _ _ _ hut .i64 ((f : Int) + 1) (by omega) (by omega), hsz]
            simp only [Result.andThen, sliced]
            rw [show ((f : Int) + 1).toNat = f + 1 by omega, had2, hn2, hd2]
          have e1 : IntKind.i64.wrap ((f : Int) + 1) = (f : Int) + 1 := IntWalk.i64_in _ (by omega)
          obtain ⟨ls, hls⟩ : ∃ ls, l.take f ++ l.drop (f + 1) = ls := ⟨_, rfl⟩
          have hl1 : (l.take f).length = f := by rw [List.length_take]; omega
          have hl2 : (l.drop (f + 1)).length = n2 := by rw [List.length_drop]; exact hn2
          have hlls : ls.length = f + n2 := by rw [← hls, List.length_append, hl1, hl2]
          have hsub : ∀ n ∈ ls, n ∈ l := fun n hn => by
            rw [← hls] at hn
            rcases List.mem_append.1 hn with h | h
            · exact List.mem_of_mem_take h
            · exact List.mem_of_mem_drop h
          have hml := less_may HM.out f hfl (by rw [HS.out]; exact HE.out)
          have hlo := fun q hq => less_order HM.out f hfl (by rw [HS.out]; exact HE.out) I3.out (q := q) hq
          rw [hls] at hml
          simp only [hls, HS.out] at hlo
          obtain ⟨qv, hqv⟩ : ∃ qv, wantK o3 s o3.length = qv := ⟨_, rfl⟩
          have hqw : o3.filter (fun x => decide (x ≠ s)) = qv := by rw [← hqv]; unfold wantK; rw [List.take_length]
          rw [hqw] at hlo
          have hql : qv.length ≤ l.length := by rw [← hqv, ← HOL.out]; exact wantK_len _ _ _
          have C8 := Lib.hid (fun B d W (ho : OwnN wr.heap.size wr W B d ls) (hb : Below wr.heap.size wr W) => show Calls Try.prog 8 #[.slice B ls.length d] W fun e w' => ∃ B9 d9, e = .returned (.tuple #[.slice B9 qv.length d9, .int .i64 0]) ∧ Sl w' .u64 B9 qv ∧ Below W.heap.size W w' from
            (ordG_all B d ls W (ho.nds hb) (fun n hn => HD.out n (hsub n hn)) (fun n hn => (HW.out n (hsub n hn)).1)).mono fun e w' ⟨hb, B9, d9, out, he, hif, hown⟩ => by
              rw [hml] at he hif
              rw [if_pos rfl] at hif
              obtain rfl := hlo out hif
              exact ⟨B9, d9, he, hown.sl, hb⟩)
          have B0 := Lib.hid (Below.refl wr.heap.size wr)
          have BD := Lib.hid (below_drewN B0.out 1)
          have BA := Lib.hid (below_drewN (B0.out.alloc (Nat.le_refl _) (.cells #[] 35)) 1)
          have HRW := Lib.hid hrw
          have HCUT := Lib.hid hcut
          have HLS := Lib.hid hls
          have HL1 := Lib.hid hl1
          have HL2 := Lib.hid hl2
          have HLL := Lib.hid hlls
          have HQV := Lib.hid hqv
          have QL := Lib.hid hql
          clear hrw hcut hsz hut hls hl1 hl2 hlls hml hlo hqv hqw hql hsub had2 hd2
          go_wp2_with fail
          go_region_held_law (fun v => Below wr.heap.size wr v)
            (first | exact BD.out | exact BA.out | exact hk8.out | exact hk7.out | exact hk6.out)
            (first
              | (refine stepSN (w0 := wr) rfl 127 rfl (.tmp 123) (.tmp 126) rfl wr.heap.size (some ⟨wr.heap.size, 0, none⟩) 0 0 [] rfl (by rfl) ((OwnN.made0 wr wr _ (Nat.le_refl _)).drew) ad c (l.take f) f HL1.out.symm (by rfl) ((HRW.out.take f).over BA.out) (HRW.out.take f) BA.out BA.out.size (by have := HL1.out; rw [List.length_nil]; omega) f (by omega) ?_; intro B6 d6 w6 hown6 hb6; have hk6 := Lib.hid (BA.out.trans hb6); have ho6 := Lib.hid hown6; clear hown6 hb6)
              | (refine stepSN (w0 := wr) rfl 132 rfl (.tmp 127) (.tmp 131) rfl wr.heap.size B6 f d6 (l.take f) HL1.out.symm (by rfl) ho6.out ad2 d2 (l.drop (f + 1)) n2 HL2.out.symm (by rfl) (HCUT.out.over hk6.out) HCUT.out hk6.out hk6.out.size (by have := HL1.out; have := HL2.out; omega) ls.length HLL.out ?_; intro B7 d7 w7 hown7 hb7; have hk7 := Lib.hid (hk6.out.trans hb7); rw [HLS.out] at hown7; have ho7 := Lib.hid hown7; clear hown7 hb7)
              | ((with_reducible refine (C8.out _ _ _ ho7.out hk7.out).mono ?_); rintro e w8' ⟨B9, d9, rfl, hs9, hb9⟩; have hk8 := Lib.hid (nextC hk7.out hb9); have HS9 := Lib.hid hs9; clear hs9 hb9))
          go_wp2_with fail
          have K8' := Lib.hid (nextC KW.out hk8.out)
          clear hk6 hk7 ho6 ho7 HCUT HRW BA BD B0 C8 KW
          obtain ⟨Z, hZ⟩ : ∃ Z, w8'.heap.size = Z := ⟨_, rfl⟩
          have HZ := Lib.hid hZ
          have S0 := Lib.hid (S3.out.over K8'.out)
          have c0 := (K8'.out.cell LB.out).trans H1.out
          have LZ := Lib.hid (show (ad.add (f * 2)).block < w8'.heap.size from Nat.lt_of_lt_of_le LB.out K8'.out.size)
          have C0 := Lib.hid c0
          clear hZ c0
          go_loopw [15, 16] (fun v i wr => ∃ (k : Nat) (B : Option Addr) (d : Nat), k ≤ o3.length ∧ i = .int .i64 k ∧ v = .slice B (wantK o3 s k).length d ∧ OwnU w8'.heap.size wr B d (wantK o3 s k) ∧ Below w8'.heap.size w8' wr) (fun _ i _ => o3.length - (intOf i).toNat)
          case atStart => exact ⟨0, none, 0, by omega, rfl, by simp [wantK], by simpa [wantK] using OwnU.nil w8'.heap.size w8', Below.refl _ _⟩
          case round =>
            obtain ⟨k, B, d, hk3, rfl, rfl, hown, hnx⟩ := hrel
            have HO := Lib.hid hown
            have HN := Lib.hid hnx
            clear hown hnx
            by_cases hlt3 : k < o3.length
            · as_aux_lemma =>
              obtain ⟨od, rfl, hb1, hc1⟩ := S0.out k hlt3
              have hyes := fun h => wantK_yes (s := s) hlt3 h
              have hno := fun h => wantK_no (s := s) hlt3 h
              have hwl := wantK_len o3 s k
              obtain ⟨y, hy⟩ : ∃ y, o3[k] = y := ⟨_, rfl⟩
              rw [hy] at hc1 hyes hno
              have c1 := (HN.out.cell (p := od.add k) (by rw [add_block]; exact hb1)).trans hc1
              have c2 := (HN.out.cell LZ.out).trans C0.out
              have HY := Lib.hid hyes
              have HNO := Lib.hid hno
              have HWL := Lib.hid hwl
              have t1 : (k : Int) < (o3.length : Int) := by omega
              have hol := HOL.out
              have hob : o3.length ≤ 1000 := by omega
              clear hol hyes hno hwl hy hb1 hc1
              generalize wantK o3 s k = o at *
              by_cases hys : y = s
              · have t2 : (y != s) = false := by rw [hys]; simp
                have hn := HNO.out hys
                have HN2 := Lib.hid hn
                clear hn HY HNO
                go_wp2_with fail
                go_big_quiet (fail)
                go_wp2_with fail
                go_roundw
                case rel => exact ⟨k + 1, B, d, by omega, by go_num, by rw [HN2.out], by rw [HN2.out]; exact HO.out.drewN _, below_drewN HN.out _⟩
                case measure => simp [intOf]; omega
              · have t2 : (y != s) = true := bne_iff_ne.2 hys
                have hn := HY.out hys
                have HN2 := Lib.hid hn
                clear hn HY HNO
                go_wp2_with fail
                go_big_quiet (fail)
                obtain ⟨W9, hW9⟩ : ∃ W9, wr.drewN nq = W9 := ⟨_, rfl⟩
                have HO9 := Lib.hid (show OwnU w8'.heap.size W9 B d o by rw [← hW9]; exact HO.out.drewN _)
                have HN9 := Lib.hid (show Below w8'.heap.size w8' W9 by rw [← hW9]; exact below_drewN HN.out _)
                have c3 : W9.cell? (od.add k) = some (.int .u64 y) := by rw [← hW9]; exact c1
                have hz9 := HN9.out.size
                rw [hW9]
                clear hW9 c1 c2 HO HN
                go_wp2_with (at_builtin; refine app1U rfl _ _ rfl w8'.heap.size B _ d o y rfl rfl HO9.out rfl hz9 (by have := HWL.out; omega) ?_)
                intro B' d' w9 hown9 hg9 hb9
                have HO5 := Lib.hid hown9
                have HN5 := Lib.hid (HN9.out.trans hb9)
                clear hown9 hb9 hg9
                go_wp2_with fail
                go_roundw
                case rel => exact ⟨k + 1, B', d', by omega, by go_num, by rw [HN2.out, List.length_append]; rfl, by rw [HN2.out]; exact HO5.out, HN5.out⟩
                case measure => simp [intOf]; omega
            · obtain rfl : k = o3.length := by omega
              have t1 : decide ((o3.length : Int) < (o3.length : Int)) = false := by simp
              have hqv := HQV.out
              obtain ⟨o, ho⟩ : ∃ o, wantK o3 s o3.length = o := ⟨_, rfl⟩
              rw [ho] at HO hqv ⊢
              subst hqv
              clear ho
              have C9 := same_any B9 B d9 d o o wr (HS9.out.over HN.out) HO.out.sl (by have := QL.out; omega)
              rw [decide_eq_true (rfl : o = o)] at C9
              have C9 := Lib.hid C9
              have KR := Lib.hid (nextC K8'.out HN.out)
              clear HQV
              go_wp2_with fail
              refine C9.out.mono ?_
              rintro e wz ⟨rfl, q, rfl⟩
              go_wp2_with fail
              go_ret
              exact ⟨rfl, below_drewN (nextC KV.out KR.out) q⟩
theorem opened (H : Type) (enc : TypeId × Value → H) (W : World) (base : Nat) (args : Array Value) (ds gs : List (DataW H)) (before : List MemPlace)
    (hval : ∀ (j : Nat) t v, Try.f5.params[j]? = some t → args[j]? = some v → Value.okWide Try.prog W .any base t v)
    (hW : DataW.Whole enc Try.prog Try.f5.params.toList Rows.graphLessSpec.vars false W args.toList ds gs before) :
    Calls Try.prog 5 args W fun e w' => e = .returned (.bool true) ∧ Below W.heap.size W w' := by
  obtain ⟨p, q, hA, hV, rfl, hfz, hnd⟩ := hW
  rw [Try.params5] at hA hval
  obtain ⟨v0, vs0, d0, ds0, p0, q0, hargs, rfl, rfl, h0, r0⟩ := trodAll_cons hA
  obtain ⟨v1, vs1, d1, ds1, p1, q1, rfl, rfl, rfl, h1, r1⟩ := trodAll_cons r0
  obtain ⟨rfl, rfl, rfl⟩ := trodAll_nil r1
  obtain rfl : args = #[v0, v1] := by cases args; simp_all
  obtain ⟨A, c, l, rfl, s0, c0, m0, w0⟩ := open_nodes Try.underlying22 Try.underlying35 (by kernel_rfl) rfl rfl (by kernel_rfl) (by kernel_rfl) Try.underlying23 Try.underlying26 Try.underlying23 (by kernel_rfl) (hval 0 22 v0 rfl rfl) h0
  obtain ⟨x, rfl, _, _, w1⟩ := open_int Try.underlying3 (hval 1 3 v1 rfl rfl) h1
  have b1 := bounds_i64 w1
  exact walk A c l x W s0 c0 m0 w0 ⟨by omega, by omega⟩

set_option maxRecDepth 100000 in
theorem lifted (os : Os) (started : os.Started) (H : Type) (enc : TypeId × Value → H) :
    ReturnsInHanded {} Try.checked os 5 .any (Rows.graphLessSpec.pre6 enc Try.prog Try.f5 Rows.graphLessRow.domain false) (Rows.graphLessSpec.post enc Try.prog Try.f5 false true false false) := by
  refine returnsInHanded_of_change (C := Try.checked) own started (by kernel_rfl) Try.func5
    (ChangeSpec.witness6 (enc := enc) (C := Try.checked) false ⟨#[], #[.slice none 0 0, .int .i64 0], []⟩ 8 (by kernel_rfl) (by kernel_rfl) (by kernel_rfl) (by kernel_rfl)) ?_
  intro W base args ds gs before hval hW hcnd hh
  refine (opened H enc W base args ds gs before hval hW).mono fun e W' ⟨he, hg⟩ => ?_
  subst he
  exact ⟨_, rfl, law_post hW rfl laidOut (by kernel_rfl) rfl Try.underlying4 (fun l hl => by match l, hl with | [d0, d1], _ => rfl) hg⟩

theorem over : Rows.graphLessRow.holds Try.pinned (OpenSpec.ofChange Rows.graphLessSpec) :=
  OpenClaim.holds_of_wide 5 Try.f5 rfl rfl rfl rfl rfl rfl rfl ⟨rfl, rfl, rfl, rfl, rfl⟩ rfl rfl rfl rfl rfl (by kernel_rfl) Try.func5 (by kernel_rfl)
    (of_decide_eq_true (by kernel_rfl)) (by unfold Func.isWrapper; first | (rw [if_pos (by decide +kernel)]; kernel_rfl) | (rw [if_neg (by decide +kernel)]; exact ⟨rfl, rfl⟩))
    (fun os started H enc _ => lifted os started H enc)

/-- THE STATEMENT. -/
theorem proved : Rows.GraphLessSaid :=
  over
#print axioms proved
end Go.Proofs.Ytceeopjmdfefjaa.graphLess
