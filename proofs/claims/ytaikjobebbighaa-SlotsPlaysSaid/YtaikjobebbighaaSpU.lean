/- Slots: the document's Ask. -/
import Derived.Test.YtaikjobebbighaaSpT
namespace Go.Proofs.Ytaikjobebbighaa
set_option linter.unusedVariables false
set_option maxRecDepth 100000
open Go.RowKit
theorem lineE_take {L : List En} {i : Int} {k : Nat} (h : k < L.length) : (lineE (L.take (k + 1)) i).length = (lineE (L.take k) i).length + (if L[k].pool = i ∧ L[k].holds = false then 1 else 0) := by
  rw [List.take_succ_eq_append_getElem h, lineE_append, List.length_append, lineE_cons]
  split
  · rfl
  · rfl
theorem lastHolds_at {L : List En} {m : Nat} (h : L.length = m + 1) : lastHolds L = (L[m]'(by omega)).holds := by
  unfold lastHolds
  have e : L.length - 1 = m := by omega
  rw [List.getLast?_eq_getElem?, e, List.getElem?_eq_getElem (by omega)]
  rfl
def RAsked (w : World) (p : Nat) (z : Za) (q : Rb × Bool × Int) (e : Ending) (w' : World) : Prop := ∃ (z' : Za), e = .returned (.tuple #[.bool q.2.1, .int .i64 q.2.2]) ∧ RTurn w w' p z q.1 z'
set_option maxHeartbeats 8000000 in
theorem refAsk_any (p : Nat) (r : Rb) (z : Za) (k : Key) (t n : Int) (w : World) (h : RfZ w p r z) (ok : RbOk r) :
    Calls Try.prog 21 #[.pointer (some ⟨p, 0, none⟩), nm k, .int .u64 t, .int .i64 n] w (RAsked w p z (askRb r k (t, n))) := by
  have HA := Lib.hid h
  have CP := Lib.hid (refPool_any p r z.NA z.SA z.LA z.cN z.cS z.cL k w h (by have := ok.nl; omega))
  unfold askRb
  dsimp only
  rcases poolOf_is r k with ⟨e0, hk0⟩ | ⟨i, hi, e0, -⟩
  · rw [if_pos (by rw [e0]; decide)]
    rw [e0] at CP
    clear h
    go_enter Try.func21, Try.ntmps21
    go_wp2_with fail
    refine CP.out.mono ?_
    rintro e w1 ⟨rfl, rfl⟩
    go_wp2_with fail
    go_ret2
    exact ⟨z, rfl, RTurn.stay HA.out (Below.refl _ _)⟩
  rw [e0, if_neg (by omega : ¬ ((i : Int) < 0))]
  rw [e0] at CP
  have hi2 : i < r.sizes.length := by rw [ok.len]; exact hi
  have hi3 : (i : Int) < (r.sizes.length : Int) := by omega
  have hrsS := RkO.rks enI_len h.szs
  obtain ⟨adS, hSA, -⟩ := hrsS i hi2
  rw [hSA] at hrsS
  obtain ⟨-, s1⟩ := hrsS.cells1 i hi2 (u := .int .i64 r.sizes[i]) rfl
  have hsp : sizeP r i = r.sizes[i] := sizeP_at (List.getElem?_eq_getElem hi2)
  have hszb := ok.size hi2
  have y1 := h.row.cell 1
  have y2 := h.row.cell 2
  simp only [List.getElem?_toArray, List.getElem?_cons_succ, List.getElem?_cons_zero] at y1 y2
  rw [hSA] at y1
  rw [← hsp] at s1
  generalize sizeP r (i : Int) = sz at *
  by_cases c1 : t = 0 ∨ n < 1 ∨ sz < n
  · rw [if_pos c1]
    clear h hrsS hsp
    by_cases c2 : t = 0
    · subst c2
      go_enter Try.func21, Try.ntmps21
      go_wp2_with fail
      refine CP.out.mono ?_
      rintro e w1 ⟨rfl, rfl⟩
      go_wp2_with fail
      go_ret2
      exact ⟨z, rfl, RTurn.stay HA.out (Below.refl _ _)⟩
    have d1 : (t == 0) = false := by simpa using c2
    by_cases c3 : n < 1
    · go_enter Try.func21, Try.ntmps21
      go_wp2_with fail
      refine CP.out.mono ?_
      rintro e w1 ⟨rfl, rfl⟩
      go_wp2_with fail
      go_ret2
      exact ⟨z, rfl, RTurn.stay HA.out (Below.refl _ _)⟩
    have d2 : decide (n < 1) = false := decide_eq_false c3
    have c4 : sz < n := by omega
    go_enter Try.func21, Try.ntmps21
    go_wp2_with fail
    refine CP.out.mono ?_
    rintro e w1 ⟨rfl, rfl⟩
    go_wp2_with fail
    go_ret2
    exact ⟨z, rfl, RTurn.stay HA.out (Below.refl _ _)⟩
  rw [if_neg c1]
  have d1 : (t == 0) = false := by simpa using (fun hh => c1 (.inl hh))
  have d2 : decide (n < 1) = false := decide_eq_false (by omega)
  have d3 : decide (sz < n) = false := decide_eq_false (by omega)
  have hn1 : 1 ≤ n ∧ n ≤ 1048576 := by omega
  have hll := ok.ll
  have CF := Lib.hid (refFind_any p r z.NA z.SA z.LA z.cN z.cS z.cL i t w h (by omega))
  by_cases c2 : 0 ≤ findN r.L i t 0
  · rw [if_pos c2]
    generalize findN r.L i t 0 = q at *
    clear h hrsS hsp
    go_enter Try.func21, Try.ntmps21
    go_wp2_with fail
    refine CP.out.mono ?_
    rintro e w1 ⟨rfl, rfl⟩
    go_wp2_with fail
    refine CF.out.mono ?_
    rintro e w2 ⟨rfl, rfl⟩
    go_wp2_with fail
    go_ret2
    exact ⟨z, rfl, RTurn.stay HA.out (Below.refl _ _)⟩
  rw [if_neg c2]
  have d4 : decide (0 ≤ findN r.L i t 0) = false := decide_eq_false c2
  generalize findN r.L i t 0 = q at *
  obtain ⟨B1, b1, w6, hrun1, f1, f2, T1⟩ := RfAt.entry h (by omega) ⟨(i : Int), t, n, false⟩
  obtain ⟨w7, hw7⟩ : ∃ w7, w6.setCell ⟨p, 2, none⟩ (.slice B1 (r.L.length + 1) b1) = w7 := ⟨_, rfl⟩
  rw [hw7] at T1
  dsimp only at hrun1 T1
  have hsp2 : sizeP ⟨r.names, r.sizes, r.L ++ [⟨(i : Int), t, n, false⟩]⟩ (i : Int) = sz := by
    show sizeP ⟨r.names, r.sizes, _⟩ (i : Int) = sz
    rw [hsp]
    exact sizeP_at (List.getElem?_eq_getElem hi2)
  have CS := Lib.hid (refServe_turn T1.at_ (i := i) hi2 (by rw [hsp2]; exact hszb) (by show (r.L ++ [_]).length ≤ 1000; rw [List.length_append, List.length_singleton]; omega) (fun y hy => by
    rcases List.mem_append.1 hy with hy | hy
    · exact ok.many y hy
    · rw [List.mem_singleton] at hy; rw [hy]; exact hn1))
  have HT1 := Lib.hid T1
  have HE := Lib.hid (RkO.rks enE_len h.ens)
  have HLL := Lib.hid (show (serveRb ⟨r.names, r.sizes, r.L ++ [⟨(i : Int), t, n, false⟩]⟩ (i : Int)).L.length = r.L.length + 1 from (serveE_len _ _ _ _).trans (by rw [List.length_append, List.length_singleton]))
  obtain ⟨R, hR⟩ : ∃ R : Rb × Bool × Int, (if 1023 < (lineE r.L i).length then ((r, false, 6) : Rb × Bool × Int) else (serveRb ⟨r.names, r.sizes, r.L ++ [⟨(i : Int), t, n, false⟩]⟩ i, lastHolds (serveRb ⟨r.names, r.sizes, r.L ++ [⟨(i : Int), t, n, false⟩]⟩ i).L, 0)) = R := ⟨_, rfl⟩
  rw [hR]
  have HR := Lib.hid hR
  clear h hrsS hsp hsp2 T1 hR
  go_enter Try.func21, Try.ntmps21
  go_wp2_with fail
  refine CP.out.mono ?_
  rintro e w1 ⟨rfl, rfl⟩
  go_wp2_with fail
  refine CF.out.mono ?_
  rintro e w2 ⟨rfl, rfl⟩
  go_wp2_with fail
  go_loopw [12, 11] (fun jv v wr => ∃ j : Nat, j ≤ r.L.length ∧ jv = .int .i64 j ∧ v = .int .i64 (lineE (r.L.take j) i).length ∧ wr = w2) (fun jv _ _ => r.L.length - (intOf jv).toNat)
  case atStart => exact ⟨0, by omega, rfl, rfl, rfl⟩
  case round =>
    obtain ⟨j, hj, rfl, rfl, rfl⟩ := hrel
    have hle : (lineE (r.L.take j) i).length ≤ 600 := by
      have : (lineE (r.L.take j) i).length ≤ (r.L.take j).length := by unfold lineE; rw [List.length_map]; exact List.length_filter_le _ _
      rw [List.length_take] at this
      omega
    by_cases hlt : j < r.L.length
    · obtain ⟨ad, hadE, hb, hc⟩ := HE.out j hlt
      have he := HE.out
      rw [hadE] at he y2
      obtain ⟨-, c1', c2', c3', c4'⟩ := he.cellsE j hlt
      have HT := Lib.hid (lineE_take (i := (i : Int)) hlt)
      generalize r.L[j] = x at *
      generalize (lineE (r.L.take j) i).length = cn at *
      obtain ⟨xp, xt, xm, xh⟩ := x
      dsimp only at c1' c2' c3' c4'
      have hltz : (j : Int) < (r.L.length : Int) := by omega
      clear hb hc he hadE
      by_cases h1 : xp = (i : Int)
      · subst h1
        cases xh
        · have HT2 := Lib.hid (show (lineE (r.L.take (j + 1)) i).length = cn + 1 by rw [HT.out, if_pos ⟨rfl, rfl⟩])
          go_wp2_with fail
          go_roundw
          case rel => exact ⟨j + 1, by omega, by go_num, by rw [HT2.out]; go_num, trivial⟩
          case measure => simp [intOf]; omega
        · have HT2 := Lib.hid (show (lineE (r.L.take (j + 1)) i).length = cn by rw [HT.out, if_neg (by simp)]; rfl)
          go_wp2_with fail
          go_roundw
          case rel => exact ⟨j + 1, by omega, by go_num, by rw [HT2.out], trivial⟩
          case measure => simp [intOf]; omega
      · have HT2 := Lib.hid (show (lineE (r.L.take (j + 1)) i).length = cn by rw [HT.out, if_neg (fun h => h1 h.1)]; rfl)
        have d9 : (xp == (i : Int)) = false := by simpa using h1
        go_wp2_with fail
        go_roundw
        case rel => exact ⟨j + 1, by omega, by go_num, by rw [HT2.out], trivial⟩
        case measure => simp [intOf]; omega
    · obtain rfl : j = r.L.length := by omega
      rw [List.take_length] at hle ⊢
      by_cases c3 : 1023 < (lineE r.L i).length
      · omega
      · have d9 : decide ((1023 : Int) < ((lineE r.L i).length : Int)) = false := decide_eq_false (by omega)
        have hRR := HR.out
        rw [if_neg c3] at hRR
        have HRR := Lib.hid hRR
        generalize (lineE r.L i).length = cn at *
        clear hRR HR HE
        go_wp2_with (at_builtin; refine Lib.wpList_append_run _ rfl _ _ 54 54 rfl _ _ (by simp [Act.eval]; done) (by simp [Act.eval]; done) _ _ hrun1 ?_)
        refine CS.out.mono ?_
        rintro e w8 ⟨B, d, rfl, -, ht⟩
        have HT8 := Lib.hid (HT1.out.trans ht)
        have v2 := ht.at_.row.cell 2
        simp only [List.getElem?_toArray, List.getElem?_cons_succ, List.getElem?_cons_zero] at v2
        have hen := RkO.rks enE_len ht.at_.ens
        have HLH := Lib.hid (lastHolds_at HLL.out)
        have hm : r.L.length < (serveRb ⟨r.names, r.sizes, r.L ++ [⟨(i : Int), t, n, false⟩]⟩ (i : Int)).L.length := by rw [HLL.out]; omega
        obtain ⟨ad, hadE, hb, -⟩ := hen _ hm
        rw [hadE] at hen
        obtain ⟨-, -, -, -, b4⟩ := hen.cellsE _ hm
        have hadE2 : B1 = some ad := hadE
        rw [HLL.out] at v2
        try dsimp only at v2
        subst hadE2
        rw [← HLH.out] at b4
        obtain ⟨T, F, hT2, hF, hG⟩ := class_of (fun v => Below w8.heap.size w8 v) w8.drew (Below.refl _ _).drew
        have g1 : ∀ n', (F n').cell? ⟨p, 2, none⟩ = some (.slice (some ad) (r.L.length + 1) b1) := fun n' => ((hF n').cell (p := ⟨p, 2, none⟩) ht.at_.row.lt).trans v2
        have g2 : ∀ n', (F n').cell? ⟨(ad.add (r.L.length * 4)).block, (ad.add (r.L.length * 4)).off + 3, none⟩ = some (.bool (lastHolds (serveRb ⟨r.names, r.sizes, r.L ++ [⟨(i : Int), t, n, false⟩]⟩ (i : Int)).L)) := fun n' => ((hF n').cell (p := ⟨(ad.add (r.L.length * 4)).block, (ad.add (r.L.length * 4)).off + 3, none⟩) (by show (ad.add (r.L.length * 4)).block < _; rw [add_block]; exact hb)).trans b4
        have HF := Lib.hid hF
        have s0 := hG w8.drew (Below.refl _ _).drew
        generalize lastHolds (serveRb ⟨r.names, r.sizes, r.L ++ [⟨(i : Int), t, n, false⟩]⟩ (i : Int)).L = lh at *
        clear ht v2 hen hb b4 hF hG CS HLH HLL hm hadE f1 f2
        go_upto_region 18 with fail
        refine wp_region_class F (by kernel_rfl) (by kernel_rfl) s0 ?_
        repeat (go_big_quiet_step (fail))
        refine wpQuiet_nil ?_
        rintro _ ⟨nq, rfl⟩
        have HT9 := Lib.hid (HT8.out.trans (RTurn.stay HT8.out.at_ (HF.out nq)))
        go_wp2_with fail
        go_ret2
        rw [← HRR.out]
        exact ⟨_, rfl, HT9.out⟩
end Go.Proofs.Ytaikjobebbighaa
