/- Contract: stands. -/
import Derived.Test.YtklmabhjkdkjmaaSeG
import Derived.Test.YtklmabhjkdkjmaaSeE
import Derived.Test.YtklmabhjkdkjmaaQc
import Derived.Deep.RegionHeldLaw
import Derived.Deep.DeepCutAuto
namespace Go.Proofs.Ytklmabhjkdkjmaa
set_option linter.unusedVariables false
open Go.RowKit
theorem sb_below {p1 p2 : Addr} {x1 x2 : Value} {W0 v v' : World} (h1 : p1.block < W0.heap.size) (h2 : p2.block < W0.heap.size) (hb : Below v.heap.size v v') (h : v.cell? p1 = some x1 ∧ v.cell? p2 = some x2 ∧ Below W0.heap.size W0 v) :
    v'.cell? p1 = some x1 ∧ v'.cell? p2 = some x2 ∧ Below W0.heap.size W0 v' :=
  ⟨(hb.cell (Nat.lt_of_lt_of_le h1 h.2.2.size)).trans h.1, (hb.cell (Nat.lt_of_lt_of_le h2 h.2.2.size)).trans h.2.1, nextC h.2.2 hb⟩
theorem sb_store {p1 p2 : Addr} {x1 x2 : Value} {W0 v : World} (h1 : p1.block < W0.heap.size) (h2 : p2.block < W0.heap.size) (h : v.cell? p1 = some x1 ∧ v.cell? p2 = some x2 ∧ Below W0.heap.size W0 v) (a b : Value) :
    ((v.setCell ⟨W0.heap.size, 0, none⟩ a).setCell ⟨W0.heap.size, 1, none⟩ b).cell? p1 = some x1 ∧ ((v.setCell ⟨W0.heap.size, 0, none⟩ a).setCell ⟨W0.heap.size, 1, none⟩ b).cell? p2 = some x2 ∧ Below W0.heap.size W0 ((v.setCell ⟨W0.heap.size, 0, none⟩ a).setCell ⟨W0.heap.size, 1, none⟩ b) := by
  have hb : Below W0.heap.size v ((v.setCell ⟨W0.heap.size, 0, none⟩ a).setCell ⟨W0.heap.size, 1, none⟩ b) := ((Below.refl _ v).setCell (p := ⟨W0.heap.size, 0, none⟩) (Nat.le_refl _) a).setCell (p := ⟨W0.heap.size, 1, none⟩) (Nat.le_refl _) b
  exact ⟨(hb.cell h1).trans h.1, (hb.cell h2).trans h.2.1, h.2.2.trans hb⟩
theorem drop_cls {T : List Tk} {k : Nat} (hk : k < T.length) (c : Int) : c ∈ cls (T.drop k) ↔ c = T[k].cl ∨ c ∈ cls (T.drop (k + 1)) := by
  rw [List.drop_eq_getElem_cons hk]
  unfold cls
  rw [List.map_cons, List.mem_cons]
set_option maxHeartbeats 2000000 in
set_option maxRecDepth 100000 in
theorem stands_any (g b m : Nat) (T : List Tk) (A : Option Addr) (c : Nat) (w : World) (h : ClAt w g b m (last16 (latest T))) (hT : TkS w A T) (hg : ∀ t ∈ T, (t.cl ≠ 0 ∧ t.sq ≠ 0) ∧ (Lit.int .u64 t.cl).wf = true ∧ (Lit.int .u64 t.sq).wf = true) (hl : T.length ≤ 1000) :
    Calls Try.prog 8 #[.pointer (some ⟨g, 0, none⟩), .slice A T.length c] w fun e w' => e = .returned (.bool true) ∧ Below w.heap.size w w' := by
  have CK := Lib.hid h
  have HT := Lib.hid hT
  have HG := Lib.hid hg
  clear h hT hg
  have e0 : IntKind.i64.wrap ((T.length : Int) - 1) = (T.length : Int) - 1 := IntWalk.i64_in _ (by omega)
  go_enter Try.func8, Try.ntmps8
  go_wp2_with fail
  go_loopw [5, 6] (fun v i wr => ∃ (n : Nat) (x : Int) (B : Option Addr) (d : Nat) (s : List Int), n ≤ T.length ∧ x = (n : Int) - 1 ∧ i = .int .i64 x ∧ v = .slice B s.length d ∧ OwnU w.heap.size wr B d s ∧ Below w.heap.size w wr ∧ s.Nodup ∧ (∀ c, c ∈ s ↔ c ∈ cls (T.drop n)) ∧ s.length ≤ 1000) (fun _ i _ => (intOf i + 1).toNat)
  case atStart => exact ⟨T.length, _, none, 0, [], Nat.le_refl _, rfl, rfl, rfl, OwnU.nil _ _, Below.refl _ _, by simp, by simp [cls], by simp⟩
  case round =>
    obtain ⟨n, x, B, d, s, hn, hx, rfl, rfl, hown, hkp, hnd, hmem, hsl⟩ := hrel
    have OW := Lib.hid hown
    have KP := Lib.hid hkp
    have ND := Lib.hid hnd
    have MM := Lib.hid hmem
    clear hown hkp hnd hmem
    by_cases hn0 : n = 0
    · have t1 : decide (0 ≤ x) = false := decide_eq_false (by omega)
      go_wp2_with fail
      go_ret
      exact ⟨rfl, KP.out⟩
    obtain ⟨k, rfl⟩ : ∃ k, n = k + 1 := ⟨n - 1, by omega⟩
    obtain rfl : x = (k : Int) := by omega
    clear hx hn0
    have hlt : k < T.length := by omega
    by_cases hs16 : s.length < 16
    rotate_left
    · have t1 : decide ((s.length : Int) < 16) = false := decide_eq_false (by omega)
      go_wp2_with fail
      go_ret
      exact ⟨rfl, KP.out⟩
    have t1 : (s.length : Int) < 16 := by omega
    obtain ⟨ad, rfl, -⟩ := HT.out k hlt
    have hkl : (k : Int) < (T.length : Int) := by omega
    have hdc := fun c => drop_cls hlt c
    have hgk := HG.out T[k] (List.getElem_mem _)
    have hthere := fun (h : T[k].cl ∉ s) => told_there k hlt (fun hc => h ((MM.out _).2 hc)) MM.out ND.out hs16
    obtain ⟨hab, h1, h2, h3, h4⟩ := HT.out.cells4 k hlt
    obtain ⟨t, ht⟩ : ∃ t, T[k] = t := ⟨_, rfl⟩
    rw [ht] at hgk hthere h1 h2 h3 h4
    simp only [ht] at hdc
    have DC := Lib.hid hdc
    have GK := Lib.hid hgk
    have TH := Lib.hid hthere
    have AB := Lib.hid (show (ad.add (k * 4)).block < w.heap.size by rw [add_block]; exact hab)
    have Q1 := Lib.hid h1
    have Q2 := Lib.hid h2
    have Q3 := Lib.hid h3
    have Q4 := Lib.hid h4
    clear hdc hgk hthere hab h1 h2 h3 h4 ht
    go_wp2_with fail
    go_loopw [7, 8] (fun v i wr2 => ∃ j : Nat, j ≤ s.length ∧ i = .int .i64 j ∧ v = .bool (decide (t.cl ∈ s.take j)) ∧ OwnU w.heap.size wr2 B d s ∧ Below w.heap.size w wr2) (fun _ i _ => s.length - (intOf i).toNat)
    case atStart => exact ⟨0, by omega, rfl, by simp, OW.out, KP.out⟩
    case round =>
      obtain ⟨j, hj, rfl, rfl, hown2, hkp2⟩ := hrel
      have O2 := Lib.hid hown2
      have K2 := Lib.hid hkp2
      clear hown2 hkp2 OW KP
      by_cases hlj : j < s.length
      · as_aux_lemma =>
        have htk : t.cl ∈ s.take (j + 1) ↔ t.cl ∈ s.take j ∨ t.cl = s[j] := by
          rw [List.take_succ_eq_append_getElem hlj, List.mem_append, List.mem_singleton]
        obtain ⟨sd, rfl, hb1, hc1⟩ := O2.out.sl j hlj
        have c2 := (K2.out.cell (p := ad.add (k * 4)) AB.out).trans Q1.out
        obtain ⟨y, hy⟩ : ∃ y, s[j] = y := ⟨_, rfl⟩
        rw [hy] at htk hc1
        have HTK := Lib.hid htk
        have tj : (j : Int) < (s.length : Int) := by omega
        clear htk hy hb1
        by_cases hin : t.cl ∈ s.take j
        · rw [decide_eq_true hin]
          have HIN := Lib.hid hin
          clear hin
          go_wp2_with fail
          go_big_quiet (fail)
          go_wp2_with fail
          go_roundw
          case rel => exact ⟨j + 1, by omega, by go_num, by rw [decide_eq_true (HTK.out.2 (.inl HIN.out))], O2.out.drewN _, below_drewN K2.out _⟩
          case measure => simp [intOf]; omega
        · rw [decide_eq_false hin]
          have HIN := Lib.hid hin
          clear hin
          by_cases hyc : y = t.cl
          · have t3 : (y == t.cl) = true := by simpa using hyc
            have HYC := Lib.hid hyc
            clear hyc
            go_wp2_with fail
            go_big_quiet (fail)
            go_wp2_with fail
            go_roundw
            case rel => exact ⟨j + 1, by omega, by go_num, by rw [decide_eq_true (HTK.out.2 (.inr HYC.out.symm))], O2.out.drewN _, below_drewN K2.out _⟩
            case measure => simp [intOf]; omega
          · have t3 : (y == t.cl) = false := beq_eq_false_iff_ne.2 hyc
            have HYC := Lib.hid hyc
            clear hyc
            go_wp2_with fail
            go_big_quiet (fail)
            go_wp2_with fail
            go_roundw
            case rel => exact ⟨j + 1, by omega, by go_num, by rw [decide_eq_false (fun h => (HTK.out.1 h).elim HIN.out (fun e => HYC.out e.symm))], O2.out.drewN _, below_drewN K2.out _⟩
            case measure => simp [intOf]; omega
      · obtain rfl : j = s.length := by omega
        rw [List.take_length]
        have tj : decide ((s.length : Int) < (s.length : Int)) = false := by simp
        by_cases hin : t.cl ∈ s
        · rw [decide_eq_true hin]
          have HIN := Lib.hid hin
          clear hin
          have e1 : IntKind.i64.wrap ((k : Int) - 1) = (k : Int) - 1 := IntWalk.i64_in _ (by omega)
          go_wp2_with fail
          go_roundw
          case rel => exact ⟨k, _, B, d, s, by omega, rfl, rfl, rfl, O2.out, K2.out, ND.out, fun c => by
            rw [DC.out c, ← MM.out c]
            exact ⟨.inr, fun h => h.elim (fun e => e ▸ HIN.out) id⟩, hsl⟩
          case measure => simp [intOf] <;> omega
        · rw [decide_eq_false hin]
          have HTH := Lib.hid (TH.out hin)
          have HIN := Lib.hid hin
          clear hin
          as_aux_lemma =>
          have GD := Lib.hid (show GoodT (last16 (latest T)) from CK.out.good)
          have c2 := (K2.out.cell (p := ad.add (k * 4)) AB.out).trans Q1.out
          go_wp2_with (at_builtin; refine app1U rfl _ _ rfl w.heap.size B _ d s t.cl rfl rfl O2.out rfl K2.out.size (by omega) ?_)
          intro B' d' w5 hown5 hg5 hb5
          have O5 := Lib.hid hown5
          have K5 := Lib.hid (K2.out.trans hb5)
          clear hown5 hg5 hb5 c2 O2 K2
          obtain ⟨l1, l2, l3⟩ := last_tell HTH.out GK.out.1
          have CA := Lib.hid (fun v (hv : Below w5.heap.size w5 v) => show Calls Try.prog 14 #[.pointer (some ⟨g, 0, none⟩), .int .u64 t.cl, .int .u64 t.sq] v fun e w' => e = .returned (.tuple #[.agg #[.int .i64 t.e, .int .u64 t.n], .bool true, .int .i64 0]) ∧ Below v.heap.size v w' from by
            have := ask_any g b m _ t.cl t.sq v (CK.out.below (K5.out.trans (hv.mono K5.out.size))) GK.out.2.1
            rw [l1, l2, l3] at this
            exact this)
          have c1 := (K5.out.cell (p := ad.add (k * 4)) AB.out).trans Q1.out
          have c2 := (K5.out.cell (p := ⟨(ad.add (k * 4)).block, (ad.add (k * 4)).off + 1, none⟩) AB.out).trans Q2.out
          have AB5 := Lib.hid (show (ad.add (k * 4)).block < w5.heap.size from Nat.lt_of_lt_of_le AB.out K5.out.size)
          have c1a := fun o => (World.cell?_alloc_lt w5 o (ad.add (k * 4)) AB5.out).trans c1
          have c2a := fun o => (World.cell?_alloc_lt w5 o ⟨(ad.add (k * 4)).block, (ad.add (k * 4)).off + 1, none⟩ AB5.out).trans c2
          have BD := Lib.hid (show Below w5.heap.size w5 w5.drew from below_drewN (Below.refl w5.heap.size w5) 1)
          have BZ := Lib.hid (show Below w5.heap.size w5 (w5.alloc (.cells #[.int .i64 0, .int .u64 0] 30)).drew from below_drewN ((Below.refl w5.heap.size w5).alloc (Nat.le_refl _) (.cells #[.int .i64 0, .int .u64 0] 30)) 1)
          have RZ := Lib.hid (show Row (w5.alloc (.cells #[.int .i64 0, .int .u64 0] 30)).drew w5.heap.size 30 #[.int .i64 0, .int .u64 0] from Row.new w5 30 #[.int .i64 0, .int .u64 0])
          have L1 := Lib.hid AB5.out
          have L2 := Lib.hid (show (⟨(ad.add (k * 4)).block, (ad.add (k * 4)).off + 1, none⟩ : Addr).block < w5.heap.size from AB5.out)
          clear l1 l2 l3
          have SD := Lib.hid (show (w5.drew.cell? (ad.add (k * 4)) = some (.int .u64 t.cl) ∧ w5.drew.cell? ⟨(ad.add (k * 4)).block, (ad.add (k * 4)).off + 1, none⟩ = some (.int .u64 t.sq) ∧ Below w5.heap.size w5 w5.drew) from ⟨c1, c2, BD.out⟩)
          have SZ := Lib.hid (show ((w5.alloc (.cells #[.int .i64 0, .int .u64 0] 30)).drew.cell? (ad.add (k * 4)) = some (.int .u64 t.cl) ∧ (w5.alloc (.cells #[.int .i64 0, .int .u64 0] 30)).drew.cell? ⟨(ad.add (k * 4)).block, (ad.add (k * 4)).off + 1, none⟩ = some (.int .u64 t.sq) ∧ Below w5.heap.size w5 (w5.alloc (.cells #[.int .i64 0, .int .u64 0] 30)).drew) from ⟨c1a _, c2a _, BZ.out⟩)
          clear c1a c2a
          go_upto_region 12 with fail
          go_cut [9, 10, 11] (fun p q r wx => ∃ X, p = .pointer (some ⟨X, 0, none⟩) ∧ Row wx X 30 #[.int .i64 t.e, .int .u64 t.n] ∧ q = .bool true ∧ r = .int .i64 0 ∧ Below w5.heap.size w5 wx)
          case first =>
            go_region_held_law (fun v => v.cell? (ad.add (k * 4)) = some (.int .u64 t.cl) ∧ v.cell? ⟨(ad.add (k * 4)).block, (ad.add (k * 4)).off + 1, none⟩ = some (.int .u64 t.sq) ∧ Below w5.heap.size w5 v)
              (first | with_reducible exact SD.out | with_reducible exact SZ.out | with_reducible exact hk9.out | with_reducible exact hs9.out | with_reducible exact sb_below L1.out L2.out ((Below.refl _ w9).alloc (Nat.le_refl _) _) hk9.out)
              (first
                | ((with_reducible refine (CA.out _ BD.out).mono ?_); rintro e w9 ⟨rfl, hb9⟩; have hk9 := Lib.hid (sb_below L1.out L2.out hb9 SD.out); have N9 := Lib.hid hb9.size; clear hb9)
                | ((with_reducible refine (CA.out _ BZ.out).mono ?_); rintro e w9 ⟨rfl, hb9⟩; have RZ9 := Lib.hid (RZ.out.over hb9); have hk9 := Lib.hid (sb_below L1.out L2.out hb9 SZ.out); clear hb9; have y0 := RZ9.out.cell 0; have y1 := RZ9.out.cell 1; have yf0 := RZ9.out.free 0; have yf1 := RZ9.out.free 1; simp at y0 y1; have hs9 := Lib.hid (show (((w9.setCell ⟨w5.heap.size, 0, none⟩ (.int .i64 t.e)).setCell ⟨w5.heap.size, 1, none⟩ (.int .u64 t.n)).cell? (ad.add (k * 4)) = some (.int .u64 t.cl) ∧ ((w9.setCell ⟨w5.heap.size, 0, none⟩ (.int .i64 t.e)).setCell ⟨w5.heap.size, 1, none⟩ (.int .u64 t.n)).cell? ⟨(ad.add (k * 4)).block, (ad.add (k * 4)).off + 1, none⟩ = some (.int .u64 t.sq) ∧ Below w5.heap.size w5 ((w9.setCell ⟨w5.heap.size, 0, none⟩ (.int .i64 t.e)).setCell ⟨w5.heap.size, 1, none⟩ (.int .u64 t.n))) from sb_store L1.out L2.out hk9.out _ _)))
            all_goals go_wp2_with fail
            all_goals go_meet
            all_goals first
              | exact ⟨_, rfl, ((RZ9.out.put 0 _).put 1 _).eq (by simp), rfl, rfl, hs9.out.2.2⟩
              | exact ⟨_, rfl, Row.new w9 _ _, rfl, rfl, hk9.out.2.2.alloc hk9.out.2.2.size _⟩
          case rest =>
            obtain ⟨X, rfl, hrx, rfl, rfl, hbx⟩ := hcut
            clear SD SZ CA c1 c2 BD BZ RZ
            have KX := Lib.hid (K5.out.trans (hbx.mono K5.out.size))
            have OX := Lib.hid (O5.out.over hbx)
            have a1 := (KX.out.cell (p := ad.add (k * 4)) AB.out).trans Q1.out
            have a2 := (KX.out.cell (p := ⟨(ad.add (k * 4)).block, (ad.add (k * 4)).off + 1, none⟩) AB.out).trans Q2.out
            have a3 := (KX.out.cell (p := ⟨(ad.add (k * 4)).block, (ad.add (k * 4)).off + 2, none⟩) AB.out).trans Q3.out
            have a4 := (KX.out.cell (p := ⟨(ad.add (k * 4)).block, (ad.add (k * 4)).off + 3, none⟩) AB.out).trans Q4.out
            have y0 := hrx.cell 0
            have y1 := hrx.cell 1
            simp at y0 y1
            have hne := fun W => neqR W t.e t.n
            go_upto_region 13 with fail
            go_big_quiet (fail)
            have hsq := wf_u64 GK.out.2.2
            have hs0 := GK.out.1.2
            obtain ⟨l4, l5⟩ := last_below HTH.out GK.out.1.1 (t.sq - 1) (by omega)
            have e2 : IntKind.u64.wrap (t.sq - 1) = t.sq - 1 := by simp [IntKind.wrap, IntKind.bits, IntKind.signed]; omega
            have hBN := below_drewN (Below.refl wc.heap.size wc) nq
            obtain ⟨Y, hY⟩ : ∃ Y, wc.drewN nq = Y := ⟨_, rfl⟩
            rw [hY] at hBN
            have a1' := (hBN.cell (p := ad.add (k * 4)) (Nat.lt_of_lt_of_le AB.out KX.out.size)).trans a1
            have a2' := (hBN.cell (p := ⟨(ad.add (k * 4)).block, (ad.add (k * 4)).off + 1, none⟩) (Nat.lt_of_lt_of_le AB.out KX.out.size)).trans a2
            have KY := Lib.hid (nextC KX.out hBN)
            have OY := Lib.hid (OX.out.over hBN)
            have wfS := Lib.hid GK.out.2.1
            obtain ⟨ae, hae⟩ : ∃ ae, askE (last16 (latest T)) t.cl (t.sq - 1) = ae := ⟨_, rfl⟩
            obtain ⟨rr, hrr⟩ : ∃ rr, askR (last16 (latest T)) t.cl (t.sq - 1) = rr := ⟨_, rfl⟩
            rw [hae] at l5
            have CA := Lib.hid (fun v (hv : Below Y.heap.size Y v) => show Calls Try.prog 14 #[.pointer (some ⟨g, 0, none⟩), .int .u64 t.cl, .int .u64 (t.sq - 1)] v fun e w' => e = .returned (.tuple #[.agg #[.int .i64 rr.1, .int .u64 rr.2], .bool false, .int .i64 ae]) ∧ Below v.heap.size v w' from by
              have := ask_any g b m _ t.cl (t.sq - 1) v (CK.out.below (KY.out.trans (hv.mono KY.out.size))) wfS.out
              rw [hae, hrr, l4] at this
              exact this)
            have LY := Lib.hid (show (ad.add (k * 4)).block < Y.heap.size from Nat.lt_of_lt_of_le AB.out KY.out.size)
            obtain ⟨TT, F, hTT, hF, hG⟩ := class_of (fun v => v.cell? (ad.add (k * 4)) = some (.int .u64 t.cl) ∧ v.cell? ⟨(ad.add (k * 4)).block, (ad.add (k * 4)).off + 1, none⟩ = some (.int .u64 t.sq) ∧ Below Y.heap.size Y v) Y.drew ⟨a1', a2', below_drewN (Below.refl _ Y) 1⟩
            have q1 := fun n => (hF n).1
            have q2 := fun n => (hF n).2.1
            have C2 := Lib.hid (fun n => show Calls Try.prog 14 #[.pointer (some ⟨g, 0, none⟩), .int .u64 t.cl, .int .u64 (t.sq - 1)] (F n) fun e w' => e = .returned (.tuple #[.agg #[.int .i64 rr.1, .int .u64 rr.2], .bool false, .int .i64 ae]) ∧ ∃ m, w' = F m from
              (CA.out _ (hF n).2.2).mono fun e w' ⟨he, hb⟩ => ⟨he, hG _ (sb_below (p1 := ad.add (k * 4)) (p2 := ⟨(ad.add (k * 4)).block, (ad.add (k * 4)).off + 1, none⟩) LY.out LY.out hb (hF n))⟩)
            have Q0 := Lib.hid (hG Y.drew ⟨a1', a2', below_drewN (Below.refl _ Y) 1⟩)
            have QB := Lib.hid (fun n => (hF n).2.2)
            rw [hY]
            clear hF hG a1' a2' a1 a2 a3 a4 y0 y1 hBN hY KX OX hne hrx hbx hrr hae l4 CA
            go_upto_region 15 with fail
            refine wp_region_class F (by kernel_rfl) (by kernel_rfl) Q0.out ?_
            repeat (go_big_quiet_step ((go_at_call 14; exact C2.out _)))
            refine wpQuiet_nil ?_
            rintro _ ⟨nz, rfl⟩
            have a2 := q2 nz
            have e3 : IntKind.i64.wrap ((k : Int) - 1) = (k : Int) - 1 := IntWalk.i64_in _ (by omega)
            have KZ := Lib.hid (nextC KY.out (QB.out nz))
            have OZ := Lib.hid (OY.out.over (QB.out nz))
            have hfin : (1 < t.sq ∧ (ae != 180) = false) ∨ decide (1 < t.sq) = false := by
              by_cases h : 1 < t.sq
              · exact .inl ⟨h, by rw [l5 (by omega)]; rfl⟩
              · exact .inr (decide_eq_false h)
            clear l5
            rcases hfin with ⟨f1, f2⟩ | f1
            all_goals
              go_wp2_with fail
              go_roundw
              case rel => exact ⟨k, _, B', d', s ++ [t.cl], by omega, rfl, rfl, by rw [List.length_append]; rfl, OZ.out, KZ.out, List.nodup_append.2 ⟨ND.out, by simp, fun a ha b hb e => HIN.out (by rw [List.mem_singleton] at hb; rw [← hb, ← e]; exact ha)⟩, fun c => by rw [List.mem_append, List.mem_singleton, DC.out c, MM.out c]; exact Or.comm, by rw [List.length_append, List.length_singleton]; omega⟩
              case measure => simp [intOf] <;> omega
end Go.Proofs.Ytklmabhjkdkjmaa
