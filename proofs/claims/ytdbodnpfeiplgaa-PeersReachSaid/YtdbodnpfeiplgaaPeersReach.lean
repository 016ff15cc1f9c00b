/- PeersReach: how far a majority has come was reached by a majority, and nothing above it by one; whoever comes further, it does not fall. No condition. -/
import Derived.Test.YtdbodnpfeiplgaaPeW
import Derived.Test.YtdbodnpfeiplgaaPeT
import Derived.Test.YtdbodnpfeiplgaaAppP
import Derived.Test.YtdbodnpfeiplgaaPost
import Derived.Test.YtdbodnpfeiplgaaOpenS
import Derived.Deep.DeepCutAuto
import Derived.Deep.RegionHeldLaw
namespace Go.Proofs.Ytdbodnpfeiplgaa.peersReach
open Go.ChangeShapes Go.WideShapes Go.ChangeAt Go.RowKit
set_option linter.unusedVariables false

theorem laidOut : laidOutB Try.prog = true := by kernel_rfl
theorem own : ownKnob Try.prog.godebug = none := by kernel_rfl
set_option maxRecDepth 100000 in
theorem far_any (pl : Addr) (A R : Option Addr) (c rc : Nat) (l r : List Int) (W : World) (hpl : W.cell? pl = some (.slice A l.length c)) (h : Sl W .u64 A l) (g : Sl W .u64 R r) (hl : l.length ≤ 1000000) (hlr : l.length ≤ r.length) (hr : r.length ≤ 1000000) :
    Calls Try.prog 8 #[.slice R r.length rc, .pointer (some pl)] W fun e w' => e = .returned (.int .u64 (markF (lookF l r) l)) ∧ Below W.heap.size W w' := by
  have hlt := World.block_lt_of_cell? _ _ hpl
  have c1 : (W.alloc (.cells #[.slice R r.length rc] 22)).cell? pl = some (.slice A l.length c) := (World.cell?_alloc_lt W _ _ hlt).trans hpl
  have r2 := Row.new W 22 #[.slice R r.length rc]
  have CM := Lib.hid (mark_any 10 #[.pointer (some pl), .pointer (some ⟨W.heap.size, 0, none⟩)] (fun _ _ => rfl) (lookF l r) A c l (W.alloc (.cells #[.slice R r.length rc] 22)) (h.alloc _) hl
    (fun _ id hid W' hW' => look_reach _ _ A R c rc l r id W' ((hW'.cell (World.block_lt_of_cell? _ _ c1)).trans c1) ((hW'.cell r2.lt).trans (r2.cell 0)) ((h.alloc _).over hW') ((g.alloc _).over hW') hl hlr hr))
  clear h g r2 hpl
  go_enter Try.func8, Try.ntmps8
  go_wp2_with fail
  refine CM.out.mono ?_
  rintro e w1 ⟨rfl, hb⟩
  go_wp2_with fail
  go_ret
  exact ⟨rfl, nextA (Below.refl _ _) hb⟩
theorem ap_symm {B1 B2 : Option Addr} (h : ob B1 = none ∨ ob B1 ≠ ob B2) : ob B2 = none ∨ ob B2 ≠ ob B1 := by
  rcases h with h | h
  · rw [h]; cases ob B2 <;> simp
  · exact .inr (Ne.symm h)
theorem OwnU.made0 (w : World) : OwnU w.heap.size (w.alloc (.cells #[] 23)) (some ⟨w.heap.size, 0, none⟩) 0 [] :=
  ⟨rfl, .inr ⟨w.heap.size, 0, _, rfl, Nat.le_refl _, heap_alloc_new w _, Nat.le_refl _, by decide, rfl, rfl⟩⟩

set_option maxHeartbeats 8000000 in
set_option maxRecDepth 100000 in
theorem walk (A Ba : Option Addr) (c ca : Nat) (l at_ : List Int) (who more : Int) (w : World) (h : Sl w .u64 A l) (h2 : Sl w .u64 Ba at_) (hca : Ba = none → ca = 0)
    (hp : ∀ x ∈ l, 0 ≤ x ∧ x < 18446744073709551616) (hpa : ∀ x ∈ at_, 0 ≤ x ∧ x < 18446744073709551616) (hm : mayP l = true) (hw0 : 0 ≤ who) (hw1 : who ≤ 9223372036854775807) (hmore : 0 ≤ more)
    (hla : l.length ≤ at_.length) (ha20 : at_.length ≤ 20) :
    Calls Try.prog 3 #[.slice A l.length c, .slice Ba at_.length ca, .int .i64 who, .int .u64 more] w fun e w' => e = .returned (.bool true) ∧ Below w.heap.size w w' := by
  have hl7 := (mayP_iff.1 hm).2.2
  have hl1 := (mayP_iff.1 hm).2.1
  obtain ⟨W0, hW0⟩ : ∃ W0, w.alloc (.cells #[.slice A l.length c] 22) = W0 := ⟨_, rfl⟩
  have r1 : Row W0 w.heap.size 22 #[.slice A l.length c] := by rw [← hW0]; exact Row.new w _ _
  have hb0 : Below w.heap.size w W0 := by rw [← hW0]; exact (Below.refl _ w).alloc (Nat.le_refl _) _
  have R1 := Lib.hid (fun W (hW : Below W0.heap.size W0 W) => (hW.cell (p := ⟨w.heap.size, 0, none⟩) r1.lt).trans (r1.cell 0))
  have L1 := Lib.hid r1.lt
  have F0 := fun (W : World) (hW : Below W0.heap.size W0 W) => nextC hb0 hW
  have S1 := Lib.hid (fun W (hW : Below W0.heap.size W0 W) => h.over (F0 W hW))
  have S2 := Lib.hid (fun W (hW : Below W0.heap.size W0 W) => h2.over (F0 W hW))
  have F0 := Lib.hid F0
  have KN := Lib.hid (fun W => known_any W)
  have C7 := Lib.hid (fun W (hW : Below W0.heap.size W0 W) => may_any A c l W (S1.out W hW) (by omega))
  rw [hm] at C7
  have C8 := Lib.hid (fun W (hW : Below W0.heap.size W0 W) => far_any ⟨w.heap.size, 0, none⟩ A Ba c ca l at_ W (R1.out W hW) (S1.out W hW) (S2.out W hW) (by omega) hla (by omega))
  have hml := mark_look hm hla (fun x hx => (hpa x hx).1)
  rw [hml] at C8
  clear hml
  have C11 := Lib.hid (fun W (hW : Below W0.heap.size W0 W) => pput_ok A c l W (S1.out W hW) (by omega) hp hm)
  have HW := Lib.hid hW0
  have B0 := Lib.hid (Below.refl W0.heap.size W0)
  have c1 := R1.out _ B0.out
  have HM := Lib.hid hm
  have HP := Lib.hid hp
  have HPA := Lib.hid hpa
  clear h h2 hp hpa hm r1 hb0 hW0
  go_enter Try.func3, Try.ntmps3
  go_wp2_with fail
  rw [HW.out]
  clear HW
  refine (KN.out _).mono ?_
  rintro e w1 ⟨rfl, hb1⟩
  have B1 := Lib.hid (nextC B0.out hb1)
  have c1 := R1.out _ B1.out
  clear hb1 KN B0
  go_wp2_with fail
  refine (C7.out _ B1.out).mono ?_
  rintro e w1' ⟨rfl, rfl⟩
  have hwho : decide (who < 0) = false := decide_eq_false (by omega)
  go_wp2_with fail
  refine (C8.out _ B1.out).mono ?_
  rintro e w2 ⟨rfl, hb2⟩
  have B2 := Lib.hid (nextC B1.out hb2)
  have c2 := R1.out _ B2.out
  clear hb2 B1 c1
  obtain ⟨m, hmm⟩ : ∃ m, bestF (at_.take l.length) = m := ⟨_, rfl⟩
  have HMM := Lib.hid hmm
  rw [hmm]
  clear hmm
  go_wp2_with fail
  go_loopw [11, 12, 13] (fun x y i wr => ∃ (k : Nat) (Bx By : Option Addr) (dx dy : Nat), k ≤ l.length ∧ i = .int .i64 k ∧ x = .slice Bx (selL (fun v => decide (m ≤ v)) (l.take k) ((at_.take l.length).take k)).length dx ∧
      y = .slice By (selL (fun v => decide (m < v)) (l.take k) ((at_.take l.length).take k)).length dy ∧ OwnU W0.heap.size wr Bx dx (selL (fun v => decide (m ≤ v)) (l.take k) ((at_.take l.length).take k)) ∧
      OwnU W0.heap.size wr By dy (selL (fun v => decide (m < v)) (l.take k) ((at_.take l.length).take k)) ∧ (ob By = none ∨ ob By ≠ ob Bx) ∧ Below W0.heap.size W0 wr)
    (fun _ _ i _ => l.length - (intOf i).toNat)
  case atStart => exact ⟨0, none, none, 0, 0, by omega, rfl, rfl, rfl, OwnU.nil _ _, OwnU.nil _ _, .inl rfl, B2.out⟩
  case round =>
    obtain ⟨k, Bx, By, dx, dy, hk, rfl, rfl, rfl, hox, hoy, hap, hbr⟩ := hrel
    have HOX := Lib.hid hox
    have HOY := Lib.hid hoy
    have HAP := Lib.hid hap
    have BR := Lib.hid hbr
    have c3 := R1.out _ BR.out
    have hz := hbr.size
    clear hox hoy hap hbr
    by_cases hlt : k < l.length
    · have hlt' : k < at_.length := by omega
      obtain ⟨ad, rfl, hbl, hc0⟩ := S1.out _ (Below.refl _ _) k hlt
      obtain ⟨ad2, rfl, hbl2, hc02⟩ := S2.out _ (Below.refl _ _) k hlt'
      have hcl := (BR.out.cell (p := ad.add k) (by rw [add_block]; exact hbl)).trans hc0
      have hca2 := (BR.out.cell (p := ad2.add k) (by rw [add_block]; exact hbl2)).trans hc02
      have hz0 : W0.heap.size ≤ W0.heap.size := Nat.le_refl _
      clear hc0 hc02
      have hsx := selL_snoc (fun v => decide (m ≤ v)) (l.take k) ((at_.take l.length).take k) l[k] at_[k] (by simp; omega)
      have hsy := selL_snoc (fun v => decide (m < v)) (l.take k) ((at_.take l.length).take k) l[k] at_[k] (by simp; omega)
      have hxl := selL_len (fun v => decide (m ≤ v)) (l.take k) ((at_.take l.length).take k)
      have hyl := selL_len (fun v => decide (m < v)) (l.take k) ((at_.take l.length).take k)
      rw [← take_take_succ hlt hla, ← List.take_succ_eq_append_getElem hlt] at hsx hsy
      rw [List.length_take] at hxl hyl
      have hxl : (selL (fun v => decide (m ≤ v)) (l.take k) ((at_.take l.length).take k)).length ≤ 1000000 := by omega
      have hyl : (selL (fun v => decide (m < v)) (l.take k) ((at_.take l.length).take k)).length ≤ 1000000 := by omega
      have HSX := Lib.hid hsx
      have HSY := Lib.hid hsy
      clear hsx hsy
      generalize selL (fun v => decide (m ≤ v)) (l.take k) ((at_.take l.length).take k) = ox at *
      generalize selL (fun v => decide (m < v)) (l.take k) ((at_.take l.length).take k) = oy at *
      obtain ⟨u, hu⟩ : ∃ u, l[k] = u := ⟨_, rfl⟩
      obtain ⟨v, hv⟩ : ∃ v, at_[k] = v := ⟨_, rfl⟩
      rw [hu] at hcl HSX HSY
      rw [hv] at hca2 HSX HSY
      clear hu hv
      by_cases t1 : m ≤ v
      · go_wp2_with (at_builtin; refine app1P rfl 60 rfl _ _ rfl W0.heap.size Bx _ dx ox u rfl rfl HOX.out By dy oy HOY.out HAP.out rfl hz hxl ?_)
        intro Bx' dx' w3 hox3 hoy3 hap3 hb3
        have HOX3 := Lib.hid hox3
        have HOY3 := Lib.hid hoy3
        have HAP3 := Lib.hid hap3
        have BR3 := Lib.hid (BR.out.trans hb3)
        have c4 := R1.out _ BR3.out
        have hz3 := BR3.out.size
        have hcl3 : w3.cell? (ad.add k) = some (.int .u64 u) := (hb3.cell (p := ad.add k) (by rw [add_block]; exact Nat.lt_of_lt_of_le hbl hz0)).trans hcl
        have hca3 : w3.cell? (ad2.add k) = some (.int .u64 v) := (hb3.cell (p := ad2.add k) (by rw [add_block]; exact Nat.lt_of_lt_of_le hbl2 hz0)).trans hca2
        clear hox3 hoy3 hap3 hb3 hcl hca2
        by_cases t2 : m < v
        · go_wp2_with (at_builtin; refine app1P rfl 73 rfl _ _ rfl W0.heap.size By _ dy oy u rfl rfl HOY3.out Bx' dx' (ox ++ [u]) HOX3.out (ap_symm HAP3.out) rfl hz3 hyl ?_)
          intro By' dy' w4 hoy4 hox4 hap4 hb4
          have HOX4 := Lib.hid hox4
          have HOY4 := Lib.hid hoy4
          have HAP4 := Lib.hid hap4
          have BR4 := Lib.hid (BR3.out.trans hb4)
          clear hox4 hoy4 hap4 hb4
          go_wp2_with fail
          go_round
          case rel =>
            have ex := HSX.out.trans (if_pos (by simpa using t1))
            have ey := HSY.out.trans (if_pos (by simpa using t2))
            exact ⟨k + 1, Bx', By', dx', dy', by omega, by go_num, by rw [ex, List.length_append]; rfl, by rw [ey, List.length_append]; rfl, by rw [ex]; exact HOX4.out, by rw [ey]; exact HOY4.out, ap_symm HAP4.out, BR4.out⟩
          case measure => simp [intOf]; omega
        · have t2' : decide (m < v) = false := decide_eq_false t2
          go_wp2_with fail
          go_round
          case rel =>
            have ex := HSX.out.trans (if_pos (by simpa using t1))
            have ey := HSY.out.trans (if_neg (by simpa using t2))
            exact ⟨k + 1, Bx', By, dx', dy, by omega, by go_num, by rw [ex, List.length_append]; rfl, by rw [ey], by rw [ex]; exact HOX3.out, by rw [ey]; exact HOY3.out, HAP3.out, BR3.out⟩
          case measure => simp [intOf]; omega
      · have t1' : decide (m ≤ v) = false := decide_eq_false t1
        have t2' : decide (m < v) = false := decide_eq_false (by omega)
        go_wp2_with fail
        go_round
        case rel => exact ⟨k + 1, Bx, By, dx, dy, by omega, by go_num, by rw [HSX.out, if_neg (by simp; omega)], by rw [HSY.out, if_neg (by simp; omega)], by rw [HSX.out, if_neg (by simp; omega)]; exact HOX.out, by rw [HSY.out, if_neg (by simp; omega)]; exact HOY.out, HAP.out, BR.out⟩
        case measure => simp [intOf]; omega
    · have e : k = l.length := by omega
      subst e
      have e1 : l.take l.length = l := List.take_length
      have e2 : (at_.take l.length).take l.length = at_.take l.length := by rw [List.take_take, Nat.min_self]
      rw [e1, e2] at HOX HOY
      rw [e1, e2]
      have hal : l.length = (at_.take l.length).length := by rw [List.length_take]; omega
      have hpt : ∀ x ∈ at_.take l.length, 0 ≤ x := fun x hx => (HPA.out x (List.mem_of_mem_take hx)).1
      have hwx := reach_wins HM.out hal hpt
      have hwy := above_not HM.out hal hpt
      rw [HMM.out] at hwx hwy
      have HWX := Lib.hid hwx
      have HWY := Lib.hid hwy
      have hxl := selL_len (fun v => decide (m ≤ v)) l (at_.take l.length)
      have hyl := selL_len (fun v => decide (m < v)) l (at_.take l.length)
      clear e1 e2 hal hpt hwx hwy HAP
      generalize selL (fun v => decide (m ≤ v)) l (at_.take l.length) = ox at *
      generalize selL (fun v => decide (m < v)) l (at_.take l.length) = oy at *
      have hn1 : ((at_.length : Nat) : Int) ≤ 20 := by omega
      go_wp2_with (at_builtin; refine appSU rfl _ _ rfl wr.heap.size (some ⟨wr.heap.size, 0, none⟩) 0 0 [] rfl rfl (OwnU.made0 wr) Ba ca at_ rfl (S2.out _ (nextB BR.out)) hca (by simp) (by simp; omega) ?_)
      intro Bn dn w3 hon hgrow hb3
      have hbn : Below wr.heap.size wr w3 := ((Below.refl _ wr).alloc (Nat.le_refl _) _).trans hb3
      have HOX3 := Lib.hid (HOX.out.over hbn)
      have HOY3 := Lib.hid (HOY.out.over hbn)
      have BR3 := Lib.hid (nextC BR.out hbn)
      have c4 := R1.out _ BR3.out
      obtain ⟨g, hg, hgb⟩ : ∃ g, Bn = some ⟨g, 0, none⟩ ∧ wr.heap.size ≤ g := by
        rcases hon.2 with ⟨e, e0⟩ | ⟨g, cap, cur, e, hb, _⟩
        · omega
        · injection e with e1 e2 e3; exact ⟨g, e1, hb⟩
      subst hg
      obtain ⟨K, hK⟩ : ∃ K : Nat, who.toNat % l.length = K := ⟨_, rfl⟩
      have hKl : K < l.length := by rw [← hK]; exact Nat.mod_lt _ (by omega)
      have hKm : who.tmod (l.length : Int) = (K : Int) := by
        clear HM HP HPA
        obtain ⟨n, rfl⟩ := Int.eq_ofNat_of_zero_le hw0
        rw [Int.tmod_eq_emod_of_nonneg hw0, ← hK]; simp
      have hKn : (K : Int) < (at_.length : Int) := by omega
      have hKd : K < at_.length := by omega
      have hx := (hon.sl).at_ hKd
      have hf := World.ownsRow.frozenAt hon K
      have hst := World.ownsRow.stored hon K
      have HON := Lib.hid hst
      have hln : ¬ l = [] := fun e => by rw [e] at hl1; simp at hl1
      obtain ⟨x, hxe⟩ : ∃ x, at_[K] = x := ⟨_, rfl⟩
      rw [hxe] at hx
      have HXE := Lib.hid hxe
      have hx0 : w3.cell? ⟨g, K, none⟩ = some (.int .u64 x) := by
        unfold Addr.add at hx
        split at hx
        · rename_i h0; subst h0; exact hx
        · simpa using hx
      clear hon hgrow hb3 hst hxe hK c3 hx
      go_upto_region 16 with fail
      go_cut [] (fun wx => wx = (w3.setCell ⟨g, K, none⟩ (.int .u64 (max x more))).drew)
      case first =>
        go_region_law fail
        all_goals (go_wp2_with fail; go_meet; rfl)
      case rest =>
      obtain rfl := hcut
      have hb5 : Below wr.heap.size wr (w3.setCell ⟨g, K, none⟩ (.int .u64 (max x more))).drew := (hbn.setCell (p := ⟨g, K, none⟩) hgb _).drew
      have B5 := Lib.hid (nextC BR.out hb5)
      have c5 := R1.out _ B5.out
      have HOX5 := Lib.hid (HOX.out.over hb5)
      have HOY5 := Lib.hid (HOY.out.over hb5)
      have hset : (at_.map (Value.int .u64)).set K (.int .u64 (max x more)) = (at_.set K (max x more)).map (Value.int .u64) := by rw [List.map_set]
      have hon5 : OwnU wr.heap.size (w3.setCell ⟨g, K, none⟩ (.int .u64 (max x more))).drew (some ⟨g, 0, none⟩) dn (at_.set K (max x more)) := by
        unfold OwnU
        rw [List.length_set, ← hset]
        exact (HON.out _).1
      have HS5 := Lib.hid hon5.sl
      have hup : m ≤ markF (lookF l (at_.set K (max x more))) l := by
        have hpt : ∀ z ∈ at_.take l.length, 0 ≤ z := fun z hz => (HPA.out z (List.mem_of_mem_take hz)).1
        rw [mark_look HM.out (by rw [List.length_set]; exact hla) (fun z hz => by
          rcases List.mem_or_eq_of_mem_set hz with hz | rfl
          · exact (HPA.out z hz).1
          · omega), ← HMM.out, List.take_set]
        refine best_up (by rw [List.length_take]; omega) hpt (by omega) ?_
        rw [getD_at (by rw [List.length_take]; omega), List.getElem_take, HXE.out]
        omega
      have hlong : (l.length : Int) < ((putL l).length : Int) := by
        have h1 := (catN_len l HP.out).1
        have h2 := (putN_len 9 l.length (by omega)).1
        unfold putL
        rw [List.length_append]
        omega
      have HUP := Lib.hid hup
      have hlong := hlong
      clear hbn hb5 hset hon5 hup hx0 hf HON HXE BR3 c4
      go_wp2_with fail
      refine (C11.out _ B5.out).mono ?_
      rintro e w6 ⟨Bp, dp, rfl, -, hb6⟩
      have B6 := Lib.hid (nextC B5.out hb6)
      have c6 := R1.out _ B6.out
      have HS6 := HS5.out.over hb6
      have X1 := wins_any A Bx c dx l ox _ (S1.out _ B6.out) (HOX5.out.over hb6).sl (by omega) (by omega)
      have X2 := wins_any A By c dy l oy _ (S1.out _ B6.out) (HOY5.out.over hb6).sl (by omega) (by omega)
      rw [HWX.out] at X1
      rw [HWY.out] at X2
      have X3 := far_any ⟨w.heap.size, 0, none⟩ A (some ⟨g, 0, none⟩) c dn l (at_.set K (max x more)) w6 c6 (S1.out _ B6.out) HS6 (by omega) (by rw [List.length_set]; exact hla) (by rw [List.length_set]; omega)
      rw [List.length_set] at X3
      obtain ⟨fm, hfm⟩ : ∃ fm, markF (lookF l (at_.set K (max x more))) l = fm := ⟨_, rfl⟩
      rw [hfm] at X3
      have hup := HUP.out
      rw [hfm] at hup
      have X1 := Lib.hid X1
      have X2 := Lib.hid X2
      have X3 := Lib.hid X3
      clear hb6 HS6 hfm HUP
      generalize (putL l).length = pn at *
      go_wp2_with fail
      refine X1.out.mono ?_
      rintro e w7 ⟨rfl, rfl⟩
      go_wp2_with fail
      refine X2.out.mono ?_
      rintro e w7 ⟨rfl, rfl⟩
      go_wp2_with fail
      refine X3.out.mono ?_
      rintro e w7 ⟨rfl, hb7⟩
      have B7 := Lib.hid (nextC B6.out hb7)
      have c7 := R1.out _ B7.out
      clear hb7
      go_wp2_with fail
      go_ret
      exact ⟨rfl, F0.out _ B7.out⟩

set_option maxHeartbeats 4000000 in
set_option maxRecDepth 100000 in
theorem walk_triv (A Ba : Option Addr) (c ca : Nat) (l at_ : List Int) (who more : Int) (w : World) (h : Sl w .u64 A l) (hl : l.length ≤ 9223372036854775807)
    (hn : mayP l = false ∨ mayP l = true ∧ at_.length < l.length ∨ mayP l = true ∧ l.length ≤ at_.length ∧ who < 0 ∨ mayP l = true ∧ l.length ≤ at_.length ∧ 0 ≤ who ∧ 20 < at_.length) :
    Calls Try.prog 3 #[.slice A l.length c, .slice Ba at_.length ca, .int .i64 who, .int .u64 more] w fun e w' => e = .returned (.bool true) ∧ Below w.heap.size w w' := by
  obtain ⟨W0, hW0⟩ : ∃ W0, w.alloc (.cells #[.slice A l.length c] 22) = W0 := ⟨_, rfl⟩
  have r1 : Row W0 w.heap.size 22 #[.slice A l.length c] := by rw [← hW0]; exact Row.new w _ _
  have hb0 : Below w.heap.size w W0 := by rw [← hW0]; exact (Below.refl _ w).alloc (Nat.le_refl _) _
  have C7 := Lib.hid (fun W (hW : Below w.heap.size w W) => may_any A c l W (h.over hW) hl)
  have KN := Lib.hid (known_any W0)
  have HW := Lib.hid hW0
  have R1 := Lib.hid r1
  have B0 := Lib.hid hb0
  clear hW0 r1 hb0
  rcases hn with hm | ⟨hm, h1⟩ | ⟨hm, h1, h2⟩ | ⟨hm, h1, h2, h3⟩
  · rw [hm] at C7
    go_enter Try.func3, Try.ntmps3
    go_wp2_with fail
    rw [HW.out]
    refine KN.out.mono ?_
    rintro e w1 ⟨rfl, hb1⟩
    have B1 := Lib.hid (nextC B0.out hb1)
    have c1 := (R1.out.over hb1).cell 0
    simp at c1
    clear hb1 KN
    go_wp2_with fail
    refine (C7.out _ B1.out).mono ?_
    rintro e w1' ⟨rfl, rfl⟩
    go_wp2_with fail
    go_ret
    exact ⟨rfl, B1.out⟩
  · rw [hm] at C7
    go_enter Try.func3, Try.ntmps3
    go_wp2_with fail
    rw [HW.out]
    refine KN.out.mono ?_
    rintro e w1 ⟨rfl, hb1⟩
    have B1 := Lib.hid (nextC B0.out hb1)
    have c1 := (R1.out.over hb1).cell 0
    simp at c1
    clear hb1 KN
    go_wp2_with fail
    refine (C7.out _ B1.out).mono ?_
    rintro e w1' ⟨rfl, rfl⟩
    go_wp2_with fail
    go_ret
    exact ⟨rfl, B1.out⟩
  · rw [hm] at C7
    go_enter Try.func3, Try.ntmps3
    go_wp2_with fail
    rw [HW.out]
    refine KN.out.mono ?_
    rintro e w1 ⟨rfl, hb1⟩
    have B1 := Lib.hid (nextC B0.out hb1)
    have c1 := (R1.out.over hb1).cell 0
    simp at c1
    clear hb1 KN
    go_wp2_with fail
    refine (C7.out _ B1.out).mono ?_
    rintro e w1' ⟨rfl, rfl⟩
    go_wp2_with fail
    go_ret
    exact ⟨rfl, B1.out⟩
  · rw [hm] at C7
    have hw : decide (who < 0) = false := decide_eq_false (by omega)
    go_enter Try.func3, Try.ntmps3
    go_wp2_with fail
    rw [HW.out]
    refine KN.out.mono ?_
    rintro e w1 ⟨rfl, hb1⟩
    have B1 := Lib.hid (nextC B0.out hb1)
    have c1 := (R1.out.over hb1).cell 0
    simp at c1
    clear hb1 KN
    go_wp2_with fail
    refine (C7.out _ B1.out).mono ?_
    rintro e w1' ⟨rfl, rfl⟩
    go_wp2_with fail
    go_ret
    exact ⟨rfl, B1.out⟩

theorem opened (H : Type) (enc : TypeId × Value → H) (W : World) (base : Nat) (args : Array Value) (ds gs : List (DataW H)) (before : List MemPlace)
    (hval : ∀ (j : Nat) t v, Try.f3.params[j]? = some t → args[j]? = some v → Value.okWide Try.prog W .any base t v)
    (hW : DataW.Whole enc Try.prog Try.f3.params.toList Rows.peersReachSpec.vars false W args.toList ds gs before) :
    Calls Try.prog 3 args W fun e w' => e = .returned (.bool true) ∧ Below W.heap.size W w' := by
  obtain ⟨p, q, hA, hV, rfl, hfz, hnd⟩ := hW
  rw [Try.params3] at hA hval
  obtain ⟨v0, vs0, d0, ds0, p0, q0, hargs, rfl, rfl, h0, r0⟩ := trodAll_cons hA
  obtain ⟨v1, vs1, d1, ds1, p1, q1, rfl, rfl, rfl, h1, r1⟩ := trodAll_cons r0
  obtain ⟨v2, vs2, d2, ds2, p2, q2, rfl, rfl, rfl, h2, r2⟩ := trodAll_cons r1
  obtain ⟨v3, vs3, d3, ds3, p3, q3, rfl, rfl, rfl, h3, r3⟩ := trodAll_cons r2
  obtain ⟨rfl, rfl, rfl⟩ := trodAll_nil r3
  obtain rfl : args = #[v0, v1, v2, v3] := by cases args; simp_all
  obtain ⟨A, c, l, rfl, s0, c0, m0, w0, n0⟩ := open_row Try.underlying22 Try.underlying23 (by kernel_rfl) (hval 0 22 v0 rfl rfl) h0
  obtain ⟨Ba, ca, at_, rfl, s1, c1, m1, w1, n1⟩ := open_row Try.underlying22 Try.underlying23 (by kernel_rfl) (hval 1 22 v1 rfl rfl) h1
  obtain ⟨who, rfl, _, _, w2⟩ := open_int Try.underlying3 (hval 2 3 v2 rfl rfl) h2
  obtain ⟨more, rfl, _, _, w3⟩ := open_int Try.underlying23 (hval 3 23 v3 rfl rfl) h3
  have hn := bounds_i64 w2
  have hl : l.length ≤ 9223372036854775807 := by unfold maxLen at m0; omega
  rcases hm : mayP l with _ | _
  · exact walk_triv A Ba c ca l at_ who more W s0 hl (.inl hm)
  by_cases e1 : at_.length < l.length
  · exact walk_triv A Ba c ca l at_ who more W s0 hl (.inr (.inl ⟨hm, e1⟩))
  by_cases e2 : who < 0
  · exact walk_triv A Ba c ca l at_ who more W s0 hl (.inr (.inr (.inl ⟨hm, by omega, e2⟩)))
  by_cases e3 : 20 < at_.length
  · exact walk_triv A Ba c ca l at_ who more W s0 hl (.inr (.inr (.inr ⟨hm, by omega, by omega, e3⟩)))
  exact walk A Ba c ca l at_ who more W s0 s1 n1 (fun x hx => wf_u64 (w0 x hx)) (fun x hx => wf_u64 (w1 x hx)) hm (by omega) (by omega) (wf_u64 w3).1 (by omega) (by omega)

set_option maxRecDepth 100000 in
theorem lifted (os : Os) (started : os.Started) (H : Type) (enc : TypeId × Value → H) :
    ReturnsInHanded {} Try.checked os 3 .any (Rows.peersReachSpec.pre6 enc Try.prog Try.f3 Rows.peersReachRow.domain false) (Rows.peersReachSpec.post enc Try.prog Try.f3 false true false false) := by
  refine returnsInHanded_of_change (C := Try.checked) own started (by kernel_rfl) Try.func3
    (ChangeSpec.witness6 (enc := enc) (C := Try.checked) false ⟨#[], #[.slice none 0 0, .slice none 0 0, .int .i64 0, .int .u64 0], []⟩ 8 (by kernel_rfl) (by kernel_rfl) (by kernel_rfl) (by kernel_rfl)) ?_
  intro W base args ds gs before hval hW hcnd hh
  refine (opened H enc W base args ds gs before hval hW).mono fun e W' ⟨he, hg⟩ => ?_
  subst he
  exact ⟨_, rfl, law_post hW rfl laidOut (by kernel_rfl) rfl Try.underlying4 (fun l hl => by match l, hl with | [d0, d1, d2, d3], _ => rfl) hg⟩

theorem over : Rows.peersReachRow.holds Try.pinned (OpenSpec.ofChange Rows.peersReachSpec) :=
  OpenClaim.holds_of_wide 3 Try.f3 rfl rfl rfl rfl rfl rfl rfl ⟨rfl, rfl, rfl, rfl, rfl⟩ rfl rfl rfl rfl rfl (by kernel_rfl) Try.func3 (by kernel_rfl)
    (of_decide_eq_true (by kernel_rfl)) (by unfold Func.isWrapper; first | (rw [if_pos (by decide +kernel)]; kernel_rfl) | (rw [if_neg (by decide +kernel)]; exact ⟨rfl, rfl⟩))
    (fun os started H enc _ => lifted os started H enc)

/-- THE STATEMENT. -/
theorem proved : Rows.PeersReachSaid :=
  over
#print axioms proved
end Go.Proofs.Ytdbodnpfeiplgaa.peersReach
