/- Slots: pool.serves. -/
import Derived.Test.YtaikjobebbighaaSlE
import Derived.Deep.LoopGhost
namespace Go.Proofs.Ytaikjobebbighaa
set_option linter.unusedVariables false
set_option maxRecDepth 100000
open Go.RowKit
theorem RkO.store {α : Type} {en : α → List Value} {k : Nat} {e : TypeId} {base : Nat} {B : Option Addr} {d : Nat} {ts : List α} {a : World} {p : Nat} {t : TypeId} {cs : Array Value} (h : RkO en k e base a B d ts) (hr : Row a p t cs) (hne : e ≠ t) (o : Nat) (v : Value) : RkO en k e base (a.setCell ⟨p, o, none⟩ v) B d ts :=
  h.keep fun g eg cs' hc => Below.heap_setCell a ⟨p, o, none⟩ v g (fun e2 => h.off hr hne (by rw [eg, show g = p from e2]))
theorem RkO.lt_ {α : Type} {en : α → List Value} {k : Nat} {e : TypeId} {base : Nat} {B : Option Addr} {d : Nat} {ts : List α} {a : World} (h : RkO en k e base a B d ts) {g : Nat} (hB : B = some ⟨g, 0, none⟩) : g < a.heap.size := by
  subst hB
  obtain ⟨cur, h1, -⟩ := h.open_
  exact h1.lt
/-- Rows apart. -/
def Apt (A B : Option Addr) : Prop := ∀ g, A = some ⟨g, 0, none⟩ → B ≠ some ⟨g, 0, none⟩
theorem Apt.symm {A B : Option Addr} (h : Apt A B) : Apt B A := fun g e e2 => h g e2 e
/-- What a pool's serving has come to. -/
structure SvAt (p pb ob : Nat) (size : Int) (A0 A0' : Option Addr) (h0 l0 : List Pl) (w wr : World) (h l out : List Pl) (A : Option Addr) (c : Nat) (A' : Option Addr) (c' : Nat) (B : Option Addr) (d : Nat) : Prop where
  row : Row wr p 77 #[.int .i64 size, .slice A h.length c, .slice A' l.length c']
  box : Row wr pb 75 #[.pointer (some ⟨p, 0, none⟩)]
  obx : Row wr ob 31 #[.slice B out.length d]
  own : PlO 0 wr A c h
  lin : PlO 0 wr A' c' l
  res : PlO 0 wr B d out
  nA : NearB w.heap.size A0 A
  nL : NearB w.heap.size A0' A'
  nB : NearB w.heap.size none B
  ap1 : Apt A A'
  ap2 : Apt A B
  ap3 : Apt A' B
  ok : PoolOk size h l
  eq : servesF size h0 l0 = ((servesF size h l).1, (servesF size h l).2.1, out ++ (servesF size h l).2.2)
  few : out.length + l.length ≤ 100000
  but : But (fun k => k = p ∨ A0 = some ⟨k, 0, none⟩) w wr
theorem SvAt.over {p pb ob : Nat} {size : Int} {A0 A0' : Option Addr} {h0 l0 : List Pl} {w wr w2 : World} {h l out : List Pl} {A : Option Addr} {c : Nat} {A' : Option Addr} {c' : Nat} {B : Option Addr} {d : Nat}
    (S : SvAt p pb ob size A0 A0' h0 l0 w wr h l out A c A' c' B d) (hb : Below wr.heap.size wr w2) : SvAt p pb ob size A0 A0' h0 l0 w w2 h l out A c A' c' B d :=
  ⟨S.row.over hb, S.box.over hb, S.obx.over hb, S.own.over hb, S.lin.over hb, S.res.over hb, S.nA, S.nL, S.nB, S.ap1, S.ap2, S.ap3, S.ok, S.eq, S.few, S.but.trans (But.of_below hb (Nat.le_refl _))⟩
/-- How a serving ends. -/
def SvEnd (p : Nat) (size : Int) (A A' : Option Addr) (h l : List Pl) (w : World) (e : Ending) (w' : World) : Prop :=
  ∃ (A2 : Option Addr) (c2 : Nat) (A2' : Option Addr) (c2' : Nat) (B : Option Addr) (d : Nat), e = .returned (.slice B (servesF size h l).2.2.length d) ∧
      Row w' p 77 #[.int .i64 size, .slice A2 (servesF size h l).1.length c2, .slice A2' (servesF size h l).2.1.length c2'] ∧ PlO 0 w' A2 c2 (servesF size h l).1 ∧ PlO 0 w' A2' c2' (servesF size h l).2.1 ∧ PlO 0 w' B d (servesF size h l).2.2 ∧
      NearB w.heap.size A A2 ∧ NearB w.heap.size A' A2' ∧ NearB w.heap.size none B ∧ Apt A2 A2' ∧ Apt A2 B ∧ Apt A2' B ∧ But (fun k => k = p ∨ A = some ⟨k, 0, none⟩) w w'
theorem SvAt.fin {p pb ob : Nat} {size : Int} {A0 A0' : Option Addr} {h0 l0 : List Pl} {w wr w2 : World} {h l out : List Pl} {A : Option Addr} {c : Nat} {A' : Option Addr} {c' : Nat} {B : Option Addr} {d : Nat}
    (S : SvAt p pb ob size A0 A0' h0 l0 w wr h l out A c A' c' B d) (he : servesF size h l = (h, l, [])) (hb : Below wr.heap.size wr w2) : SvEnd p size A0 A0' h0 l0 w (.returned (.slice B out.length d)) w2 := by
  unfold SvEnd
  have e := S.eq
  rw [he] at e
  simp only [List.append_nil] at e
  rw [e]
  exact ⟨A, c, A', c', B, d, rfl, S.row.over hb, S.own.over hb, S.lin.over hb, S.res.over hb, S.nA, S.nL, S.nB, S.ap1, S.ap2, S.ap3, S.but.trans (But.of_below hb (Nat.le_refl _))⟩
set_option maxHeartbeats 4000000 in
theorem serves_any (p : Nat) (size : Int) (A : Option Addr) (c : Nat) (h : List Pl) (A' : Option Addr) (c' : Nat) (l : List Pl) (w : World)
    (hp : Row w p 77 #[.int .i64 size, .slice A h.length c, .slice A' l.length c']) (hA : PlO 0 w A c h) (hL : PlO 0 w A' c' l) (hap : Apt A A') (hk : PoolOk size h l) :
    Calls Try.prog 27 #[.pointer (some ⟨p, 0, none⟩)] w fun e w' => SvEnd p size A A' h l w e w' := by
  obtain ⟨N, hN⟩ : ∃ N, w.heap.size = N := ⟨_, rfl⟩
  obtain ⟨W0, hW0⟩ : ∃ W0, w.alloc (.cells #[.pointer (some ⟨p, 0, none⟩)] 75) = W0 := ⟨_, rfl⟩
  have hs0 : W0.heap.size = N + 1 := by rw [← hW0, ← hN]; simp
  obtain ⟨W1, hW1⟩ : ∃ W1, W0.alloc (.cells #[.slice none 0 0] 31) = W1 := ⟨_, rfl⟩
  have b0 : Row W0 N 75 #[.pointer (some ⟨p, 0, none⟩)] := by rw [← hW0, ← hN]; exact Row.new w _ _
  have b1 : Row W1 N 75 #[.pointer (some ⟨p, 0, none⟩)] := by rw [← hW1]; exact b0.alloc _
  have o1 : Row W1 (N + 1) 31 #[.slice none 0 0] := by rw [← hW1, ← hs0]; exact Row.new W0 _ _
  have hb1 : Below N w W1 := by rw [← hW1, ← hW0, ← hN]; exact ((Below.refl _ w).alloc (Nat.le_refl _) _).alloc (by simp) _
  have S1 : SvAt p N (N + 1) size A A' h l w W1 h l [] A c A' c' none 0 :=
    ⟨hp.below hb1 (by rw [← hN]; exact hp.lt), b1, o1, hA.over (by rw [hN]; exact hb1), hL.over (by rw [hN]; exact hb1), RkO.nil _ _, NearB.same _ _, NearB.same _ _, NearB.same _ _, hap, (fun g _ e => by cases e), (fun g _ e => by cases e), hk, by simp, by have := hk.few; simp; omega, But.of_below hb1 (by omega)⟩
  have S1 := Lib.hid S1
  clear b0 b1 o1 hb1 hp hA hL hap hk
  go_enter Try.func27, Try.ntmps27
  go_wp2_with fail
  go_loopg [6] l.length (fun gk f wr => ∃ (hc lc out : List Pl) (A1 : Option Addr) (c1 : Nat) (A1' : Option Addr) (c1' : Nat) (B : Option Addr) (d : Nat), gk = lc.length ∧ Hid (SvAt p N (N + 1) size A A' h l w wr hc lc out A1 c1 A1' c1' B d))
  case atStart => exact ⟨h, l, [], A, c, A', c', none, 0, rfl, S1⟩
  case round =>
    obtain ⟨hc, lc, out, A1, c1, A1', c1', B, d, rfl, S⟩ := hrel
    have K := S.out
    obtain ⟨T, F, hT, hF, hG⟩ := class_of (fun v => Below wr.heap.size wr v) wr.drew (Below.refl _ _).drew
    have f1 : ∀ n, (F n).cell? ⟨N, 0, none⟩ = some (.pointer (some ⟨p, 0, none⟩)) := fun n => ((K.box.over (hF n)).cell 0).trans rfl
    have f2 : ∀ n, (F n).cell? ⟨p, 2, none⟩ = some (.slice A1' lc.length c1') := fun n => ((K.row.over (hF n)).cell 2).trans rfl
    have f3 : ∀ n, (F n).cell? ⟨N + 1, 0, none⟩ = some (.slice B out.length d) := fun n => ((K.obx.over (hF n)).cell 0).trans rfl
    have hF' := Lib.hid hF
    have HG := Lib.hid hG
    have C1 := Lib.hid (fun n => (left_any p size A1 c1 hc (.slice A1' lc.length c1') (F n) (K.row.over (hF n)) ((RkO.rks enP_len K.own).over (hF n)) ⟨by have := K.ok.few; omega, K.ok.hs⟩ K.ok.s0 K.ok.s1).mono (R' := fun e w' => e = .returned (.int .i64 (leftI size hc)) ∧ ∃ m, w' = F m) fun e w' hh => ⟨hh.1, hG _ (nextC (hF n) hh.2)⟩)
    have hkl := K.lin
    clear hF hG K
    rcases lc with _ | ⟨x, t⟩
    · clear hkl
      go_upto_region 3 with fail
      refine wp_region_class F (by kernel_rfl) (by kernel_rfl) (HG.out _ (Below.refl _ _).drew) ?_
      repeat (go_big_quiet_step ((go_at_call 32; exact C1.out _)))
      refine wpQuiet_nil ?_
      rintro _ ⟨nq, rfl⟩
      go_wp2_with fail
      go_ret
      exact S.out.fin rfl (hF'.out nq)
    · obtain ⟨g, rfl, -, hgw, hgc⟩ : ∃ g, A1' = some ⟨g, 0, none⟩ ∧ 0 ≤ g ∧ g < wr.heap.size ∧ (x :: t).length ≤ c1' := by
        rcases hkl.form with ⟨-, -, e⟩ | h1
        · cases e
        · exact h1
      have hrs := RkO.rks enP_len hkl
      obtain ⟨-, g0, g1⟩ := hrs.cells2 0 (by simp) (u := .int .u64 x.1) (v := .int .i64 x.2) rfl
      have f4 : ∀ n, (F n).cell? ⟨g, 1, none⟩ = some (.int .i64 x.2) := fun n => ((hF'.out n).cell (p := ⟨g, 1, none⟩) hgw).trans g1
      have f5 : ∀ n, (F n).cell? ⟨g, 0, none⟩ = some (.int .u64 x.1) := fun n => ((hF'.out n).cell (p := ⟨g, 0, none⟩) hgw).trans g0
      clear hkl hrs g0 g1
      have hpos : (0 : Int) < ((t.length : Nat) : Int) + 1 := by omega
      obtain ⟨q, hq⟩ : ∃ q, leftI size hc = q := ⟨_, rfl⟩
      rw [hq] at C1
      by_cases hx : x.2 ≤ q
      · have HX := Lib.hid hx
        go_upto_region 3 with fail
        refine wp_region_class F (by kernel_rfl) (by kernel_rfl) (HG.out _ (Below.refl _ _).drew) ?_
        repeat (go_big_quiet_step ((go_at_call 32; exact C1.out _)))
        refine wpQuiet_nil ?_
        rintro _ ⟨nq, rfl⟩
        have S2 := Lib.hid (S.out.over (hF'.out nq))
        have hgq : g < (F nq).heap.size := Nat.lt_of_lt_of_le hgw (hF'.out nq).size
        have a1 := f1 nq
        have a2 := f2 nq
        have a4 := f4 nq
        have a5 := f5 nq
        generalize F nq = wq at S2 hgq a1 a2 a4 a5 ⊢
        clear f1 f2 f3 f4 f5 HG hF' C1 hT S
        have eg := enter_of Try.func44 (by kernel_rfl) (by kernel_rfl)
        have hfew := S2.out.ok.few
        have hfew2 := S2.out.few
        simp only [List.length_cons] at hfew hfew2
        have CS := Lib.hid (serves1_any p N (N + 1) size A1 c1 hc (.slice (some ⟨g, 0, none⟩) (x :: t).length c1') B d out x wq S2.out.row S2.out.box S2.out.obx S2.out.own S2.out.res S2.out.ap2 S2.out.ok.rise (by omega) (by omega))
        go_wp2_with (go_at_call 44; refine CS.out.mono ?_; rintro e w1 ⟨rfl, i, A2, c2, B2, d2, hi, hp1, ho1, hA1, hB1, hnA, hnB, hap1, hbt⟩)
        have hNp : N ≠ p := S2.out.box.ne S2.out.row (by decide)
        have hpb1 := S2.out.box.but hbt (by rintro (e | e | e | e); exact hNp e; omega; exact S2.out.own.off S2.out.box (by decide) e; exact S2.out.res.off S2.out.box (by decide) e)
        have hgp : g ≠ p := fun e => S2.out.lin.off S2.out.row (by decide) (by rw [e])
        have hgo : g ≠ N + 1 := fun e => S2.out.lin.off S2.out.obx (by decide) (by rw [e])
        have hl1 := S2.out.lin.but hbt (fun g' e => by
          injection e with e
          injection e with e
          subst e
          rintro (e | e | e | e)
          · exact hgp e
          · exact hgo e
          · exact S2.out.ap1 g e rfl
          · exact S2.out.ap3 g rfl e)
        have hb1 : But (fun k => k = p ∨ A = some ⟨k, 0, none⟩) w w1 := S2.out.but.next hbt (fun j e => by
          rcases e with e | e | e | e
          · exact .inl (.inl e)
          · exact .inr (by omega)
          · rcases S2.out.nA j e with h1 | h1
            · exact .inl (.inr h1)
            · exact .inr h1
          · rcases S2.out.nB j e with h1 | h1
            · cases h1
            · exact .inr h1)
        have hrs1 := RkO.rks enP_len hl1
        have hsz1 := hbt.size
        go_upto_region 5 with fail
        have k1 : w1.cell? ⟨N, 0, none⟩ = some (.pointer (some ⟨p, 0, none⟩)) := (hpb1.cell 0).trans rfl
        obtain ⟨T2, F2, hT2, hF2, hG2⟩ := class_of (fun v => v.cell? ⟨N, 0, none⟩ = some (.pointer (some ⟨p, 0, none⟩))) w1.drew k1
        have u1 := fun n => hF2 n
        have HG2 := Lib.hid hG2
        clear hF2 hG2
        have s1 := HG2.out w1.drew k1
        refine wp_region_held (S := fun v => ∃ n, v = F2 n) (by kernel_rfl) ?_
        change wpAnyH _ _ _ _ _ _ _ _ (World.drew _)
        refine held_stretch (C := fun v => ∃ n, v = F2 n) (by kernel_rfl) (fun _ _ _ _ _ h => h) (fun _ h => h) s1 6 4 0 _ _ (by kernel_rfl) (by kernel_rfl) (by decide) ?_
        simp only [List.take_succ_cons, List.take_zero, List.drop_zero]
        repeat (go_big_quiet_step (fail))
        refine wpQuiet_nil ?_
        have k2 : w1.drew.cell? ⟨p, 2, none⟩ = some (.slice (some ⟨g, 0, none⟩) (t.length + 1) c1') := (hp1.cell 2).trans rfl
        refine held_one 4 (by kernel_rfl) ?_
        refine op_run (v := .slice (some ⟨g, 0, none⟩) (t.length + 1) c1') (w' := w1.drew) rfl (by kernel_rfl) (by go_simp) ?_
        refine ⟨s1, ?_⟩
        simp only [List.setIfInBounds_toArray, Act.put]
        obtain ⟨AS, hAS, hSS⟩ : ∃ AS : Addr, (if c1' = 1 then some (⟨g, 0, none⟩ : Addr) else some ⟨g, 2, none⟩) = some AS ∧ PlS w1 (some AS) t := by
          have hc := RkS.cut hrs1 (n := 1) (cap := c1') hgc
          by_cases h1 : c1' = 1
          · rw [if_pos h1] at hc ⊢; exact ⟨_, rfl, hc⟩
          · rw [if_neg h1] at hc ⊢; exact ⟨⟨g, 2, none⟩, rfl, hc⟩
        refine held_one 5 (by kernel_rfl) ?_
        have hgc' : t.length + 1 ≤ c1' := hgc
        have hc1 : 1 ≤ c1' := by omega
        have hi1 : (1 : Int) ≤ (t.length : Int) + 1 := by omega
        refine op_run (v := .slice (some AS) t.length (c1' - 1)) (w' := w1.drew) rfl (by kernel_rfl) (by go_simp) ?_
        refine ⟨s1, ?_⟩
        simp only [List.setIfInBounds_toArray, List.set_cons_succ, List.set_cons_zero, Act.put]
        have inC := enter_of Try.func30 (by kernel_rfl) (by kernel_rfl)
        have CC := Lib.hid (clone_any (some AS) (c1' - 1) t w1.drew hSS (by simp) (by omega))
        refine held_call 6 _ 38 30 _ _ #[.slice (some AS) t.length (c1' - 1)] (by kernel_rfl) rfl rfl rfl inC (by kernel_rfl) (by kernel_rfl) ?_
        refine CC.out.mono ?_
        rintro e w2 ⟨⟨A3, c3, rfl, ho3⟩, hb2d⟩
        have hb2 : Below w1.heap.size w1 w2 := (Below.refl _ w1).drew.trans hb2d
        have hp2 := hp1.over hb2
        have hpb2 := hpb1.over hb2
        have hob2 := ho1.over hb2
        refine ⟨_, rfl, HG2.out w2 ((hpb2.cell 0).trans rfl), ?_⟩
        simp only [List.setIfInBounds_toArray, List.set_cons_succ, List.set_cons_zero]
        refine held_stretch (C := fun v => ∃ n, v = F2 n) (by kernel_rfl) (fun _ _ _ _ _ h => h) (fun _ h => h) (HG2.out w2 ((hpb2.cell 0).trans rfl)) 1 2 7 _ _ (by kernel_rfl) (by kernel_rfl) (by decide) ?_
        simp only [List.take_succ_cons, List.take_zero, List.drop_succ_cons, List.drop_zero]
        repeat (go_big_quiet_step (fail))
        refine wpQuiet_nil ?_
        refine held_one 9 (by kernel_rfl) ?_
        have n2 := hp2.cell 2
        have n3 := hp2.free 2
        obtain ⟨w3, hw3⟩ : ∃ w3, w2.setCell ⟨p, 2, none⟩ (.slice A3 t.length c3) = w3 := ⟨_, rfl⟩
        refine op_skip (w' := w2.setCell ⟨p, 2, none⟩ (.slice A3 t.length c3)) rfl (by kernel_rfl) (by go_simp) ?_
        rw [hw3]
        have hpb3 : Row w3 N 75 #[.pointer (some ⟨p, 0, none⟩)] := by rw [← hw3]; exact hpb2.far (p := ⟨p, 2, none⟩) hNp _
        refine ⟨HG2.out w3 ((hpb3.cell 0).trans rfl), ?_⟩
        simp only [List.setIfInBounds_toArray, Act.put]
        refine wpAnyH_done (by kernel_rfl) ?_ _
        have hir : insT hc i x = insR x hc := insR_is hc x i hi
        rw [hir] at hA1
        have hwq := S2.out.but.size
        go_wp2_with fail
        go_roundg t.length
        case rel =>
          refine ⟨insR x hc, t, out ++ [x], A2, c2, A3, c3, B2, d2, rfl, Lib.hid ⟨?_, hpb3, ?_, ?_, ?_, ?_, S2.out.nA.trans hnA hwq, (ho3.fresh A').low (by show w.heap.size ≤ w1.heap.size; omega), S2.out.nB.trans hnB hwq, ?_, hap1, ?_, S2.out.ok.step, ?_, ?_, ?_⟩⟩
          · rw [insR_len, ← hw3]; exact hp2.put 2 _
          · rw [List.length_append, List.length_singleton, ← hw3]; exact hob2.far (p := ⟨p, 2, none⟩) (fun e => by have e : N + 1 = p := e; exact (S2.out.obx.ne S2.out.row (by decide)) e) _
          · rw [← hw3]; exact (hA1.over hb2).store hp2 (by decide) 2 _
          · rw [← hw3]; exact (ho3.low (Nat.zero_le _)).store hp2 (by decide) 2 _
          · rw [← hw3]; exact (hB1.over hb2).store hp2 (by decide) 2 _
          · exact fun g' e e2 => by
              have h1 := hA1.lt_ e
              rcases (ho3.fresh none) g' e2 with h2 | h2
              · cases h2
              · have h2 : w1.heap.size ≤ g' := h2
                omega
          · exact fun g' e e2 => by
              have h1 := hB1.lt_ e2
              rcases (ho3.fresh none) g' e with h2 | h2
              · cases h2
              · have h2 : w1.heap.size ≤ g' := h2
                omega
          · rw [S2.out.eq, servesF_yes (by rw [hq]; have := HX.out; omega)]
            simp
          · rw [List.length_append, List.length_singleton]; omega
          · rw [← hw3]; exact (hb1.trans (But.of_below hb2 (by omega))).put (.inl (.inl rfl)) _
        case measure => simp
      · have HX := Lib.hid hx
        have hxd : decide (x.2 ≤ q) = false := decide_eq_false hx
        clear hx
        go_upto_region 3 with fail
        refine wp_region_class F (by kernel_rfl) (by kernel_rfl) (HG.out _ (Below.refl _ _).drew) ?_
        repeat (go_big_quiet_step ((go_at_call 32; exact C1.out _)))
        refine wpQuiet_nil ?_
        rintro _ ⟨nq, rfl⟩
        go_wp2_with fail
        go_ret
        exact S.out.fin (servesF_no (by rw [hq]; have := HX.out; omega)) (hF'.out nq)
end Go.Proofs.Ytaikjobebbighaa
