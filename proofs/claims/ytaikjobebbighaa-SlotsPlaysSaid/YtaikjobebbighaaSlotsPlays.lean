/- SlotsPlays: whatever is set, asked, given back: each answer, and how each pool stands, are the document's. No condition. -/
import Derived.Test.YtaikjobebbighaaDoO
import Derived.Test.YtaikjobebbighaaSqG
import Derived.Test.YtaikjobebbighaaMb
import Derived.Test.YtaikjobebbighaaSlW
import Derived.Test.YtaikjobebbighaaPost
import Derived.Deep.DeepCutAuto
import Derived.Deep.CutBlock
namespace Go.Proofs.Ytaikjobebbighaa.slotsPlays
open Go.ChangeShapes Go.WideShapes Go.ChangeAt Go.RowKit
attribute [local go_sem] Oper.semAt_some
set_option linter.unusedVariables false
theorem laidOut : laidOutB Try.prog = true := by kernel_rfl
theorem own : ownKnob Try.prog.godebug = none := by kernel_rfl
theorem two_new {w W : World} {g : Nat} {t1 t2 : TypeId} {c1 c2 : Array Value} (hg : w.heap.size = g) (hW : (w.alloc (.cells c1 t1)).alloc (.cells c2 t2) = W) : Row W g t1 c1 ∧ Row W (g + 1) t2 c2 ∧ Below g w W ∧ W.heap.size = g + 2 := by
  subst hW
  subst hg
  refine ⟨(Row.new w _ _).over ((Below.refl _ _).alloc (Nat.le_refl _) _), ?_, ((Below.refl _ w).alloc (Nat.le_refl _) _).alloc (by simp) _, by simp⟩
  have := Row.new (w.alloc (.cells c1 t1)) t2 c2
  simpa using this
theorem three_new {w W : World} {g : Nat} {t1 t2 t3 : TypeId} {c1 c2 c3 : Array Value} (hg : w.heap.size = g) (hW : ((w.alloc (.cells c1 t1)).alloc (.cells c2 t2)).alloc (.cells c3 t3) = W) : Row W g t1 c1 ∧ Row W (g + 1) t2 c2 ∧ Row W (g + 1 + 1) t3 c3 ∧ Below g w W ∧ W.heap.size = g + 3 := by
  obtain ⟨V, hV⟩ : ∃ V, (w.alloc (.cells c1 t1)).alloc (.cells c2 t2) = V := ⟨_, rfl⟩
  obtain ⟨a1, a2, a3, a4⟩ := two_new hg hV
  rw [hV] at hW
  have hb : Below V.heap.size V W := by rw [← hW]; exact (Below.refl _ _).alloc (Nat.le_refl _) _
  have a5 := (show Row W V.heap.size t3 c3 by rw [← hW]; exact Row.new V _ _)
  rw [a4] at a5
  exact ⟨a1.over hb, a2.over hb, a5, a3.trans (hb.mono (by omega)), by rw [← hW]; simp; omega⟩
theorem keeps_below {W W' : World} (h : Below W.heap.size W W') : KeepsOthers W W' := ⟨h.size, fun k o hk _ => (h.block k (Array.getElem?_eq_some_iff.1 hk).1).trans hk⟩
theorem row_keep {W W' : World} {row : Option Nat} {g : Nat} {t : TypeId} {cs : Array Value} (h : Row W g t cs) (hg : W.grownBy W' row) (hr : ∀ r, row = some r → ∃ o : Obj, W.heap[r]? = some o ∧ o.isCells = false) : Row W' g t cs := by
  have hne : row ≠ some g := fun e => by
    obtain ⟨o, ho, hc⟩ := hr g e
    unfold Row at h
    rw [h] at ho
    cases ho
    cases hc
  exact (hg.block g h.lt hne.symm).trans h
/-- The result in its cell, the deferred calls taken. -/
theorem leave_end {V : World} {r D : Nat} {t : TypeId} {u : Value} {w : World} (hr : Row V r t #[u]) (hK : V.heap[D]? = some (.deferred (some []))) (hb : Below w.heap.size w V) (hw : w.heap.size ≤ r) (hD : w.heap.size ≤ D) (v : Value) :
    (V.setCell ⟨r, 0, none⟩ v).heap[D]? = some (.deferred (some [])) ∧ ((V.setCell ⟨r, 0, none⟩ v).putObj D (.deferred none)).cell? ⟨r, 0, none⟩ = some v ∧ Below w.heap.size w ((V.setCell ⟨r, 0, none⟩ v).putObj D (.deferred none)) := by
  have hDr : D ≠ r := by
    rintro rfl
    unfold Row at hr
    rw [hK] at hr
    cases hr
  have h1 : (V.setCell ⟨r, 0, none⟩ v).heap[D]? = some (.deferred (some [])) := (Below.heap_setCell V ⟨r, 0, none⟩ _ D hDr).trans hK
  have h2 := hr.put 0 v
  have hg := grownBy_putObj' (V.setCell ⟨r, 0, none⟩ v) D (.deferred none)
  have hlt := hr.lt
  have h3 := (hg.block r (by simpa using hlt) (fun e => hDr (by injection e with e; exact e.symm))).trans h2
  refine ⟨h1, ?_, (hb.setCell (p := ⟨r, 0, none⟩) hw v).grown hg (by rw [World.size_setCell]; exact hb.size) (fun q e => by injection e with e; omega)⟩
  have h4 := Row.cell (w := (V.setCell ⟨r, 0, none⟩ v).putObj D (.deferred none)) h3 0
  exact h4.trans rfl
theorem prefix_at {pre ns : List Key} {x : Key} (h : pre <+: ns) (hl : pre.length < ns.length) : (pre ++ [x]) <+: ns ↔ x = ns[pre.length] := by
  obtain ⟨t, rfl⟩ := h
  constructor
  · rintro ⟨s, e⟩
    rw [List.append_assoc, List.append_cancel_left_eq] at e
    have : (pre ++ t)[pre.length]? = some x := by rw [← e]; simp
    rw [List.getElem?_eq_getElem hl] at this
    injection this with this
    exact this.symm
  · intro e
    rcases t with _ | ⟨y, t⟩
    · simp at hl
    · have : (pre ++ y :: t)[pre.length] = y := by simp
      rw [this] at e
      exact ⟨t, by rw [e]; simp⟩
set_option maxHeartbeats 16000000 in
set_option maxRecDepth 100000 in
theorem walk (A : Option Addr) (c : Nat) (l : List Dc) (left : Int) (w : World) (h : DoS w A l) (hlc : l.length ≤ c) (hcm : c ≤ maxLen) (hw : ∀ x ∈ l, x.name.length ≤ maxLen) :
    Calls Try.prog 7 #[.slice A l.length c, .int .i64 left] w fun e w' => e = .returned (.bool true) ∧ Below w.heap.size w w' := by
  obtain ⟨r0, hr0⟩ : ∃ r0, w.heap.size = r0 := ⟨_, rfl⟩
  obtain ⟨W0, hW0⟩ : ∃ W0, (w.alloc (.cells #[.int .i64 left] 3)).alloc (.cells #[.bool false] 4) = W0 := ⟨_, rfl⟩
  obtain ⟨q0, q1, b0, z0⟩ := two_new hr0 hW0
  have hds : DoS W0 A l := h.over (by rw [hr0]; exact b0)
  obtain ⟨N, hN⟩ : ∃ N, W0.heap.size = N := ⟨_, rfl⟩
  have hNw : N ≤ W0.heap.size := by omega
  have H := Lib.hid hds
  have HN := Lib.hid hN
  have HZ := Lib.hid (show N = r0 + 2 by omega)
  have HQ0 := Lib.hid q0
  have HQ1 := Lib.hid q1
  have HB0 := Lib.hid b0
  have K0 := Lib.hid (known_true W0)
  have HV := Lib.hid (fun (w1 : World) (hb : Below W0.heap.size W0 w1) => heavy_any A c l w1 (hds.over hb) hw hlc hcm)
  have HW := Lib.hid hW0
  have HR := Lib.hid hr0
  clear h hlc hcm hw hN hW0 hr0 q0 q1 b0 z0 hds
  refine (callsIn_wide (n := 5)).1 ?_
  refine callsIn_of_wp_marks Try.func7 rfl trivial ?_ rfl
  simp only [Try.ntmps7, List.size_toArray, List.length_cons, List.length_nil, Nat.reduceAdd, Nat.reduceSub, Array.replicate_succ, Array.replicate_zero, List.push_toArray, List.append_toArray, List.nil_append, List.cons_append]
  refine wpIn_wide.2 ?_
  obtain ⟨Q', hQ⟩ : ∃ Q', bodyPostM Fence.wide 5 Try.prog Try.f7 (fun e w' => e = .returned (.bool true) ∧ Below w.heap.size w w') = Q' := ⟨_, rfl⟩
  rw [hQ]
  have HQ := Lib.hid hQ
  let bp : Exit → Act → World → Prop := bodyPost Try.prog Try.f7 (fun _ _ => True)
  clear hQ
  go_upto_region 1 with fail
  rw [HR.out]
  rw [HW.out]
  go_wp2_with fail
  refine K0.out.mono ?_
  rintro e w1 ⟨rfl, hb1⟩
  have C1 := Lib.hid (HV.out w1 hb1)
  have B1 := Lib.hid hb1
  clear hb1 HV K0
  go_wp2_with fail
  refine C1.out.mono ?_
  rintro e w2 ⟨rfl, hb2⟩
  have B2 := Lib.hid (nextC B1.out hb2)
  clear hb2 C1 B1
  have f1 := (HQ1.out.over B2.out).cell 0
  have f2 := (HQ1.out.over B2.out).free 0
  simp only [List.getElem?_toArray, List.getElem?_cons_zero] at f1
  by_cases hv : heavyN l 0 = true
  · rw [hv]
    go_wp2_with fail
    rw [← HQ.out]
    have h3 := (HQ1.out.over B2.out).put 0 (.bool true)
    have h4 := Row.cell h3 0
    refine ⟨.bool true, ?_, rfl, ?_⟩
    · simp [results, Try.f7]
      have h5 : (w2.setCell ⟨r0 + 1, 0, none⟩ (.bool true)).cell? ⟨r0 + 1, 0, none⟩ = some (.bool true) := h4.trans rfl
      go_simp
    · rw [HR.out]
      exact (HB0.out.trans (B2.out.mono (by have := HN.out; have := HZ.out; omega))).setCell (p := ⟨r0 + 1, 0, none⟩) (by show r0 ≤ r0 + 1; omega) _
  have hv0 : heavyN l 0 = false := by simpa using hv
  have hlen := (heavyN_no l 0 hv0 (by omega) (by omega)).1
  have HNL := Lib.hid (heavyN_no l 0 hv0 (by omega) (by omega)).2
  rw [hv0]
  have C2 := Lib.hid (new_at N W0 w2 (by rw [← HN.out]; exact B2.out) hNw)
  clear hv hv0
  go_wp2_with fail
  refine C2.out.mono ?_
  rintro e w3 ⟨g, b, rfl, -, -, ha, hb3⟩
  obtain ⟨p, hp⟩ : ∃ p, w3.heap.size = p := ⟨_, rfl⟩
  obtain ⟨W4, hW4⟩ : ∃ W4, ((w3.alloc (.cells #[.slice none 0 0, .slice none 0 0, .slice none 0 0] 56)).alloc (.cells #[.pointer (some ⟨g, 0, none⟩)] 25)).alloc (.cells #[.pointer (some ⟨p, 0, none⟩)] 51) = W4 := ⟨_, rfl⟩
  obtain ⟨p0, p1, p2, b4, z4⟩ := three_new hp hW4
  have hb4 : Below w3.heap.size w3 W4 := by rw [hp]; exact b4
  have hpN : N ≤ p := by have := ha.low.size; omega
  have hz0 : ∀ j, Zm p ⟨none, none, none, 0, 0, 0⟩ j → j = p := fun j hj => by rcases hj with e | e | e | e; exact e; all_goals cases e
  have HP := Lib.hid (show Plays N W0 W4 g b [] [] p ⟨none, none, none, 0, 0, 0⟩ ⟨[], [], []⟩ from ⟨ha.over hNw hb4, ⟨p0, RkO.nil _ _, RkO.nil _ _, RkO.nil _ _⟩, fun j hj => by rw [hz0 j hj]; exact hpN, fun j hj hz => by
    have := ha.bk.mine_lt hj
    have := hz0 j hz
    omega⟩)
  have HX5 := Lib.hid (show PSide W4 g b [] p ⟨none, none, none, 0, 0, 0⟩ (p + 1) 25 #[.pointer (some ⟨g, 0, none⟩)] from ⟨p1, fun h => by have := ha.bk.mine_lt h; omega, fun h => by have := hz0 _ h; omega⟩)
  have HX6 := Lib.hid (show PSide W4 g b [] p ⟨none, none, none, 0, 0, 0⟩ (p + 1 + 1) 51 #[.pointer (some ⟨p, 0, none⟩)] from ⟨p2, fun h => by have := ha.bk.mine_lt h; omega, fun h => by have := hz0 _ h; omega⟩)
  clear ha hb3 C2 B2 f1 f2 b4 z4 hb4 hz0 p0 p1 p2
  go_wp2_with fail
  try rw [hp]
  try rw [hW4]
  clear hW4 hp
  go_loopw [34] (fun i wr => ∃ (k : Nat) (st : Bk) (ys : List Wh) (z : Za) (r : Rb), k ≤ l.length ∧ i = .int .i64 k ∧ Hid (Plays N W0 wr g b st ys p z r) ∧ Hid (Both k st r) ∧ Hid (PSide wr g b ys p z (p + 1) 25 #[.pointer (some ⟨g, 0, none⟩)]) ∧ Hid (PSide wr g b ys p z (p + 1 + 1) 51 #[.pointer (some ⟨p, 0, none⟩)])) (fun i _ => l.length - (intOf i).toNat)
  case atStart => exact ⟨0, [], [], ⟨none, none, none, 0, 0, 0⟩, ⟨[], [], []⟩, by omega, rfl, HP, Lib.hid Both.nil, HX5, HX6⟩
  case round =>
    obtain ⟨k, st, ys, z, r, hk, rfl, hP, hO, hX5, hX6⟩ := hrel
    clear HP HX5 HX6
    by_cases hlt : k < l.length
    · have hsd : DoS wr A l := H.out.over (by rw [HN.out]; exact hP.out.a.low)
      obtain ⟨ad, rfl, hb, hc⟩ := hsd k hlt
      obtain ⟨-, c1, c2, c3, c4⟩ := hsd.cells4 k hlt
      have hnl := HNL.out l[k] (List.getElem_mem hlt)
      generalize l[k] = x at *
      obtain ⟨xk, xn, xt, xv⟩ := x
      dsimp only at c1 c2 c3 c4 hnl
      have hnx : xn.length ≤ 1000000 := by omega
      obtain ⟨X, hX⟩ : ∃ X, wr.heap.size = X := ⟨_, rfl⟩
      obtain ⟨W1, hW1⟩ : ∃ W1, wr.alloc (.cells #[.int .u8 xk, nm xn, .int .u64 xt, .int .i64 xv] 30) = W1 := ⟨_, rfl⟩
      have hbx : Below wr.heap.size wr W1 := by rw [← hW1]; exact (Below.refl _ _).alloc (Nat.le_refl _) _
      have hx1 : PSide W1 g b ys p z X 30 #[.int .u8 xk, nm xn, .int .u64 xt, .int .i64 xv] := hP.out.side (by rw [← hW1, ← hX]; exact Row.new wr _ _) (by omega)
      have x0 := hx1.row.cell 0
      have x1 := hx1.row.cell 1
      have x2 := hx1.row.cell 2
      have x3 := hx1.row.cell 3
      have y5 := (hX5.out.over hbx).row.cell 0
      simp only [List.getElem?_toArray, List.getElem?_cons_succ, List.getElem?_cons_zero] at x0 x1 x2 x3 y5
      have HX1 := Lib.hid hx1
      have HP2 := Lib.hid (hP.out.over hNw hbx)
      have HX5 := Lib.hid (hX5.out.over hbx)
      have HX6 := Lib.hid (hX6.out.over hbx)
      clear hsd hb hc hbx hx1 hP hX5 hX6
      go_upto_region 10 with fail
      try rw [hW1]
      try rw [hX]
      clear hW1 hX c1 c2 c3 c4
      go_upto_block 2 with fail
      go_cut [9] (fun s wx => s = .bool true ∧ ∃ (st' : Bk) (ys' : List Wh) (z' : Za) (r' : Rb), Hid (Plays N W0 wx g b st' ys' p z' r') ∧ Hid (Both (k + 1) st' r') ∧ Hid (PSide wx g b ys' p z' (p + 1) 25 #[.pointer (some ⟨g, 0, none⟩)]) ∧ Hid (PSide wx g b ys' p z' (p + 1 + 1) 51 #[.pointer (some ⟨p, 0, none⟩)]) ∧ Hid (PSide wx g b ys' p z' X 30 #[.int .u8 xk, nm xn, .int .u64 xt, .int .i64 xv]))
      case first =>
        by_cases e0 : xk = 0
        · subst e0
          obtain ⟨st', r', out, er, heq, heq', hO', hol⟩ := hO.out.set xn xv
          have C1 := Lib.hid (HP2.out.a.bk.set hO.out.ok hnx heq)
          have HO' := Lib.hid (hO'.mono (Nat.le_succ k))
          have HEQ := Lib.hid heq'
          clear heq heq' hO'
          go_wp2_with fail
          refine C1.out.mono ?_
          rintro e w5 ⟨B5, d5, ys5, rfl, hg, ht⟩
          have hx5 := HX1.out.turn ht
          have h65 := HX6.out.turn ht
          have z1 := hx5.row.cell 1
          have z3 := hx5.row.cell 3
          have y6 := h65.row.cell 0
          simp only [List.getElem?_toArray, List.getElem?_cons_succ, List.getElem?_cons_zero] at z1 z3 y6
          have HX1' := Lib.hid hx5
          have HX6' := Lib.hid h65
          have HX5' := Lib.hid (HX5.out.turn ht)
          have HP5 := Lib.hid (HP2.out.turn hNw ht)
          have HG5 := Lib.hid hg
          have C2 := Lib.hid (RfAt.set HP5.out.d hO.out.rok.1 hnx HEQ.out)
          clear hg ht hx5 h65 C1 HX1 HX6 HX5 x0 x1 x2 x3 y5
          go_wp2_with fail
          refine C2.out.mono ?_
          rintro e w6 ⟨B6, d6, z6, rfl, hg6, ht6⟩
          have HP6 := Lib.hid (HP5.out.rturn hNw ht6)
          have HX1 := Lib.hid (HX1'.out.rturn ht6)
          have HX5 := Lib.hid (HX5'.out.rturn ht6)
          have HX6 := Lib.hid (HX6'.out.rturn ht6)
          have C3 := Lib.hid (tokens_any B5 d5 out w6 (RkO.rks enP_len (HG5.out.rturn ht6 fun j hj => RfAt.lt_ HP2.out.d hj)) (by omega))
          have HG6 := Lib.hid hg6
          clear hg6 ht6 C2 HX1' HX5' HX6' HP5 HG5 z1 z3 y6
          go_wp2_with fail
          refine C3.out.mono ?_
          rintro e w7 ⟨B7, d7, rfl, hg7, hb7⟩
          have c4 := equalU_any B7 d7 (out.map (·.1)) B6 d6 w7 (RkO.rks enU_len hg7) (RkO.rks enU_len (HG6.out.over hb7)) (by rw [List.length_map]; omega)
          rw [List.length_map] at c4
          have C4 := Lib.hid c4
          clear c4
          have HP7 := Lib.hid (HP6.out.over hNw hb7)
          have HX17 := Lib.hid (HX1.out.over hb7)
          have HX57 := Lib.hid (HX5.out.over hb7)
          have HX67 := Lib.hid (HX6.out.over hb7)
          clear C3 hg7 hb7 HG6 HP6 HX1 HX5 HX6
          go_wp2_with fail
          refine C4.out.mono ?_
          rintro e w8 ⟨rfl, hb8⟩
          have HP8 := Lib.hid (HP7.out.over hNw hb8)
          have HX18 := Lib.hid (HX17.out.over hb8)
          have HX58 := Lib.hid (HX57.out.over hb8)
          have HX68 := Lib.hid (HX67.out.over hb8)
          clear C4 hb8 HP7 HX17 HX57 HX67
          go_wp2_with fail
          all_goals (go_meet; exact ⟨rfl, st', ys5, z6, r', HP8, HO', HX58, HX68, HX18⟩)
        have d0 : (xk == 0) = false := by simpa using e0
        by_cases e1 : xk = 1
        · subst e1
          obtain ⟨st', r', held, er, heq, heq', hO'⟩ := hO.out.ask (by omega) xn xt xv
          have C1 := Lib.hid (HP2.out.a.bk.ask hO.out.ok (by omega) hnx heq)
          have HO' := Lib.hid hO'
          have HEQ := Lib.hid heq'
          clear heq heq' hO'
          go_wp2_with fail
          refine C1.out.mono ?_
          rintro e w5 ⟨ys5, rfl, ht⟩
          have hx5 := HX1.out.turn ht
          have h65 := HX6.out.turn ht
          have z1 := hx5.row.cell 1
          have z2 := hx5.row.cell 2
          have z3 := hx5.row.cell 3
          have y6 := h65.row.cell 0
          simp only [List.getElem?_toArray, List.getElem?_cons_succ, List.getElem?_cons_zero] at z1 z2 z3 y6
          have HX1' := Lib.hid hx5
          have HX6' := Lib.hid h65
          have HX5' := Lib.hid (HX5.out.turn ht)
          have HP5 := Lib.hid (HP2.out.turn hNw ht)
          have C2 := Lib.hid (RfAt.ask HP5.out.d hO.out.rok.1 HEQ.out)
          clear ht hx5 h65 C1 HX1 HX6 HX5 x0 x1 x2 x3 y5
          go_wp2_with fail
          refine C2.out.mono ?_
          rintro e w6 ⟨z6, rfl, ht6⟩
          have HP6 := Lib.hid (HP5.out.rturn hNw ht6)
          have HX1 := Lib.hid (HX1'.out.rturn ht6)
          have HX5 := Lib.hid (HX5'.out.rturn ht6)
          have HX6 := Lib.hid (HX6'.out.rturn ht6)
          clear ht6 C2 HX1' HX5' HX6' HP5 z1 z2 z3 y6
          go_wp2_with fail
          all_goals (go_meet; exact ⟨rfl, st', ys5, z6, r', HP6, HO', HX5, HX6, HX1⟩)
        have d1 : (xk == 1) = false := by simpa using e1
        by_cases e2 : xk = 2
        · subst e2
          obtain ⟨st', r', out, er, heq, heq', hO', hol⟩ := hO.out.free xn xt
          have C1 := Lib.hid (HP2.out.a.bk.free hO.out.ok hnx heq)
          have HO' := Lib.hid (hO'.mono (Nat.le_succ k))
          have HEQ := Lib.hid heq'
          clear heq heq' hO'
          go_wp2_with fail
          refine C1.out.mono ?_
          rintro e w5 ⟨B5, d5, ys5, rfl, hg, ht⟩
          have hx5 := HX1.out.turn ht
          have h65 := HX6.out.turn ht
          have z1 := hx5.row.cell 1
          have z2 := hx5.row.cell 2
          have y6 := h65.row.cell 0
          simp only [List.getElem?_toArray, List.getElem?_cons_succ, List.getElem?_cons_zero] at z1 z2 y6
          have HX1' := Lib.hid hx5
          have HX6' := Lib.hid h65
          have HX5' := Lib.hid (HX5.out.turn ht)
          have HP5 := Lib.hid (HP2.out.turn hNw ht)
          have HG5 := Lib.hid hg
          have C2 := Lib.hid (RfAt.free HP5.out.d hO.out.rok.1 HEQ.out)
          clear hg ht hx5 h65 C1 HX1 HX6 HX5 x0 x1 x2 x3 y5
          go_wp2_with fail
          refine C2.out.mono ?_
          rintro e w6 ⟨B6, d6, z6, rfl, hg6, ht6⟩
          have HP6 := Lib.hid (HP5.out.rturn hNw ht6)
          have HX1 := Lib.hid (HX1'.out.rturn ht6)
          have HX5 := Lib.hid (HX5'.out.rturn ht6)
          have HX6 := Lib.hid (HX6'.out.rturn ht6)
          have C3 := Lib.hid (tokens_any B5 d5 out w6 (RkO.rks enP_len (HG5.out.rturn ht6 fun j hj => RfAt.lt_ HP2.out.d hj)) (by omega))
          have HG6 := Lib.hid hg6
          clear hg6 ht6 C2 HX1' HX5' HX6' HP5 HG5 z1 z2 y6
          go_wp2_with fail
          refine C3.out.mono ?_
          rintro e w7 ⟨B7, d7, rfl, hg7, hb7⟩
          have c4 := equalU_any B7 d7 (out.map (·.1)) B6 d6 w7 (RkO.rks enU_len hg7) (RkO.rks enU_len (HG6.out.over hb7)) (by rw [List.length_map]; omega)
          rw [List.length_map] at c4
          have C4 := Lib.hid c4
          clear c4
          have HP7 := Lib.hid (HP6.out.over hNw hb7)
          have HX17 := Lib.hid (HX1.out.over hb7)
          have HX57 := Lib.hid (HX5.out.over hb7)
          have HX67 := Lib.hid (HX6.out.over hb7)
          clear C3 hg7 hb7 HG6 HP6 HX1 HX5 HX6
          go_wp2_with fail
          refine C4.out.mono ?_
          rintro e w8 ⟨rfl, hb8⟩
          have HP8 := Lib.hid (HP7.out.over hNw hb8)
          have HX18 := Lib.hid (HX17.out.over hb8)
          have HX58 := Lib.hid (HX57.out.over hb8)
          have HX68 := Lib.hid (HX67.out.over hb8)
          clear C4 hb8 HP7 HX17 HX57 HX67
          go_wp2_with fail
          all_goals (go_meet; exact ⟨rfl, st', ys5, z6, r', HP8, HO', HX58, HX68, HX18⟩)
        have d2 : (xk == 2) = false := by simpa using e2
        have HO' := Lib.hid (hO.out.mono (Nat.le_succ k))
        go_wp2_with fail
        all_goals (go_meet; exact ⟨rfl, st, ys, z, r, HP2, HO', HX5, HX6, HX1⟩)
      case rest =>
        obtain ⟨rfl, st', ys', z', r', hP', hO', h5', h6', h1'⟩ := hcut
        have y5' := h5'.out.row.cell 0
        have y6' := h6'.out.row.cell 0
        have x1' := h1'.out.row.cell 1
        simp only [List.getElem?_toArray, List.getElem?_cons_succ, List.getElem?_cons_zero] at y5' y6' x1'
        have CS := Lib.hid (stands_any (k + 1) g b st' ys' p r' z' xn wc hP'.out.a.bk hO'.out.ok (by omega) hP'.out.d hO'.out.rok.1 hO'.out.rel hnx)
        clear x0 x1 x2 x3 y5 HX1 HX5 HX6 HP2 hO
        go_wp2_with fail
        refine CS.out.mono ?_
        rintro e w9 ⟨rfl, hb9⟩
        have HP9 := Lib.hid (hP'.out.over hNw hb9)
        have H59 := Lib.hid (h5'.out.over hb9)
        have H69 := Lib.hid (h6'.out.over hb9)
        clear CS hb9 y5' y6' x1' hP' h5' h6' h1'
        go_wp2_with fail
        go_roundw
        case rel => exact ⟨k + 1, st', ys', z', r', by omega, by go_num, HP9, hO', H59, H69⟩
        case measure => simp [intOf]; omega
    · obtain rfl : k = l.length := by omega
      have hfew := hO.out.few
      have hnl := hO.out.rok.1.nl
      obtain ⟨ns, hns⟩ : ∃ ns, srtS r.names = ns := ⟨_, rfl⟩
      have HNM := Lib.hid (show bkNames st = ns by rw [hO.out.rel.names, hns])
      have HNS := Lib.hid (show ∀ x ∈ ns, x.length ≤ 1000000 from fun x hx => by
        rw [← hns] at hx
        have := hO.out.nms x ((List.mergeSort_perm _ _).mem_iff.1 hx)
        omega)
      have HNL := Lib.hid (show ns.length = st.length by rw [← hns, srtS_len, hO.out.rel.cnt])
      have y6 := hX6.out.row.cell 0
      have y7 := hP.out.d.row.cell 0
      simp only [List.getElem?_toArray, List.getElem?_cons_zero] at y6 y7
      have CV := Lib.hid (its_values z.NA r.names.length z.cN wr)
      have CS := Lib.hid (sorted_names z.NA z.cN r.names (by omega) wr (RkO.rks enN_len hP.out.d.nms))
      rw [hns] at CS
      have HWR := Lib.hid (show N ≤ wr.heap.size by have := hP.out.a.low.size; omega)
      clear hns
      go_wp2_with fail
      refine CV.out.mono ?_
      rintro e w2 ⟨rfl, rfl⟩
      clear CV
      go_wp2_with fail
      refine CS.out.mono ?_
      rintro e w2 ⟨B, d, rfl, hnr, hb2⟩
      obtain ⟨x2, hx2⟩ : ∃ x2, w2.heap.size = x2 := ⟨_, rfl⟩
      obtain ⟨W5, hW5⟩ : ∃ W5, (w2.alloc (.cells #[.slice B ns.length d] 52)).alloc (.cells #[.int .i64 0] 3) = W5 := ⟨_, rfl⟩
      obtain ⟨n0, n1, b5, z5⟩ := two_new hx2 hW5
      have hb5 : Below w2.heap.size w2 W5 := by rw [hx2]; exact b5
      have hp2 := hP.out.over hNw hb2
      have hp5 := hp2.over hNw hb5
      have h55 := (hX5.out.over hb2).over hb5
      have h65 := (hX6.out.over hb2).over hb5
      have hs1 : PSide W5 g b ys p z (x2 + 1) 3 #[.int .i64 0] := hp2.side n1 (by omega)
      have hbl : ∀ q, B = some ⟨q, 0, none⟩ → q < x2 := fun q e => by rw [← hx2]; exact hnr.lt_ e
      have hnr5 := hnr.over hb5
      have hx2N : N ≤ x2 := by have := hb2.size; have := HWR.out; omega
      have y5 := h55.row.cell 0
      simp only [List.getElem?_toArray, List.getElem?_cons_zero] at y5
      have CN := Lib.hid (names_at g W5)
      have HX2 := Lib.hid hx2
      have HW5 := Lib.hid hW5
      clear y6 y7 CS hx2 hW5
      go_upto_region 28 with fail
      rw [HX2.out]
      rw [HW5.out]
      clear HW5
      go_wp2_with fail
      refine CN.out.mono ?_
      rintro e w6 ⟨rfl, hw6⟩
      obtain ⟨bx, hbx⟩ : ∃ bx, W5.heap.size = bx := ⟨_, rfl⟩
      have hb6 : Below W5.heap.size W5 w6 := by rw [hw6]; exact (Below.refl _ _).alloc (Nat.le_refl _) _
      have hrb : Row w6 bx 25 #[.pointer (some ⟨g, 0, none⟩)] := by rw [hw6, ← hbx]; exact Row.new W5 _ _
      have hp6 := hp5.over hNw hb6
      have hs6 := hs1.over hb6
      have HP6 := Lib.hid hp6
      have HS6 := Lib.hid hs6
      have H56 := Lib.hid (h55.over hb6)
      have H66 := Lib.hid (h65.over hb6)
      have HN0 := Lib.hid (n0.over hb6)
      have HNR := Lib.hid (hnr5.over hb6)
      have HBL := Lib.hid hbl
      have hz6 := hb6.size
      have SEQ := Lib.hid (names_stops_at (fun j => j = x2 + 1) bx g b st ys w6 (fun j e => by have := hs6.row.lt; omega) hrb.lt (hrb.cell 0) hp6.a.bk (by omega))
      rw [HNM.out] at SEQ
      rw [hbx]
      clear CN hw6 hb6 hrb hp6 hs6 hnr5 hnr hb2 hb5 hp2 hp5 h55 h65 hs1 n0 n1 b5 y5 hP hX5 hX6 hbl hbx z5 HX2 HNM
      go_wp2_with fail
      refine range_names (X := fun j => j = x2 + 1) (ns := ns) (M := st.length) 24 rfl (enter_of Try.func42 (by kernel_rfl) rfl) SEQ.out
        (fun pre W => pre <+: ns ∧ (pre = [] ∨ (pre.length : Int) < left) ∧ But (fun j => j = x2 + 1) w6 W ∧ Row W (x2 + 1) 3 #[.int .i64 pre.length])
        (fun c pre W => (c = .ret ∧ ¬ pre <+: ns) ∨ (c = .exit 3 ∧ pre ≠ [] ∧ left ≤ (pre.length : Int) ∧ (pre.length = 1 ∨ (pre.length : Int) - 1 < left) ∧ But (fun j => j = x2 + 1) w6 W ∧ Row W (x2 + 1) 3 #[.int .i64 pre.length]))
        (fun pre W W' row hs hg hr => ⟨hs.1, hs.2.1, hs.2.2.1.grow hg (fun q e => (hr q e).1), row_keep hs.2.2.2 hg (fun q e => (hr q e).2)⟩)
        (fun c pre W W' row hs hg hr => by
          rcases hs with h1 | ⟨h1, h2, h3, h4, h5, h6⟩
          · exact .inl h1
          · exact .inr ⟨h1, h2, h3, h4, h5.grow hg (fun q e => (hr q e).1), row_keep h6 hg (fun q e => (hr q e).2)⟩)
        ⟨List.nil_prefix, .inl rfl, But.refl _ _, HS6.out.row⟩ ?assign ?body ?done ?stop
      case assign =>
        intro lp x W K hK
        simp at hK
        gi_wp2
        exact hK
      case body =>
        rintro lp pre x W ⟨hpre, hleft, hbut, hrn⟩ hltM
        have hlt2 : pre.length < ns.length := by rw [HNL.out]; exact hltM
        have hzM : pre.length < 64 := by omega
        have hpW := HP6.out.but hNw hbut (fun j hj e => HS6.out.off (by rw [← e]; exact hj)) (fun j hj e => HS6.out.offZ (by rw [← e]; exact hj)) (fun j e => by rw [e]; omega)
        have hne5 : p + 1 ≠ x2 + 1 := fun e => by
          have h1 := H56.out.row
          have h2 := HS6.out.row
          rw [e] at h1
          unfold Row at h1 h2
          rw [h1] at h2
          injection h2 with h2
          injection h2 with h2 h3
          exact absurd h3 (by decide)
        have hne6 : p + 1 + 1 ≠ x2 + 1 := fun e => by
          have h1 := H66.out.row
          have h2 := HS6.out.row
          rw [e] at h1
          unfold Row at h1 h2
          rw [h1] at h2
          injection h2 with h2
          injection h2 with h2 h3
          exact absurd h3 (by decide)
        have k5 := (H56.out.row.but hbut hne5).cell 0
        have k6 := (H66.out.row.but hbut hne6).cell 0
        have k2 := (HN0.out.but hbut (by omega)).cell 0
        have kn := hrn.cell 0
        have hrl : Row W (r0 + 1) 4 #[.bool false] := HQ1.out.below hpW.a.low (by have := HZ.out; omega)
        have hr0 : Row W r0 3 #[.int .i64 left] := HQ0.out.below hpW.a.low (by have := HZ.out; omega)
        have kr := hrl.cell 0
        have krf := hrl.free 0
        have hsn := RkO.rks enN_len (HNR.out.but hbut (fun q e e2 => by have := HBL.out q e; omega))
        obtain ⟨ad, rfl, -, -⟩ := hsn pre.length hlt2
        obtain ⟨-, kx⟩ := hsn.cells1 pre.length hlt2 (u := nm ns[pre.length]) rfl
        simp only [List.getElem?_toArray, List.getElem?_cons_zero] at k5 k6 k2 kn kr
        have hpx := prefix_at (x := x) hpre hlt2
        have hyl := HNS.out ns[pre.length] (List.getElem_mem hlt2)
        generalize ns[pre.length] = y at *
        have HPX := Lib.hid hpx
        have HPW := Lib.hid hpW
        have HBU := Lib.hid hbut
        have HRN := Lib.hid hrn
        have HR0 := Lib.hid hr0
        have HLF := Lib.hid hleft
        have hge : decide ((ns.length : Int) ≤ (pre.length : Int)) = false := decide_eq_false (by omega)
        have hnsl : ns.length ≤ 64 := by rw [HNL.out]; omega
        clear hpx hpW hbut hrn hr0 hrl hsn hne5 hne6 hleft hpre
        by_cases hxy : x = y
        · subst hxy
          have CST := Lib.hid (stands_any l.length g b st ys p r z x W HPW.out.a.bk hO.out.ok (by omega) HPW.out.d hO.out.rok.1 hO.out.rel hyl)
          gi_wp2
          refine ⟨trivial, (CallsIn.inRound lp (callsIn_wide.2 CST.out)).mono ?_⟩
          rintro e W2 ⟨rfl, hb2⟩
          have hrn2 := HRN.out.over hb2
          have hr02 := HR0.out.over hb2
          have j0 := hrn2.cell 0
          have j1 := hrn2.free 0
          have j2 := hr02.cell 0
          have hr0x : r0 ≠ x2 + 1 := by have := HZ.out; omega
          have j3 := (hr02.far (p := ⟨x2 + 1, 0, none⟩) hr0x (.int .i64 ((pre.length : Int) + 1))).cell 0
          simp only [List.getElem?_toArray, List.getElem?_cons_zero] at j0 j2 j3
          have HKO := Lib.hid ((keeps_below hb2).trans (KeepsOthers.setCell W2 ⟨x2 + 1, 0, none⟩ (.int .i64 ((pre.length : Int) + 1))))
          have HCB := Lib.hid ((CBut.of_below (X := fun j => j = x2 + 1) hb2).trans (CBut.put (X := fun j => j = x2 + 1) W2 (b := x2 + 1) rfl 0 (.int .i64 ((pre.length : Int) + 1))))
          have HBU2 := Lib.hid ((HBU.out.trans (But.of_below hb2 (Nat.le_refl _))).put (p := ⟨x2 + 1, 0, none⟩) (.inl rfl) (.int .i64 ((pre.length : Int) + 1)))
          have HRN2 := Lib.hid (show Row (W2.setCell ⟨x2 + 1, 0, none⟩ (.int .i64 ((pre.length : Int) + 1))) (x2 + 1) 3 #[.int .i64 ((pre ++ [x]).length : Int)] by
            have := hrn2.put 0 (.int .i64 ((pre.length : Int) + 1))
            simpa using this)
          have hpl : ((pre ++ [x]).length : Int) = (pre.length : Int) + 1 := by simp
          have HPL := Lib.hid hpl
          clear hb2 hrn2 hr02 CST k5 k6 k2 kn kr krf kx hpl hr0x
          by_cases hle : left ≤ (pre.length : Int) + 1
          · gi_wp2
            exact ⟨HKO.out, .inr ⟨rfl, by simp, by rw [HPL.out]; exact hle, by
              rcases HLF.out with e | e
              · rw [e]; exact .inl rfl
              · exact .inr (by rw [HPL.out]; omega), HBU2.out, HRN2.out⟩⟩
          · have hle2 : decide (left ≤ (pre.length : Int) + 1) = false := decide_eq_false hle
            gi_wp2
            exact ⟨HKO.out, HCB.out, HPX.out.2 (by first | rfl | trivial), .inr (by rw [HPL.out]; omega), HBU2.out, HRN2.out⟩
        · have hxb : (x == y) = false := by simpa using hxy
          have hxc : (x != y) = true := by simpa using hxy
          gi_wp2
          refine ⟨trivial, ?_⟩
          gi_wp2
          exact ⟨KeepsOthers.setCell _ _ _, .inl ⟨rfl, fun h => hxy (HPX.out.1 h)⟩⟩
      case done =>
        rintro D V hD ⟨-, hleft, hbut, hrn⟩ hK
        have hw6 := HP6.out.a.low.size
        have hpV := HP6.out.but hNw hbut (fun j hj e => HS6.out.off (by rw [← e]; exact hj)) (fun j hj e => HS6.out.offZ (by rw [← e]; exact hj)) (fun j e => by rw [e]; omega)
        have k2 := (HN0.out.but hbut (by omega)).cell 0
        have kn := hrn.cell 0
        have hrl : Row V (r0 + 1) 4 #[.bool false] := HQ1.out.below hpV.a.low (by have := HZ.out; omega)
        have hr0 : Row V r0 3 #[.int .i64 left] := HQ0.out.below hpV.a.low (by have := HZ.out; omega)
        have kr := hrl.cell 0
        have krf := hrl.free 0
        have kl := hr0.cell 0
        simp only [List.getElem?_toArray, List.getElem?_cons_zero] at k2 kn kr kl
        have hnsl : ns.length ≤ 64 := by rw [HNL.out]; omega
        obtain ⟨v1, v2, v3⟩ := leave_end (w := w) hrl hK (HB0.out.trans (hpV.a.low.mono (by have := HZ.out; have := HR.out; omega)) |>.mono (by have := HR.out; omega)) (by have := HR.out; omega) (by have := HZ.out; have := HR.out; have := HN.out; omega) (.bool true)
        have V1 := Lib.hid v1
        have V2 := Lib.hid v2
        have V3 := Lib.hid v3
        clear hpV hbut hrn hK hrl hr0 hD v1 v2 v3
        have HMN := Lib.hid (show (((ns.length : Nat) : Int) == min (ns.length : Int) (max left 1)) = true by
          have hmx : min (ns.length : Int) (max left 1) = ns.length := by
            rcases hleft with e | e
            · rw [e]; show min (0 : Int) (max left 1) = 0; omega
            · omega
          rw [hmx]
          exact beq_self_eq_true _)
        go_wp2_with fail
        rw [HMN.out, ← HQ.out]
        refine ⟨by simp, .inl ⟨_, _, rfl, run_takeDeferred V1.out, ?_⟩⟩
        refine ⟨.bool true, ?_, rfl, V3.out⟩
        have v2 := V2.out
        simp [results, Try.f7]
        go_simp
      case stop =>
        rintro D cc pre V hD hpre (⟨rfl, h1⟩ | ⟨rfl, h2, h3, h4, hbut, hrn⟩) hK
        · exact absurd hpre h1
        · have hw6 := HP6.out.a.low.size
          have hpV := HP6.out.but hNw hbut (fun j hj e => HS6.out.off (by rw [← e]; exact hj)) (fun j hj e => HS6.out.offZ (by rw [← e]; exact hj)) (fun j e => by rw [e]; omega)
          have k2 := (HN0.out.but hbut (by omega)).cell 0
          have kn := hrn.cell 0
          have hrl : Row V (r0 + 1) 4 #[.bool false] := HQ1.out.below hpV.a.low (by have := HZ.out; omega)
          have hr0 : Row V r0 3 #[.int .i64 left] := HQ0.out.below hpV.a.low (by have := HZ.out; omega)
          have kr := hrl.cell 0
          have krf := hrl.free 0
          have kl := hr0.cell 0
          simp only [List.getElem?_toArray, List.getElem?_cons_zero] at k2 kn kr kl
          have hnsl : ns.length ≤ 64 := by rw [HNL.out]; omega
          have hple : pre.length ≤ ns.length := hpre.length_le
          have hpl1 : 1 ≤ pre.length := by
            rcases pre with _ | ⟨q, pre⟩
            · exact absurd rfl h2
            · simp
          obtain ⟨v1, v2, v3⟩ := leave_end (w := w) hrl hK (HB0.out.trans (hpV.a.low.mono (by have := HZ.out; have := HR.out; omega)) |>.mono (by have := HR.out; omega)) (by have := HR.out; omega) (by have := HZ.out; have := HR.out; have := HN.out; omega) (.bool true)
          have V1 := Lib.hid v1
          have V2 := Lib.hid v2
          have V3 := Lib.hid v3
          have HMN := Lib.hid (show (((pre.length : Nat) : Int) == min (ns.length : Int) (max left 1)) = true by
            have hmx : min (ns.length : Int) (max left 1) = pre.length := by omega
            rw [hmx]
            exact beq_self_eq_true _)
          clear hpV hbut hrn hK hrl hr0 hD v1 v2 v3 h2 h3 h4 hpre
          go_wp2_with fail
          rw [HMN.out, ← HQ.out]
          refine ⟨by simp, .inl ⟨_, _, rfl, run_takeDeferred V1.out, ?_⟩⟩
          refine ⟨.bool true, ?_, rfl, V3.out⟩
          have v2 := V2.out
          simp [results, Try.f7]
          go_simp
set_option maxRecDepth 100000 in
theorem opened (H : Type) (enc : TypeId × Value → H) (W : World) (base : Nat) (args : Array Value) (ds gs : List (DataW H)) (before : List MemPlace)
    (hval : ∀ (j : Nat) t v, Try.f7.params[j]? = some t → args[j]? = some v → Value.okWide Try.prog W .any base t v)
    (hW : DataW.Whole enc Try.prog Try.f7.params.toList Rows.slotsPlaysSpec.vars false W args.toList ds gs before) :
    Calls Try.prog 7 args W fun e w' => e = .returned (.bool true) ∧ Below W.heap.size W w' := by
  obtain ⟨p, q, hA, hV, rfl, hfz, hnd⟩ := hW
  rw [Try.params7] at hA hval
  obtain ⟨v0, vs0, d0, ds0, p0, q0, hargs, rfl, rfl, h0, r0⟩ := trodAll_cons hA
  obtain ⟨v1, vs1, d1, ds1, p1, q1, rfl, rfl, rfl, h1, r1⟩ := trodAll_cons r0
  obtain ⟨rfl, rfl, rfl⟩ := trodAll_nil r1
  obtain rfl : args = #[v0, v1] := by cases args; simp_all
  obtain ⟨A, c, l, rfl, s0, c0, m0, w0⟩ := open_dos Try.underlying22 Try.underlying30 (by kernel_rfl) rfl rfl rfl rfl (by kernel_rfl) (by kernel_rfl) (by kernel_rfl) (by kernel_rfl) Try.underlying5 Try.underlying9 Try.underlying28 Try.underlying3 (hval 0 _ _ rfl rfl) h0
  obtain ⟨n1, rfl, -, -, b1⟩ := open_int Try.underlying3 (hval 1 _ _ rfl rfl) h1
  exact walk A c l n1 W s0 c0 m0 (fun x hx => (w0 x hx).2.1)

set_option maxRecDepth 100000 in
theorem lifted (os : Os) (started : os.Started) (H : Type) (enc : TypeId × Value → H) :
    ReturnsInHanded {} Try.checked os 7 .any (Rows.slotsPlaysSpec.pre6 enc Try.prog Try.f7 Rows.slotsPlaysRow.domain false) (Rows.slotsPlaysSpec.post enc Try.prog Try.f7 false true false false) := by
  refine returnsInHanded_of_change (C := Try.checked) own started (by kernel_rfl) Try.func7
    (ChangeSpec.witness6 (enc := enc) (C := Try.checked) false ⟨#[], #[.slice none 0 0, .int .i64 0], []⟩ 8 (by kernel_rfl) (by kernel_rfl) (by kernel_rfl) (by kernel_rfl)) ?_
  intro W base args ds gs before hval hW hcnd hh
  refine (opened H enc W base args ds gs before hval hW).mono fun e W' ⟨he, hg⟩ => ?_
  subst he
  exact ⟨_, rfl, law_post hW rfl laidOut (by kernel_rfl) rfl Try.underlying4 (fun l hl => by match l, hl with | [d0, d1], _ => rfl) hg⟩

theorem over : Rows.slotsPlaysRow.holds Try.pinned (OpenSpec.ofChange Rows.slotsPlaysSpec) :=
  OpenClaim.holds_of_wide 7 Try.f7 rfl rfl rfl rfl rfl rfl rfl ⟨rfl, rfl, rfl, rfl, rfl⟩ rfl rfl rfl rfl rfl (by kernel_rfl) Try.func7 (by kernel_rfl)
    (of_decide_eq_true (by kernel_rfl)) (by unfold Func.isWrapper; first | (rw [if_pos (by decide +kernel)]; kernel_rfl) | (rw [if_neg (by decide +kernel)]; exact ⟨rfl, rfl⟩))
    (fun os started H enc _ => lifted os started H enc)

/-- THE STATEMENT. -/
theorem proved : Rows.SlotsPlaysSaid :=
  over
#print axioms proved
end Go.Proofs.Ytaikjobebbighaa.slotsPlays
