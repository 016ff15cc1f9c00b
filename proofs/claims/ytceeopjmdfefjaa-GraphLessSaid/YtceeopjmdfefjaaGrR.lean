/- Contract of graph.Reach: the search that goes deep. -/
import Derived.Test.YtceeopjmdfefjaaGrU
import Derived.Maps.Own
import Derived.Maps.OwnSet
import Derived.Deep.LoopGhost
namespace Go.Proofs.Ytceeopjmdfefjaa
set_option linter.unusedVariables false
open Go.RowKit Go.Sort
/-- A map that is a set of numbers. -/
def SetU (w : World) (b : Nat) (seen : List Int) : Prop := ∃ (n : Nat) (D : DataW Value), w.ownsMap Try.prog 23 (unitElem (H := Value)) b n D ∧ n ≤ seen.length ∧ ∀ x, (Lit.int .u64 x).wf = true → (Maps.has D (.int .u64 x) = true ↔ x ∈ seen)
theorem SetU.grown {w w' : World} {b : Nat} {seen : List Int} {r : Option Nat} (h : SetU w b seen) (hg : w.grownBy w' r) (hr : some b ≠ r) : SetU w' b seen := by
  obtain ⟨n, D, h1, h2, h3⟩ := h
  exact ⟨n, D, h1.kept hg hr, h2, h3⟩
theorem SetU.below {w w' : World} {b : Nat} {seen : List Int} (h : SetU w b seen) (hb : Below w.heap.size w w') : SetU w' b seen :=
  h.grown (r := none) ⟨hb.os, hb.tape, hb.output, hb.size, fun k hk _ => hb.block k hk⟩ (by simp)
theorem SetU.row {base : Nat} {w : World} {b : Nat} {seen : List Int} (h : SetU w b seen) {B : Option Addr} {d : Nat} {xs : List Int} (ho : OwnU base w B d xs) (n : Nat) : some b ≠ Value.ownBlock (.slice B n d) := fun e => by
  obtain ⟨m, D, ⟨es, clock, hb, _⟩, _⟩ := h
  rcases ho.2 with ⟨e1, _⟩ | ⟨g, cap, cur, e1, _, hg, _⟩
  · injection e1 with e1
    subst e1
    cases e
  · injection e1 with e1
    subst e1
    have : b = g := by simpa [Value.ownBlock] using e
    subst this
    rw [hb] at hg
    cases hg
theorem SetU.lt {w : World} {b : Nat} {seen : List Int} (h : SetU w b seen) : b < w.heap.size := by
  obtain ⟨n, D, h1, _⟩ := h
  exact h1.lt
theorem SetU.look {w : World} {b : Nat} {seen : List Int} (h : SetU w b seen) {x : Int} (hx : (Lit.int .u64 x).wf = true) :
    (Instr.lookup 44 (.map (some b)) (.int .u64 x) true).run Try.prog w = .ok (.tuple #[.agg #[], .bool (decide (x ∈ seen))]) w := by
  obtain ⟨n, D, h1, h2, h3⟩ := h
  obtain ⟨v, ps, hrun, hv⟩ := h1.look_ok (Maps.int_keyed Try.underlying23) Try.underlying44 (Try.zeroValue45 w) unitElem_mk (Maps.keyOf_int_mk Try.underlying23 hx)
  obtain ⟨rfl, _⟩ := unitElem_inv hv
  rw [hrun]
  congr 3
  have := h3 x hx
  by_cases hm : x ∈ seen
  · rw [decide_eq_true hm, this.2 hm]
  · rw [decide_eq_false hm, Bool.eq_false_iff.2 (fun e => hm (this.1 e))]
theorem putU {w : World} {ops : Array Oper} {rest : List Oper} {o : Oper} {a : Act} {Q : Exit → Act → World → Prop} (hg : o.guard = none) (m x v : Operand) (hop : o.op = Op.mapUpdate 44 m x v) (b : Nat) (seen : List Int) (y : Int)
    (hm : a.eval m = .map (some b)) (hx : a.eval x = .int .u64 y) (hv : a.eval v = .agg #[]) (hs : SetU w b seen) (hy : (Lit.int .u64 y).wf = true) (hl : seen.length ≤ 1000000)
    (hK : ∀ w', SetU w' b (y :: seen) → w.grownBy w' (some b) → wpList Try.prog ops Q rest (a.put o.dst undef) w') : wpList Try.prog ops Q (o :: rest) a w := by
  obtain ⟨n, D, h1, h2, h3⟩ := hs
  refine wpList_mapUpdate_own w hg m x v _ hop _ _ (Maps.int_keyed Try.underlying23) Try.underlying44 unitElem b n D hm h1 (by unfold maxLen; omega) _ _ _ hx hv (Maps.keyOf_int_mk Try.underlying23 hy) (.agg []) [] unitElem_mk ?_
  intro w' h4 hgr
  refine hK w' ⟨n + 1, _, h4, by simp; omega, fun z hz => ?_⟩ hgr
  by_cases e : z = y
  · subst e
    rw [Maps.has_put_same h1.isMap (by first | exact hy | exact trivial | simp [WideAt.IsKeyLit])]
    simp
  · rw [Maps.has_put_other (by intro h; injection h with _ h; exact e h), h3 z hz]
    simp [e]
/-- What the search holds, in a world: the stack, the set. -/
structure RS (w0 : World) (b : Nat) (B : Option Addr) (d : Nat) (seen todo : List Int) (w : World) : Prop where
  own : OwnU w0.heap.size w B d todo
  set : SetU w b seen
  kp : Below w0.heap.size w0 w
theorem RS.below {w0 w w' : World} {b : Nat} {B : Option Addr} {d : Nat} {seen todo : List Int} (h : RS w0 b B d seen todo w) (hb : Below w.heap.size w w') : RS w0 b B d seen todo w' := ⟨h.own.over hb, h.set.below hb, nextC h.kp hb⟩
theorem RS.put {w0 w w' : World} {b : Nat} {B : Option Addr} {d : Nat} {seen todo : List Int} {y : Int} (h : RS w0 b B d seen todo w) (hb : w0.heap.size ≤ b) (hs : SetU w' b (y :: seen)) (hg : w.grownBy w' (some b)) : RS w0 b B d (y :: seen) todo w' :=
  ⟨World.ownsRow.kept h.own hg (.inr fun e => h.set.row h.own todo.length e.symm), hs, h.kp.grown hg h.kp.size (fun k hk => by cases hk; exact hb)⟩
theorem RS.app {w0 w w' : World} {b : Nat} {B B' : Option Addr} {d d' : Nat} {seen todo : List Int} {y : Int} (h : RS w0 b B d seen todo w) (ho : OwnU w0.heap.size w' B' d' (todo ++ [y]))
    (hg : (w.alloc (.cells #[.int .u64 y] 23)).grownBy w' (Value.ownBlock (.slice B todo.length d))) (hk : Below w0.heap.size w w') : RS w0 b B' d' seen (todo ++ [y]) w' :=
  ⟨ho, (h.set.below ((Below.refl _ w).alloc (Nat.le_refl _) _)).grown hg (h.set.row h.own _), h.kp.trans hk⟩
set_option maxHeartbeats 4000000 in
set_option maxRecDepth 100000 in
theorem reach_any (A : Option Addr) (c : Nat) (l : List Nd) (fr tg : Int) (w : World) (h : NdS w A l) (hl : l.length ≤ 64) (hd : ∀ n ∈ l, n.deps.length ≤ 12) (hw : ∀ n ∈ l, ∀ x ∈ n.deps, (Lit.int .u64 x).wf = true) :
    Calls Try.prog 15 #[.slice A l.length c, .int .u64 fr, .int .u64 tg] w fun e w' => e = .returned (.bool (rchB l fr tg)) ∧ Below w.heap.size w w' := by
  have d1 : decide ((64 : Int) < (l.length : Int)) = false := decide_eq_false (by omega)
  have hal := allD_len l hd
  have hmm := @run_makeMap Try.prog
  have H := Lib.hid h
  have HD := Lib.hid hd
  have HW := Lib.hid hw
  clear h hd hw
  go_enter Try.func15, Try.ntmps15
  go_wp2_with fail
  go_loopg [8] 2001 (fun g v wr => ∃ (B : Option Addr) (d : Nat) (seen todo : List Int), v = .slice B todo.length d ∧ RS w w.heap.size B d seen todo wr ∧ Dfs l fr tg seen todo ∧ 2 * (1000 - seen.length) + todo.length ≤ g ∧ g ≤ 2001)
  case atStart =>
    have ho := OwnU.made1 (w.alloc (Obj.map #[] 0)) fr
    rw [World.size_alloc] at ho
    exact ⟨some ⟨w.heap.size + 1, 0, none⟩, 1, [], [fr], rfl, ⟨ho.low (by omega), ⟨0, .map [], (World.ownsMap_made w _ _ _).alloc _, by simp, fun x _ => by simp [Maps.has]⟩, ((Below.refl _ w).alloc (Nat.le_refl _) _).alloc (by simp) _⟩, Dfs.start l fr tg, by simp, Nat.le_refl _⟩
  case round =>
    obtain ⟨B, d, seen, todo, rfl, hrs, hdf, hgb, hgk⟩ := hrel
    have RR := Lib.hid hrs
    have DF := Lib.hid hdf
    clear hrs hdf hmm
    by_cases h0 : todo = []
    · subst h0
      go_wp2_with fail
      go_ret
      exact ⟨by rw [rchB_no DF.out.done]; rfl, RR.out.kp⟩
    · obtain ⟨t0, x, rfl⟩ : ∃ t0 x, todo = t0 ++ [x] := ⟨todo.dropLast, todo.getLast h0, (List.dropLast_concat_getLast h0).symm⟩
      obtain ⟨td, rfl⟩ := RR.out.own.sl.some_ (by simp)
      have hc := RR.out.own.sl.at_ (j := t0.length) (by simp)
      rw [List.getElem_append_right (by omega)] at hc
      simp only [Nat.sub_self, List.getElem_singleton] at hc
      have hlen : (t0 ++ [x]).length = t0.length + 1 := by simp
      have hdd : t0.length + 1 ≤ d ∧ d ≤ maxLen := by
        obtain ⟨B', d', e, h1, h2⟩ := own_form RR.out.own
        injection e with e1 e2 e3
        exact ⟨by omega, by omega⟩
      have hown := own_take RR.out.own t0.length (by simp)
      rw [List.take_left' rfl] at hown
      have R2 : RS w w.heap.size (some td) d seen t0 wr := ⟨hown, RR.out.set, RR.out.kp⟩
      have RR := Lib.hid R2
      have DF := Lib.hid DF.out.pop
      rw [hlen] at hgb ⊢
      have hsl : ∀ W, (Instr.slice 26 (.slice (some td) (t0.length + 1) d) none (some (.int .i64 (t0.length : Nat))) none).run Try.prog W = .ok (.slice (some td) t0.length d) W := fun W => by
        have hsz : (sizeOf (Try.prog.elem 26)).run Try.prog W = .ok 1 W := by kernel_rfl
        have hut : Try.prog.underlying 26 = some (.slice (Try.prog.elem 26)) := by kernel_rfl
        rw [run_slice_h W _ _ _ _ hut .i64 (t0.length : Nat) (by omega) (by omega), hsz]
        simp [Result.andThen, sliced, Addr.add]
      have e2 : wrap64 (t0.length : Int) = (t0.length : Int) := by
        unfold maxLen at hdd
        rw [wrap64]
        omega
      clear h0 hown R2 hlen hdd
      go_wp2_with fail
      clear hc e2 hsl
      go_loopw [8, 38] (fun v i wr2 => ∃ (k : Nat) (B2 : Option Addr) (d2 : Nat) (seen2 todo2 : List Int), k ≤ l.length ∧ i = .int .i64 k ∧ v = .slice B2 todo2.length d2 ∧ RS w w.heap.size B2 d2 seen2 todo2 wr2 ∧ Dfm l fr tg x k 0 seen2 todo2 ∧ 2 * (1000 - seen2.length) + todo2.length + 1 ≤ gk) (fun _ i _ => l.length - (intOf i).toNat)
      case atStart => exact ⟨0, some td, d, seen, t0, by omega, rfl, rfl, RR.out, DF.out, by omega⟩
      case round =>
        obtain ⟨k, B2, d2, seen2, todo2, hk, rfl, rfl, hrs, hdf, hg2⟩ := hrel
        have R2 := Lib.hid hrs
        have D2 := Lib.hid hdf
        clear hrs hdf RR DF hgb
        by_cases hlt : k < l.length
        · obtain ⟨ad, B1, c1, rfl, hb, h1, h2, hsl, hn1, hle1, hc1⟩ := H.out k hlt
          have h1 := (R2.out.kp.cell (p := ad.add (k * 2)) (by rw [add_block]; exact hb)).trans h1
          have h2 := (R2.out.kp.cell (p := ad.add (k * 2 + 1)) (by rw [add_block]; exact hb)).trans h2
          have hdl := HD.out l[k] (List.getElem_mem _)
          have hwk := HW.out l[k] (List.getElem_mem _)
          have hskip := fun (hn : l[k].id ≠ x) => D2.out.skip hlt hn
          obtain ⟨y, hy⟩ : ∃ y, l[k].id = y := ⟨_, rfl⟩
          obtain ⟨ds, hds⟩ : ∃ ds, l[k].deps = ds := ⟨_, rfl⟩
          rw [hy] at h1 hskip
          rw [hds] at h2 hsl hdl hwk
          have HSL := Lib.hid hsl
          have HSK := Lib.hid hskip
          have HY := Lib.hid hy
          have HDS := Lib.hid hds
          have HWK := Lib.hid hwk
          clear hsl hskip hy hds hn1 hle1 hc1 hwk
          rw [show ad.add (k * 2 + 1) = ⟨(ad.add (k * 2)).block, (ad.add (k * 2)).off + 1, none⟩ by rw [← add_add]; rfl] at h2
          go_upto_region 11 with fail
          obtain ⟨W3, hW3⟩ : ∃ W3, wr.alloc (.cells #[.int .u64 y, .slice B1 ds.length c1] 35) = W3 := ⟨_, rfl⟩
          have rC : Row W3 wr.heap.size 35 #[.int .u64 y, .slice B1 ds.length c1] := by rw [← hW3]; exact Row.new wr _ _
          have b3 : Below wr.heap.size wr W3 := by rw [← hW3]; exact (Below.refl _ wr).alloc (Nat.le_refl _) _
          rw [hW3]
          have z0 := rC.cell 0
          have z1 := rC.cell 1
          simp at z0 z1
          have R3 := Lib.hid (R2.out.below b3)
          clear hW3 rC b3 R2 h1 h2
          by_cases hne : y = x
          · subst hne
            have t1 : (y != y) = false := by simp
            have D3 := D2
            clear D2 HSK
            go_wp2_with fail
            go_loopw [8, 49] (fun v i wr3 => ∃ (j : Nat) (B3 : Option Addr) (d3 : Nat) (seen3 todo3 : List Int), j ≤ ds.length ∧ i = .int .i64 j ∧ v = .slice B3 todo3.length d3 ∧ RS w w.heap.size B3 d3 seen3 todo3 wr3 ∧ Dfm l fr tg y k j seen3 todo3 ∧ 2 * (1000 - seen3.length) + todo3.length + 1 ≤ gk) (fun _ i _ => ds.length - (intOf i).toNat)
            case atStart => exact ⟨0, B2, d2, seen2, todo2, by omega, rfl, rfl, R3.out, D3.out, hg2⟩
            case round =>
              obtain ⟨j, B3, d3, seen3, todo3, hj, rfl, rfl, hrs, hdf, hg3⟩ := hrel
              have R4 := Lib.hid hrs
              have D4 := Lib.hid hdf
              clear hrs hdf R3 D3 hg2 z0 z1
              by_cases hlj : j < ds.length
              · have hjl : j < l[k].deps.length := by rw [HDS.out]; exact hlj
                obtain ⟨dd, rfl, hdb, hdc⟩ := HSL.out j hlj
                have hc4 := (R4.out.kp.cell (p := dd.add j) (by rw [add_block]; exact hdb)).trans hdc
                obtain ⟨z, hz⟩ : ∃ z, ds[j] = z := ⟨_, rfl⟩
                have hzl : l[k].deps[j] = z := by rw [← hz]; simp [HDS.out]
                have hzw := HWK.out z (by rw [← hz]; exact List.getElem_mem _)
                rw [hz] at hc4
                have HZ := Lib.hid hzl
                have HJL := Lib.hid hjl
                have hlook := R4.out.set.look hzw
                clear hdc hz hzl
                by_cases ht : z = tg
                · subst ht
                  have t2 : (z == z) = true := by simp
                  clear hlook
                  go_wp2_with fail
                  go_ret
                  have hr := D4.out.reach hlt HJL.out HY.out
                  rw [HZ.out] at hr
                  exact ⟨by rw [(rchB_iff hl).2 hr]; rfl, R4.out.kp⟩
                · have t2 : (z == tg) = false := beq_eq_false_iff_ne.2 ht
                  have HT := Lib.hid ht
                  clear ht
                  by_cases hmem : z ∈ seen3
                  · rw [decide_eq_true hmem] at hlook
                    have D5 := Lib.hid (D4.out.old hlt HJL.out (by rw [HZ.out]; exact HT.out) (by rw [HZ.out]; exact hmem))
                    clear hmem
                    go_wp2_with fail
                    have R5 := Lib.hid (R4.out.below ((Below.refl _ wr).alloc (Nat.le_refl _) (Obj.cells #[] 45)))
                    go_roundw
                    case rel => exact ⟨j + 1, B3, d3, seen3, todo3, by omega, by go_num, rfl, R5.out, D5.out, hg3⟩
                    case measure => simp [intOf]; omega
                  · rw [decide_eq_false hmem] at hlook
                    have hnd : (z :: seen3).Nodup := List.nodup_cons.2 ⟨hmem, D4.out.nd⟩
                    have D5 := D4.out.new hlt HJL.out HY.out (by rw [HZ.out]; exact HT.out) hnd (by intro q; rw [HZ.out]; simp)
                    rw [HZ.out] at D5
                    have D5 := Lib.hid D5
                    have hsn := D5.out.len
                    rw [List.length_cons] at hsn
                    have R5 := Lib.hid (R4.out.below ((Below.refl _ wr).alloc (Nat.le_refl _) (Obj.cells #[] 45)))
                    have hsl5 : seen3.length ≤ 700000 := by omega
                    have htl5 : todo3.length ≤ gk := by omega
                    clear hmem hnd D4
                    go_wp2_with (first
                      | (at_mapUpdate; refine putU rfl _ _ _ rfl w.heap.size seen3 z rfl rfl rfl R5.out.set hzw (by omega) ?_; intro w5 hset5 hg5; have R6 := Lib.hid (R5.out.put (Nat.le_refl _) hset5 hg5); clear hset5 hg5)
                      | (at_builtin; refine app1U rfl _ _ rfl w.heap.size B3 _ d3 todo3 z rfl rfl R6.out.own rfl R6.out.kp.size (by omega) ?_; intro B' d' w6 hown6 hg6 hb6; have R7 := Lib.hid (R6.out.app hown6 hg6 hb6); clear hown6 hg6 hb6))
                    go_roundw
                    case rel => exact ⟨j + 1, B', d', z :: seen3, todo3 ++ [z], by omega, by go_num, by rw [List.length_append]; rfl, R7.out, D5.out, by rw [List.length_append, List.length_cons, List.length_singleton]; omega⟩
                    case measure => simp [intOf]; omega
              · obtain rfl : j = ds.length := by omega
                go_wp2_with fail
                go_roundw
                case rel => exact ⟨k + 1, B3, d3, seen3, todo3, by omega, by go_num, rfl, R4.out, D4.out.next hlt (by rw [HDS.out]; exact Nat.le_refl _), hg3⟩
                case measure => simp [intOf]; omega
          · have t1 : (y != x) = true := by simpa using hne
            have D3 := Lib.hid (HSK.out hne)
            clear hne D2 HSK
            go_wp2_with fail
            go_roundw
            case rel => exact ⟨k + 1, B2, d2, seen2, todo2, by omega, by go_num, rfl, R3.out, D3.out, hg2⟩
            case measure => simp [intOf]; omega
        · obtain rfl : k = l.length := by omega
          go_wp2_with fail
          go_roundg (2 * (1000 - seen2.length) + todo2.length)
          case measure => omega
          case rel => exact ⟨B2, d2, seen2, todo2, rfl, R2.out, D2.out.close (Nat.le_refl _), Nat.le_refl _, by omega⟩
set_option maxHeartbeats 1000000 in
set_option maxRecDepth 100000 in
theorem reach_long (A : Option Addr) (c : Nat) (l : List Nd) (fr tg : Int) (w : World) (hl : 64 < l.length) :
    Calls Try.prog 15 #[.slice A l.length c, .int .u64 fr, .int .u64 tg] w fun e w' => e = .returned (.bool (rchB l fr tg)) ∧ Below w.heap.size w w' := by
  have hr : rchB l fr tg = false := by
    classical
    unfold rchB
    exact decide_eq_false fun h => by omega
  rw [hr]
  have d1 : (64 : Int) < (l.length : Int) := by omega
  clear hl hr
  go_enter Try.func15, Try.ntmps15
  go_wp2_with fail
  go_ret
  exact ⟨rfl, Below.refl _ _⟩
end Go.Proofs.Ytceeopjmdfefjaa
