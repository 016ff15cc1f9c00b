/- Contracts of calendar.from, and of (Calendar).first over it. -/
import Derived.Test.YthigmjjafilbcaaDoorRgF
namespace Go.Proofs.YthigmjjafilbcaaDoor
set_option linter.unusedVariables false
set_option maxRecDepth 100000
open Go.RowKit Go.Shelf
attribute [local go_sem] Oper.semAt_some
theorem from_any (n s : Int) (w : World) : Calls Tryd.prog 33 #[.int .i64 n, .int .i64 s] w fun e w' =>
    e = .returned (.func (.func 63) #[] #[.pointer (some ⟨w.heap.size, 0, none⟩), .pointer (some ⟨w.heap.size + 1, 0, none⟩)]) ∧ w' = (w.alloc (.cells #[.int .i64 n] 3)).alloc (.cells #[.int .i64 s] 3) := by
  go_enter Tryd.func33, Tryd.ntmps33
  go_wp2_with fail
  go_ret
  exact ⟨rfl, rfl⟩
theorem row_kept {W W' : World} {row : Option Nat} {g : Nat} {t : TypeId} {cs : Array Value} (h : Row W g t cs) (hg : W.grownBy W' row) (hr : ∀ r, row = some r → ∃ o : Obj, W.heap[r]? = some o ∧ o.isCells = false) : Row W' g t cs := by
  have hne : row ≠ some g := fun e => by
    obtain ⟨o, ho, hc⟩ := hr g e
    unfold Row at h
    rw [h] at ho
    cases ho
    cases hc
  exact (hg.block g h.lt (fun e => hne e.symm)).trans h
/-- Which day `first` finds: none of those ahead works. -/
def FirstIs (k : Nat) (off on : List Int) (n s r e : Int) : Prop :=
  (∃ i : Nat, (∀ j : Nat, j < i → inB (n + s * j) = true ∧ worksC k off on (n + s * j) = false) ∧ inB (n + s * i) = true ∧ worksC k off on (n + s * i) = true ∧ r = n + s * i ∧ e = 0) ∨
  (∃ i : Nat, (∀ j : Nat, j < i → inB (n + s * j) = true ∧ worksC k off on (n + s * j) = false) ∧ inB (n + s * i) = false ∧ r = 0 ∧ e = 5)
theorem load_int {w : World} {a : Addr} {v : Value} (h : w.cell? a = some v) : (loadVar 3 a).run Tryd.prog w = .ok v w := by
  simp [go_sem, loadVar, h]
theorem load_err {w : World} {a : Addr} {v : Value} (h : w.cell? a = some v) : (loadVar 36 a).run Tryd.prog w = .ok v w := by
  simp [go_sem, loadVar, h]
theorem results_cells2 {P : Program} {fn : Func} {p u : Tmp} {ty uy : TypeId} (h : fn.results = #[.cell p ty, .cell u uy]) (tmps : Array Value) (w : World) {a b : Addr} {x y : Value} (hp : tmps[p]?.getD undef = .pointer (some a)) (hq : tmps[u]?.getD undef = .pointer (some b))
    (hx : (loadVar ty a).run P w = .ok x w) (hy : (loadVar uy b).run P w = .ok y w) : (results fn tmps).run P w = .ok (.tuple #[x, y]) w := by
  have e1 : (asAddr (tmps[p]?.getD undef)).run P w = .ok a w := by rw [hp]; rfl
  have e2 : (asAddr (tmps[u]?.getD undef)).run P w = .ok b w := by rw [hq]; rfl
  simp only [results, h]
  simp [Sem.run_bind, Result.andThen, e1, e2, hx, hy]
theorem stepsL_inj {n s : Int} {i j : Nat} (h : stepsL n s i = stepsL n s j) : i = j := by
  have := congrArg List.length h
  rwa [stepsL_len, stepsL_len] at this
theorem keeps_of_below {W W' : World} (h : Below W.heap.size W W') : KeepsOthers W W' := ⟨h.size, fun k o hk _ => (h.block k (Array.getElem?_eq_some_iff.1 hk).1).trans hk⟩
theorem fromKp_putObj {bn bs B : Nat} (h1 : bn < B) (h2 : bs < B) (W : World) (l : Nat) (o' : Obj) (hl : B ≤ l) : FromKp bn bs W (W.putObj l o') := by
  have e1 : (W.putObj l o').heap[bn]? = W.heap[bn]? := World.putObj_heap_other (by omega)
  have e2 : (W.putObj l o').heap[bs]? = W.heap[bs]? := World.putObj_heap_other (by omega)
  exact ⟨⟨World.cell?_of_block (a := ⟨bn, 0, none⟩) e1, World.frozen?_of_block (a := ⟨bn, 0, none⟩) e1⟩, World.cell?_of_block (a := ⟨bs, 0, none⟩) e2⟩
theorem fromKp_trans {bn bs : Nat} {A B C : World} (h : FromKp bn bs A B) (k : FromKp bn bs B C) : FromKp bn bs A C := ⟨⟨k.1.1.trans h.1.1, k.1.2.trans h.1.2⟩, k.2.trans h.2⟩
theorem fromKp_below {bn bs : Nat} {A B : World} (h1 : bn < A.heap.size) (h2 : bs < A.heap.size) (h : Below A.heap.size A B) : FromKp bn bs A B :=
  ⟨⟨h.cell (p := ⟨bn, 0, none⟩) h1, h.frozen (p := ⟨bn, 0, none⟩) h1⟩, h.cell (p := ⟨bs, 0, none⟩) h2⟩
/-- Three boxes of one's own, beside an iterator's. -/
def Three (w0 : World) (g : Nat) (cs : Array Value) (r e : Int) (W : World) : Prop :=
  Row W g 24 cs ∧ Row W (g + 1) 3 #[.int .i64 r] ∧ Row W (g + 2) 36 #[.int .i64 e] ∧ Below w0.heap.size w0 W
theorem Three.kept {w0 : World} {g : Nat} {cs : Array Value} {r e : Int} {W W' : World} {row : Option Nat} {B : Nat} (h : Three w0 g cs r e W) (hB : w0.heap.size ≤ B) (hg : W.grownBy W' row) (hr : ∀ q, row = some q → B ≤ q ∧ ∃ o : Obj, W.heap[q]? = some o ∧ o.isCells = false) : Three w0 g cs r e W' :=
  ⟨row_kept h.1 hg (fun q e => (hr q e).2), row_kept h.2.1 hg (fun q e => (hr q e).2), row_kept h.2.2.1 hg (fun q e => (hr q e).2), h.2.2.2.grown hg h.2.2.2.size (fun q e => Nat.le_trans hB (hr q e).1)⟩
theorem Three.far {w0 : World} {g : Nat} {cs : Array Value} {r e : Int} {W : World} {bn : Nat} (h : Three w0 g cs r e W) (hbn : w0.heap.size ≤ bn) (hlt : bn < g) (u : Value) : Three w0 g cs r e (W.setCell ⟨bn, 0, none⟩ u) :=
  ⟨h.1.far (by show g ≠ bn; omega) u, h.2.1.far (by show g + 1 ≠ bn; omega) u, h.2.2.1.far (by show g + 2 ≠ bn; omega) u, h.2.2.2.setCell (p := ⟨bn, 0, none⟩) hbn u⟩
theorem Three.over {w0 : World} {g : Nat} {cs : Array Value} {r e : Int} {W W' : World} (h : Three w0 g cs r e W) (hb : Below W.heap.size W W') : Three w0 g cs r e W' :=
  ⟨h.1.over hb, h.2.1.over hb, h.2.2.1.over hb, nextC h.2.2.2 hb⟩
set_option maxHeartbeats 1000000 in
theorem first_any (v : Value) (k : Nat) (off on : List Int) (n s : Int) (hn : -1 ≤ n) (hn1 : n ≤ 157054) (hs : s = 1 ∨ s = -1) (w0 w : World) (bn bs : Nat) (h : CalAt w0 v k off on) (h1 : off.Pairwise (· ≤ ·)) (h2 : on.Pairwise (· ≤ ·))
    (hw : Below w0.heap.size w0 w) (hbn : w0.heap.size ≤ bn) (hbs : w0.heap.size ≤ bs) (hne : bs ≠ bn) (rn : Row w bn 3 #[.int .i64 n]) (rs : Row w bs 3 #[.int .i64 s]) :
    Calls Tryd.prog 48 #[v, .func (.func 63) #[] #[.pointer (some ⟨bn, 0, none⟩), .pointer (some ⟨bs, 0, none⟩)]] w fun e w' =>
      (∃ r er, e = .returned (.tuple #[.int .i64 r, .int .i64 er]) ∧ FirstIs k off on n s r er) ∧ Below w0.heap.size w0 w' := by
  have hlt := rn.lt
  have hlt2 := rs.lt
  refine (callsIn_wide (n := 5)).1 ?_
  refine callsIn_of_wp_marks Tryd.func48 rfl trivial ?_ rfl
  simp only [Tryd.ntmps48, List.size_toArray, List.length_cons, List.length_nil, Nat.reduceAdd, Nat.reduceSub, Array.replicate_succ, Array.replicate_zero, List.push_toArray, List.append_toArray, List.nil_append, List.cons_append]
  obtain ⟨A, cA, B, cB, hv, ha, hb⟩ := h.ex
  subst hv
  gi_wp2
  obtain ⟨cs, hcs⟩ : ∃ cs : Array Value, #[.int .u8 k, .slice A off.length cA, .slice B on.length cB] = cs := ⟨_, rfl⟩
  obtain ⟨W0, hW0⟩ : ∃ W0, ((w.alloc (.cells #[.int .u8 k, .slice A off.length cA, .slice B on.length cB] 24)).alloc (.cells #[.int .i64 0] 3)).alloc (.cells #[.int .i64 0] 36) = W0 := ⟨_, rfl⟩
  have hsz : W0.heap.size = w.heap.size + 3 := by rw [← hW0]; simp
  have r1 : Row W0 bn 3 #[.int .i64 n] := by rw [← hW0]; exact ((rn.alloc _).alloc _).alloc _
  have r2 : Row W0 bs 3 #[.int .i64 s] := by rw [← hW0]; exact ((rs.alloc _).alloc _).alloc _
  have T0 : Three w0 w.heap.size cs 0 0 W0 := by
    rw [← hW0, ← hcs]
    refine ⟨((Row.new w _ _).alloc _).alloc _, ?_, ?_, nextB (nextB (nextB hw))⟩
    · have := Row.new (w.alloc (.cells #[.int .u8 k, .slice A off.length cA, .slice B on.length cB] 24)) 3 #[.int .i64 0]
      rw [show (w.alloc (.cells #[.int .u8 k, .slice A off.length cA, .slice B on.length cB] 24)).heap.size = w.heap.size + 1 by simp] at this
      exact this.alloc _
    · have := Row.new ((w.alloc (.cells #[.int .u8 k, .slice A off.length cA, .slice B on.length cB] 24)).alloc (.cells #[.int .i64 0] 3)) 36 #[.int .i64 0]
      rwa [show ((w.alloc (.cells #[.int .u8 k, .slice A off.length cA, .slice B on.length cB] 24)).alloc (.cells #[.int .i64 0] 3)).heap.size = w.heap.size + 2 by simp] at this
  rw [hW0]
  have hg0 : w0.heap.size ≤ w.heap.size := hw.size
  have CW := Lib.hid (fun x W (hW : Below w0.heap.size w0 W) => works_any _ k off on x W (h.over hW) h1 h2)
  have HC := Lib.hid hcs
  clear hW0 hcs
  refine wpIn_rangeFunc_box rfl (by omega) (gf := 63) (lb := #[.pointer (some ⟨bn, 0, none⟩), .pointer (some ⟨bs, 0, none⟩)]) rfl trivial (enters_of Tryd.func63 (by kernel_rfl) rfl) (bn := bn) (by omega)
    (from_box 4 (by omega) bn bs hne n s hn hn1 hs) (fun o o' => ⟨⟨((r1.alloc o).alloc o').cell 0, ((r1.alloc o).alloc o').free 0⟩, ((r2.alloc o).alloc o').cell 0⟩)
    fromKp_trans (fromKp_putObj (B := W0.heap.size) (by omega) (by omega))
    (fun pre W => (∃ i, pre = stepsL n s i ∧ ∀ j : Nat, j < i → worksC k off on (n + s * j) = false) ∧ Three w0 w.heap.size cs 0 0 W)
    (fun c pre W => c = .ret ∧ (∃ i x, pre = stepsL n s (i + 1) ∧ x = n + s * (i : Int) ∧ worksC k off on x = true ∧ (∀ j : Nat, j < i → worksC k off on (n + s * j) = false) ∧ Three w0 w.heap.size cs x 0 W))
    (fun pre W W' row hs hg hr => ⟨hs.1, hs.2.kept (by omega) hg hr⟩)
    (fun c pre W W' row hs hg hr => ⟨hs.1, by obtain ⟨i, x, e1, e2, e3, e4, ht⟩ := hs.2; exact ⟨i, x, e1, e2, e3, e4, ht.kept (by omega) hg hr⟩⟩)
    (fun pre W u hs => ⟨hs.1, hs.2.far hbn hlt u⟩) ⟨⟨0, rfl, fun j hj => absurd hj (by omega)⟩, T0⟩
    (fun x => { tmps := #[.agg #[.int .u8 k, .slice A off.length cA, .slice B on.length cB], .func (.func 63) #[] #[.pointer (some ⟨bn, 0, none⟩), .pointer (some ⟨bs, 0, none⟩)], .pointer (some ⟨w.heap.size, 0, none⟩), undef, .pointer (some ⟨w.heap.size + 1, 0, none⟩), .pointer (some ⟨w.heap.size + 1 + 1, 0, none⟩), .int .i64 x, .func (.func 63) #[] #[.pointer (some ⟨bn, 0, none⟩), .pointer (some ⟨bs, 0, none⟩)], .int .i64 x, undef, undef, undef, undef], defers := [] }) ?assign ?body ?done ?stop
  case assign =>
    intro l x W K hK
    gi_wp2
    exact hK
  case body =>
    rintro l pre x W ⟨⟨i, rfl, hno⟩, T1⟩ ⟨i', hpre, hx, hin⟩
    obtain rfl := stepsL_inj hpre
    have kc := fun o => T1.1.cell o
    rw [← HC.out] at kc
    have HX := Lib.hid hx.symm
    clear hx hpre
    gi_wp2
    refine ⟨trivial, (CallsIn.inRound l (callsIn_wide.2 (CW.out x W T1.2.2.2))).mono ?_⟩
    rintro e W2 ⟨rfl, hb2⟩
    have T2 := T1.over hb2
    cases hwk : worksC k off on x
    · have HW := Lib.hid hwk
      clear hwk
      gi_wp2
      refine ⟨keeps_of_below hb2, fromKp_below (by have := T1.1.lt; omega) (by have := T1.1.lt; omega) hb2, ⟨i + 1, by rw [stepsL_succ, HX.out], fun j hj => ?_⟩, T2⟩
      by_cases e : j = i
      · subst e; rw [HX.out]; exact HW.out
      · exact hno j (by omega)
    · have HW := Lib.hid hwk
      clear hwk
      have ka := fun o => T2.2.1.cell o
      have kb := fun o => T2.2.2.1.cell o
      have fa := fun o => T2.2.1.free o
      have fb := fun o => T2.2.2.1.free o
      gi_wp2
      refine ⟨(keeps_of_below hb2).trans ((KeepsOthers.setCell _ _ _).trans (KeepsOthers.setCell _ _ _)), rfl, i, x, by rw [stepsL_succ, HX.out], HX.out.symm, HW.out, hno, ?_, ?_, ?_, ?_⟩
      · exact (T2.1.far (by simp) _).far (by simp; try omega) _
      · exact ((T2.2.1.put 0 _).far (by simp) _).eq rfl
      · exact ((T2.2.2.1.far (by simp) _).put 0 _).eq rfl
      · exact (T2.2.2.2.setCell (by simp; omega) _).setCell (by simp; omega) _
  case done =>
    rintro D xs W hD ⟨i, rfl, hin, hend⟩ ⟨⟨i', hpre, hno⟩, T1⟩ hK
    obtain rfl := stepsL_inj hpre
    have ka := fun o => T1.2.1.cell o
    have kb := fun o => T1.2.2.1.cell o
    have fa := fun o => T1.2.1.free o
    have fb := fun o => T1.2.2.1.free o
    gi_wp2
    have hK2 := ((KeepsOthers.setCell W ⟨w.heap.size + 1, 0, none⟩ (.int .i64 0)).trans (KeepsOthers.setCell _ ⟨w.heap.size + 1 + 1, 0, none⟩ (.int .i64 5))).same D _ hK rfl
    refine ⟨by simp, .inl ⟨_, _, rfl, run_takeDeferred hK2, ?_⟩⟩
    have q1 : Row ((W.setCell ⟨w.heap.size + 1, 0, none⟩ (.int .i64 0)).setCell ⟨w.heap.size + 1 + 1, 0, none⟩ (.int .i64 5)) (w.heap.size + 1) 3 #[.int .i64 0] := ((T1.2.1.put 0 _).far (by simp) _).eq rfl
    have q2 : Row ((W.setCell ⟨w.heap.size + 1, 0, none⟩ (.int .i64 0)).setCell ⟨w.heap.size + 1 + 1, 0, none⟩ (.int .i64 5)) (w.heap.size + 1 + 1) 36 #[.int .i64 5] := ((T1.2.2.1.far (by simp) _).put 0 _).eq rfl
    have q3 : Below w0.heap.size w0 ((W.setCell ⟨w.heap.size + 1, 0, none⟩ (.int .i64 0)).setCell ⟨w.heap.size + 1 + 1, 0, none⟩ (.int .i64 5)) := (T1.2.2.2.setCell (p := ⟨w.heap.size + 1, 0, none⟩) (by simp; omega) _).setCell (p := ⟨w.heap.size + 1 + 1, 0, none⟩) (by simp; omega) _
    generalize ((W.setCell ⟨w.heap.size + 1, 0, none⟩ (.int .i64 0)).setCell ⟨w.heap.size + 1 + 1, 0, none⟩ (.int .i64 5)) = V at q1 q2 q3 hK2 ⊢
    have hg := grownBy_putObj' V D (.deferred none)
    have hr : ∀ r, some D = some r → ∃ o : Obj, V.heap[r]? = some o ∧ o.isCells = false := fun r e => by cases e; exact ⟨_, hK2, rfl⟩
    refine ⟨_, results_cells2 Tryd.results48 _ _ rfl rfl (load_int ((row_kept q1 hg hr).cell 0)) (load_err ((row_kept q2 hg hr).cell 0)), ⟨0, 5, rfl, .inr ⟨i, fun j hj => ⟨hin j hj, hno j hj⟩, hend, rfl, rfl⟩⟩, ?_⟩
    exact q3.grown hg q3.size (fun q e => by cases e; omega)
  case stop =>
    rintro D c pre W hD ⟨i, rfl, hin⟩ ⟨rfl, i', x, hpre, hx, hwk, hno, T1⟩ hK
    have := stepsL_inj hpre
    obtain rfl : i = i' := by omega
    have ka := fun o => T1.2.1.cell o
    have kb := fun o => T1.2.2.1.cell o
    have fa := fun o => T1.2.1.free o
    have fb := fun o => T1.2.2.1.free o
    gi_wp2
    refine ⟨by simp, .inl ⟨_, _, rfl, run_takeDeferred hK, ?_⟩⟩
    have hg := grownBy_putObj' W D (.deferred none)
    have hr : ∀ r, some D = some r → ∃ o : Obj, W.heap[r]? = some o ∧ o.isCells = false := fun r e => by cases e; exact ⟨_, hK, rfl⟩
    refine ⟨_, results_cells2 Tryd.results48 _ _ rfl rfl (load_int ((row_kept T1.2.1 hg hr).cell 0)) (load_err ((row_kept T1.2.2.1 hg hr).cell 0)), ⟨x, 0, rfl, .inl ⟨i, fun j hj => ⟨hin j (by omega), hno j hj⟩, hin i (Nat.le_refl _), by rw [← hx]; exact hwk, hx, rfl⟩⟩, ?_⟩
    exact T1.2.2.2.grown hg T1.2.2.2.size (fun q e => by cases e; omega)
end Go.Proofs.YthigmjjafilbcaaDoor
