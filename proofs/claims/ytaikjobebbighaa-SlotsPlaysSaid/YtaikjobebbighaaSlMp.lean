/- Slots: a law's own maps: sizes by names; tokens seen. What the sums come to. -/
import Derived.Test.YtaikjobebbighaaSlPm
import Derived.Maps.Own
import Derived.Maps.OwnSet
namespace Go.Proofs.Ytaikjobebbighaa
set_option linter.unusedVariables false
set_option maxRecDepth 100000
open Go.RowKit
theorem ownsMap_but2 {F : Nat → Prop} {H : Type} {w w' : World} {k : TypeId} {R : Value → Option (DataW H × List MemPlace)} {b n : Nat} {D : DataW H} (h : w.ownsMap Try.prog k R b n D) (hb : But F w w') (hn : ¬ F b) : w'.ownsMap Try.prog k R b n D := by
  have hl := h.lt
  obtain ⟨es, clock, h1, r⟩ := h
  exact ⟨es, clock, (hb.block b hl hn).trans h1, r⟩
/-- Sizes by names. -/
def SzAt (w : World) (m n : Nat) (f : Key → Int) : Prop := ∃ D : DataW Value, w.ownsMap Try.prog 9 rawR m n D ∧ ∀ k, D.atKey (.string k) (.held (.int .i64 0)) = .held (.int .i64 (f k))
theorem SzAt.new (w : World) : SzAt (w.alloc (.map #[] 0)) w.heap.size 0 (fun _ => 0) := ⟨.map [], World.ownsMap_made w _ _ _, fun k => rfl⟩
theorem SzAt.but {F : Nat → Prop} {w w' : World} {m n : Nat} {f : Key → Int} (h : SzAt w m n f) (hb : But F w w') (hn : ¬ F m) : SzAt w' m n f := by
  obtain ⟨D, h1, h2⟩ := h
  exact ⟨D, ownsMap_but2 h1 hb hn, h2⟩
theorem SzAt.over {w w' : World} {m n : Nat} {f : Key → Int} (h : SzAt w m n f) (hb : Below w.heap.size w w') : SzAt w' m n f := h.but (F := fun _ => False) (But.of_below hb (Nat.le_refl _)) (fun h => h)
theorem SzAt.lt {w : World} {m n : Nat} {f : Key → Int} (h : SzAt w m n f) : m < w.heap.size := by obtain ⟨D, h1, _⟩ := h; exact h1.lt
theorem SzAt.look {w : World} {m n : Nat} {f : Key → Int} (h : SzAt w m n f) (k : Key) (hk : k.length ≤ 1000000) : (Instr.lookup 27 (.map (some m)) (nm k) false).run Try.prog w = .ok (.int .i64 (f k)) w := by
  obtain ⟨D, hm, hd⟩ := h
  obtain ⟨v', ps, hrun, hv⟩ := hm.lookup (Maps.string_keyed Try.underlying9) Try.underlying27 (Try.zeroValue3 w) (zd := .held (.int .i64 0)) (zp := []) rfl (key := nm k) (kl := .string k) (key_nm k hk)
  rw [hd k] at hv
  simp only [rawR, Option.some.injEq, Prod.mk.injEq, DataW.held.injEq] at hv
  obtain ⟨rfl, -⟩ := hv
  exact hrun
theorem SzAt.put {w : World} {m n : Nat} {f : Key → Int} (h : SzAt w m n f) (hn : n ≤ 1000000) (k : Key) (hk : k.length ≤ 1000000) (v : Int) :
    ∃ w', (Instr.mapUpdate 27 (.map (some m)) (nm k) (.int .i64 v)).run Try.prog w = .ok () w' ∧ SzAt w' m (n + 1) (fun j => if j = k then v else f j) ∧ But (fun j => j = m) w w' := by
  obtain ⟨D, hm, hd⟩ := h
  obtain ⟨w', hrun, hown, hg⟩ := hm.update (Maps.string_keyed Try.underlying9) Try.underlying27 (by unfold maxLen; omega) (key := nm k) (kl := .string k) (key_nm k hk) (val := .int .i64 v) (d := .held (.int .i64 v)) (ps := []) rfl
  refine ⟨w', hrun, ⟨_, hown, fun j => ?_⟩, But.of_grown hg fun j e => by injection e with e; exact e.symm⟩
  by_cases e : j = k
  · subst e
    dsimp only
    rw [if_pos rfl]
    exact Maps.atKey_put_same hm.isMap (by first | exact trivial | simp [WideAt.IsKeyLit]) _ _
  · dsimp only
    rw [if_neg e, Maps.atKey_put_other (by intro h; injection h with h; exact e h), hd j]
/-- Tokens seen. -/
def SetT (w : World) (m : Nat) (L : List Int) : Prop := ∃ (n : Nat) (D : DataW Value), w.ownsMap Try.prog 28 (unitElem (H := Value)) m n D ∧ n ≤ L.length ∧ Maps.Tidy D ∧ Maps.size D = L.length ∧ ∀ x, (Lit.int .u64 x).wf = true → (Maps.has D (.int .u64 x) = true ↔ x ∈ L)
theorem SetT.new (w : World) : SetT (w.alloc (.map #[] 0)) w.heap.size [] := ⟨0, .map [], World.ownsMap_made w _ _ _, Nat.le_refl _, ⟨[], rfl, List.Pairwise.nil⟩, rfl, fun x _ => by simp [Maps.has]⟩
theorem SetT.but {F : Nat → Prop} {w w' : World} {m : Nat} {L : List Int} (h : SetT w m L) (hb : But F w w') (hn : ¬ F m) : SetT w' m L := by
  obtain ⟨n, D, h1, h2⟩ := h
  exact ⟨n, D, ownsMap_but2 h1 hb hn, h2⟩
theorem SetT.over {w w' : World} {m : Nat} {L : List Int} (h : SetT w m L) (hb : Below w.heap.size w w') : SetT w' m L := h.but (F := fun _ => False) (But.of_below hb (Nat.le_refl _)) (fun h => h)
theorem SetT.lt {w : World} {m : Nat} {L : List Int} (h : SetT w m L) : m < w.heap.size := by obtain ⟨n, D, h1, _⟩ := h; exact h1.lt
theorem SetT.look {w : World} {m : Nat} {L : List Int} (h : SetT w m L) {x : Int} (hx : (Lit.int .u64 x).wf = true) :
    (Instr.lookup 40 (.map (some m)) (.int .u64 x) true).run Try.prog w = .ok (.tuple #[.agg #[], .bool (decide (x ∈ L))]) w := by
  obtain ⟨n, D, h1, h2, -, -, h3⟩ := h
  obtain ⟨v, ps, hrun, hv⟩ := h1.look_ok (Maps.int_keyed Try.underlying28) Try.underlying40 (Try.zeroValue42 w) unitElem_mk (Maps.keyOf_int_mk Try.underlying28 hx)
  obtain ⟨rfl, _⟩ := unitElem_inv hv
  rw [hrun]
  congr 3
  have := h3 x hx
  by_cases hm : x ∈ L
  · rw [decide_eq_true hm, this.2 hm]
  · rw [decide_eq_false hm, Bool.eq_false_iff.2 (fun e => hm (this.1 e))]
theorem SetT.len {w : World} {m : Nat} {L : List Int} (h : SetT w m L) (ty : TypeId) : (Builtin.len_ #[40] ty #[.map (some m)]).run Try.prog w = .ok (.int .i64 L.length) w := by
  obtain ⟨n, D, h1, -, -, h2, -⟩ := h
  rw [h1.len Try.underlying40, h2]
theorem SetT.put {w : World} {m : Nat} {L : List Int} (h : SetT w m L) (hl : L.length ≤ 1000000) {y : Int} (hy : (Lit.int .u64 y).wf = true) (hn : y ∉ L) :
    ∃ w', (Instr.mapUpdate 40 (.map (some m)) (.int .u64 y) (.agg #[])).run Try.prog w = .ok () w' ∧ SetT w' m (y :: L) ∧ But (fun j => j = m) w w' := by
  obtain ⟨n, D, h1, h2, h3, h4, h5⟩ := h
  obtain ⟨w', hrun, hown, hg⟩ := h1.update (Maps.int_keyed Try.underlying28) Try.underlying40 (by unfold maxLen; omega) (Maps.keyOf_int_mk Try.underlying28 hy) (val := .agg #[]) (d := .agg []) (ps := []) unitElem_mk
  have hno : Maps.has D (.int .u64 y) = false := Bool.eq_false_iff.2 fun e => hn ((h5 y hy).1 e)
  refine ⟨w', hrun, ⟨n + 1, _, hown, by simp; omega, h3.put (by first | exact hy | exact trivial | simp [WideAt.IsKeyLit]) _, by rw [Maps.size_put h3, hno, h4]; simp, fun z hz => ?_⟩, But.of_grown hg fun j e => by injection e with e; exact e.symm⟩
  by_cases e : z = y
  · subst e
    rw [Maps.has_put_same h1.isMap (by first | exact hy | exact trivial | simp [WideAt.IsKeyLit])]
    simp
  · rw [Maps.has_put_other (by intro h; injection h with _ h; exact e h), h5 z hz]
    simp [e]
/-- What holds have is no more than there is; tokens are numbers. -/
structure Sm (s : Pst) : Prop where
  le : sumM s.h ≤ s.size
  wf : ∀ x, x ∈ s.h ∨ x ∈ s.l → (Lit.int .u64 x.1).wf = true
theorem sumM_sub {a b : List Pl} (h : a.Sublist b) (hb : ∀ x ∈ b, 1 ≤ x.2) : sumM a ≤ sumM b := by
  induction h with
  | slnil => exact Int.le_refl _
  | @cons l1 l2 x _ ih =>
    have := hb x (by simp)
    have := ih fun y hy => hb y (by simp [hy])
    rw [sumM_cons]; omega
  | @cons_cons l1 l2 x _ ih =>
    have := ih fun y hy => hb y (by simp [hy])
    rw [sumM_cons, sumM_cons]; omega
theorem serveP_sm {size : Int} {h l : List Pl} (hl : ∀ x ∈ l, 1 ≤ x.2) (hs : sumM h ≤ size) (hw : ∀ x, x ∈ h ∨ x ∈ l → (Lit.int .u64 x.1).wf = true) : Sm (serveP size h l) := by
  refine ⟨?_, fun x hx => hw x ?_⟩
  · show sumM (servesF size h l).1 ≤ size
    rcases servesF_sum (size := size) (h := h) hl with h1 | h1
    · exact h1
    · rw [h1]; exact hs
  · have hx : x ∈ (servesF size h l).1 ∨ x ∈ (servesF size h l).2.1 := hx
    have e := servesF_line (size := size) l h
    rcases hx with hx | hx
    · rcases List.mem_append.1 ((servesF_perm (size := size) l h).mem_iff.1 hx) with h1 | h1
      · exact .inr (by rw [e]; exact List.mem_append_left _ h1)
      · exact .inl h1
    · exact .inr (by rw [e]; exact List.mem_append_right _ hx)
theorem freeR_sm {s : Pst} (g : Good s) (h : Sm s) (t : Int) : Sm (freeR s t).1 := by
  unfold freeR
  have h1 : ∀ x ∈ s.h, 1 ≤ x.2 := fun x hx => (g.ok.hs x hx).1
  have h2 : ∀ x ∈ s.l, 1 ≤ x.2 := fun x hx => (g.ok.ls x hx).1
  split
  · refine serveP_sm h2 (Int.le_trans (sumM_sub (wo1_sub _ _) h1) h.le) fun x hx => h.wf x ?_
    rcases hx with hx | hx
    · exact .inl ((wo1_sub _ _).subset hx)
    · exact .inr hx
  split
  · refine serveP_sm (fun x hx => h2 x ((wo1_sub _ _).subset hx)) h.le fun x hx => h.wf x ?_
    rcases hx with hx | hx
    · exact .inl hx
    · exact .inr ((wo1_sub _ _).subset hx)
  · exact h
theorem askR_sm {s : Pst} (g : Good s) (h : Sm s) {x : Pl} (hx : (Lit.int .u64 x.1).wf = true) : Sm (askR s x).1 := by
  have h2 : ∀ x ∈ s.l, 1 ≤ x.2 := fun x hx => (g.ok.ls x hx).1
  unfold askR
  split
  · exact h
  split
  · exact h
  split
  · exact h
  · rename_i a b c
    refine serveP_sm (fun z hz => ?_) h.le fun z hz => ?_
    · rcases List.mem_append.1 hz with hz | hz
      · exact h2 z hz
      · rw [List.mem_singleton] at hz; subst hz; omega
    · rcases hz with hz | hz
      · exact h.wf z (.inl hz)
      · rcases List.mem_append.1 hz with hz | hz
        · exact h.wf z (.inr hz)
        · rw [List.mem_singleton] at hz; subst hz; exact hx
theorem setR_sm {s : Pst} (g : Good s) (h : Sm s) {n : Int} (hn : s.size ≤ n) : Sm (setR s n).1 := serveP_sm (fun x hx => (g.ok.ls x hx).1) (Int.le_trans h.le hn) h.wf
theorem getZ_free (st : Bk) (k : Key) (t : Int) (j : Key) : getZ (freeB st k t).1 j = if j = k then (freeR (getZ st k) t).1 else getZ st j := by
  rcases hs : stGet st k with _ | s
  · have e : (freeB st k t).1 = st := by unfold freeB; rw [hs]
    rw [e]
    by_cases hj : j = k
    · subst hj
      rw [if_pos rfl]
      unfold getZ
      rw [hs]
      rfl
    · rw [if_neg hj]
  · have e := freeB_get hs t j
    unfold getZ
    rw [e, hs]
    by_cases hj : j = k
    · subst hj; rw [if_pos rfl, if_pos rfl]; rfl
    · rw [if_neg hj, if_neg hj]
theorem askR_zero (x : Pl) : (askR zeroP x).1 = zeroP := by
  unfold askR
  rw [if_pos (by show x.1 = 0 ∨ x.2 < 1 ∨ (0 : Int) < x.2; omega)]
theorem getZ_ask (st : Bk) (k : Key) (x : Pl) (j : Key) : getZ (askB st k x).1 j = if j = k then (askR (getZ st k) x).1 else getZ st j := by
  rcases hs : stGet st k with _ | s
  · have e : (askB st k x).1 = st := by unfold askB; rw [hs]
    rw [e]
    by_cases hj : j = k
    · subst hj
      rw [if_pos rfl]
      unfold getZ
      rw [hs]
      exact (askR_zero x).symm
    · rw [if_neg hj]
  · have e := askB_get hs x j
    unfold getZ
    rw [e, hs]
    by_cases hj : j = k
    · subst hj; rw [if_pos rfl, if_pos rfl]; rfl
    · rw [if_neg hj, if_neg hj]
theorem getZ_set (st : Bk) (k : Key) (n : Int) : ((setB st k n).2.2 ≠ 0 ∧ (setB st k n).1 = st) ∨ ((setB st k n).2.2 = 0 ∧ ∀ j, getZ (setB st k n).1 j = if j = k then (setR (getZ st k) n).1 else getZ st j) := by
  unfold setB
  split
  · exact .inl ⟨by show (140 : Int) ≠ 0; decide, rfl⟩
  split
  · exact .inl ⟨by show (2 : Int) ≠ 0; decide, rfl⟩
  split
  · rename_i hs
    split
    · exact .inl ⟨by show (6 : Int) ≠ 0; decide, rfl⟩
    · refine .inr ⟨rfl, fun j => ?_⟩
      unfold getZ
      rw [stGet_ins hs, hs]
      by_cases hj : j = k
      · rw [if_pos hj, if_pos hj]; rfl
      · rw [if_neg hj, if_neg hj]
  · rename_i s hs
    refine .inr ⟨rfl, fun j => ?_⟩
    unfold getZ
    rw [stGet_put hs, hs]
    by_cases hj : j = k
    · rw [if_pos hj, if_pos hj]; rfl
    · rw [if_neg hj, if_neg hj]
end Go.Proofs.Ytaikjobebbighaa
