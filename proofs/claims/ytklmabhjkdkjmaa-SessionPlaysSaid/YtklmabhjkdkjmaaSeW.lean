/- A map from numbers to what was told, as a clerk holds it: looked up, stored to, struck from, its length, its keys; a clerk. -/
import Derived.Test.YtklmabhjkdkjmaaSeM
import Derived.Test.YtklmabhjkdkjmaaAppP
import Derived.Test.YtklmabhjkdkjmaaItK
import Derived.Maps.OwnSet
import Derived.Maps.Views
import Derived.Sort.KeysCollected
namespace Go.Proofs.Ytklmabhjkdkjmaa
set_option linter.unusedVariables false
open Go.RowKit
def rawT (v : Value) : Option (DataW Value × List MemPlace) := some (.held v, [])
/-- What is told, as it lies. -/
def tkV (s e n u : Int) : Value := .agg #[.int .u64 s, .int .i64 e, .int .u64 n, .int .i64 u]
/-- The map: its keys, what lies at each; m at most. -/
def MpS (w : World) (b m : Nat) (ks : List Int) (f : Int → Value) : Prop := ∃ (n : Nat) (D : DataW Value), w.ownsMap Try.prog 28 rawT b n D ∧ n ≤ m ∧
  ∀ x, (Lit.int .u64 x).wf = true → (Maps.has D (.int .u64 x) = true ↔ x ∈ ks) ∧ D.atKey (.int .u64 x) (.held (tkV 0 0 0 0)) = .held (f x)
theorem MpS.grown {w w' : World} {b m : Nat} {ks : List Int} {f : Int → Value} {r : Option Nat} (h : MpS w b m ks f) (hg : w.grownBy w' r) (hr : some b ≠ r) : MpS w' b m ks f := by
  obtain ⟨n, D, h1, h2⟩ := h
  exact ⟨n, D, h1.kept hg hr, h2⟩
theorem MpS.below {w w' : World} {b m : Nat} {ks : List Int} {f : Int → Value} (h : MpS w b m ks f) (hb : Below w.heap.size w w') : MpS w' b m ks f :=
  h.grown (r := none) ⟨hb.os, hb.tape, hb.output, hb.size, fun k hk _ => hb.block k hk⟩ (by simp)
theorem MpS.lt {w : World} {b m : Nat} {ks : List Int} {f : Int → Value} (h : MpS w b m ks f) : b < w.heap.size := by
  obtain ⟨n, D, h1, -⟩ := h
  exact h1.lt
theorem MpS.mono {w : World} {b m m' : Nat} {ks : List Int} {f : Int → Value} (h : MpS w b m ks f) (hm : m ≤ m') : MpS w b m' ks f := by
  obtain ⟨n, D, h1, h2, h3⟩ := h
  exact ⟨n, D, h1, by omega, h3⟩
theorem MpS.congr {w : World} {b m : Nat} {ks ks' : List Int} {f f' : Int → Value} (h : MpS w b m ks f) (hk : ∀ x, x ∈ ks ↔ x ∈ ks') (hf : ∀ x, f x = f' x) : MpS w b m ks' f' := by
  obtain ⟨n, D, h1, h2, h3⟩ := h
  exact ⟨n, D, h1, h2, fun x hx => ⟨((h3 x hx).1).trans (hk x), by rw [← hf x]; exact (h3 x hx).2⟩⟩
theorem MpS.made (w : World) (f : Int → Value) (hf : ∀ x, f x = tkV 0 0 0 0) : MpS (w.alloc (.map #[] 0)) w.heap.size 0 [] f :=
  ⟨0, .map [], World.ownsMap_made w _ _ _, Nat.le_refl _, fun x _ => ⟨by simp [Maps.has], by rw [hf x]; rfl⟩⟩
/-- A look-up. -/
theorem MpS.look {w : World} {b m : Nat} {ks : List Int} {f : Int → Value} (h : MpS w b m ks f) {x : Int} (hx : (Lit.int .u64 x).wf = true) :
    (Instr.lookup 46 (.map (some b)) (.int .u64 x) false).run Try.prog w = .ok (f x) w := by
  obtain ⟨n, D, h1, h2, h3⟩ := h
  obtain ⟨v', ps, hrun, hv⟩ := h1.lookup (Maps.int_keyed Try.underlying28) Try.underlying46 (Try.zeroValue51 w) (zd := .held (tkV 0 0 0 0)) (zp := []) rfl (Maps.keyOf_int_mk Try.underlying28 hx)
  rw [(h3 x hx).2] at hv
  simp only [rawT, Option.some.injEq, Prod.mk.injEq, DataW.held.injEq] at hv
  obtain ⟨rfl, -⟩ := hv
  exact hrun
/-- .. and whether it is there. -/
theorem MpS.look_ok {w : World} {b m : Nat} {ks : List Int} {f : Int → Value} (h : MpS w b m ks f) {x : Int} (hx : (Lit.int .u64 x).wf = true) :
    (Instr.lookup 46 (.map (some b)) (.int .u64 x) true).run Try.prog w = .ok (.tuple #[f x, .bool (decide (x ∈ ks))]) w := by
  obtain ⟨n, D, h1, h2, h3⟩ := h
  obtain ⟨v', ps, hrun, hv⟩ := h1.look_ok (Maps.int_keyed Try.underlying28) Try.underlying46 (Try.zeroValue51 w) (zd := .held (tkV 0 0 0 0)) (zp := []) rfl (Maps.keyOf_int_mk Try.underlying28 hx)
  rw [(h3 x hx).2] at hv
  simp only [rawT, Option.some.injEq, Prod.mk.injEq, DataW.held.injEq] at hv
  obtain ⟨rfl, -⟩ := hv
  have e : Maps.has D (.int .u64 x) = decide (x ∈ ks) := Bool.eq_iff_iff.2 ((h3 x hx).1.trans (decide_eq_true_iff).symm)
  rw [e] at hrun
  exact hrun
/-- Its keys. -/
theorem MpS.keys {w : World} {b m : Nat} {ks : List Int} {f : Int → Value} (h : MpS w b m ks f) (hn : ks.Nodup) (hw : ∀ x ∈ ks, (Lit.int .u64 x).wf = true) :
    ∃ (n : Nat) (D : DataW Value), w.ownsMap Try.prog 28 rawT b n D ∧ Maps.size D = ks.length ∧ ks.Perm (keysQ D) := by
  obtain ⟨n, D, h1, h2, h3⟩ := h
  obtain ⟨es, rfl, hpw, hkl⟩ := h1.entries (Maps.int_keyed Try.underlying28)
  obtain ⟨es', hD', hko⟩ := h1.keysOf
  have ee : es = es' := by simpa using hD'
  subst ee
  have hint : ∀ p ∈ es, ∃ x, p.1 = .int .u64 x ∧ (Lit.int .u64 x).wf = true := fun p hp => by
    obtain ⟨v, hv⟩ := hko p hp
    obtain ⟨x, _, hx, hxw⟩ := keyOf_u64 Try.underlying28 hv
    exact ⟨x, hx, hxw⟩
  have hmem : ∀ x, x ∈ ks ↔ Maps.has (.map es : DataW Value) (.int .u64 x) = true := fun x => by
    by_cases hwx : (Lit.int .u64 x).wf = true
    · exact (h3 x hwx).1.symm
    · refine ⟨fun hx => absurd (hw x hx) hwx, fun hx => ?_⟩
      rw [Maps.has_eq, List.any_eq_true] at hx
      obtain ⟨p, hp, hs⟩ := hx
      obtain ⟨z, hz, hzw⟩ := hint p hp
      rw [hz] at hs
      have : z = x := by simpa [Lit.sameKey] using hs
      subst this
      exact absurd hzw hwx
  have hperm : ks.Perm (keysQ (.map es : DataW Value)) := perm_keysQ hpw (fun p hp => by
    obtain ⟨x, hx, _⟩ := hint p hp
    exact ⟨x, hx⟩) hn hmem
  have hl := hperm.length_eq
  have e : (keysQ (.map es : DataW Value)).length = es.length := by simp [keysQ]
  refine ⟨n, _, h1, ?_, hperm⟩
  show es.length = ks.length
  omega
/-- Its length. -/
theorem MpS.len {w : World} {b m : Nat} {ks : List Int} {f : Int → Value} (h : MpS w b m ks f) (hn : ks.Nodup) (hw : ∀ x ∈ ks, (Lit.int .u64 x).wf = true) (ty : TypeId) :
    (Builtin.len_ #[46] ty #[.map (some b)]).run Try.prog w = .ok (.int .i64 ks.length) w := by
  obtain ⟨n, D, h1, h2, -⟩ := h.keys hn hw
  have := h1.len Try.underlying46 ty
  rw [h2] at this
  exact this
def updF (f : Int → Value) (k : Int) (v : Value) : Int → Value := fun x => if x = k then v else f x
/-- A store. -/
theorem putS {w : World} {ops : Array Oper} {rest : List Oper} {o : Oper} {a : Act} {Q : Exit → Act → World → Prop} (hg : o.guard = none) (mo xo vo : Operand) (hop : o.op = Op.mapUpdate 46 mo xo vo) (b m : Nat) (ks : List Int) (f : Int → Value) (k : Int) (v : Value)
    (hm : a.eval mo = .map (some b)) (hx : a.eval xo = .int .u64 k) (hv : a.eval vo = v) (hl : MpS w b m ks f) (hy : (Lit.int .u64 k).wf = true) (hm9 : m ≤ 1000000)
    (hK : ∀ w', MpS w' b (m + 1) (ks ++ [k]) (updF f k v) → w.grownBy w' (some b) → wpList Try.prog ops Q rest (a.put o.dst undef) w') : wpList Try.prog ops Q (o :: rest) a w := by
  obtain ⟨n, D, h1, h2, h3⟩ := hl
  refine wpList_mapUpdate_own w hg mo xo vo _ hop _ _ (Maps.int_keyed Try.underlying28) Try.underlying46 rawT b n D hm h1 (by unfold maxLen; omega) _ _ _ hx hv (Maps.keyOf_int_mk Try.underlying28 hy) (.held v) [] rfl ?_
  intro w' h5 hgr
  refine hK w' ⟨n + 1, _, h5, by omega, fun z hz => ?_⟩ hgr
  by_cases e : z = k
  · subst e
    rw [Maps.has_put_same h1.isMap (by first | exact hy | exact trivial | simp [WideAt.IsKeyLit]), Maps.atKey_put_same h1.isMap (by first | exact hy | exact trivial | simp [WideAt.IsKeyLit])]
    exact ⟨by simp, by simp [updF]⟩
  · have hne : (Lit.int .u64 z) ≠ (Lit.int .u64 k) := by intro h; injection h with _ h; exact e h
    rw [Maps.has_put_other hne, Maps.atKey_put_other hne]
    refine ⟨(h3 z hz).1.trans (by simp [e]), ?_⟩
    rw [(h3 z hz).2]
    simp [updF, e]
/-- A key is struck. -/
theorem dropS {ops : Array Oper} {rest : List Oper} {o : Oper} {a : Act} {Q : Exit → Act → World → Prop} {w : World} (hgd : o.guard = none) (mo xo : Operand) (hop : o.op = Op.call { callee := Callee.builtin Builtin.delete, args := #[mo, xo], argTypes := #[46, 28] })
    (b m : Nat) (ks : List Int) (f : Int → Value) (k : Int) (hm : a.eval mo = .map (some b)) (hx : a.eval xo = .int .u64 k) (h : MpS w b m ks f) (hy : (Lit.int .u64 k).wf = true)
    (hK : ∀ w', MpS w' b m (ks.filter (fun x => decide (x ≠ k))) (updF f k (tkV 0 0 0 0)) → w.grownBy w' (some b) → wpList Try.prog ops Q rest (a.put o.dst (.tuple #[])) w') : wpList Try.prog ops Q (o :: rest) a w := by
  refine wpList_plain hgd fun K' hK' => ?_
  obtain ⟨n, D, h1, h2, h3⟩ := h
  obtain ⟨w', hrun, hown, ht⟩ := h1.drop (Maps.int_keyed Try.underlying28) Try.underlying46 (Maps.keyOf_int_mk Try.underlying28 hy) o.type
  unfold Oper.wp
  simp [execOp, hop, resolve, invoke, builtin, hm, hx, hrun, Result.andThen]
  refine hK' _ _ (hK w' ⟨n, _, hown, h2, fun z hz => ?_⟩ ht.grown)
  by_cases e : z = k
  · subst e
    rw [Maps.has_del_same, Maps.atKey_del_same]
    exact ⟨by simp, by simp [updF]⟩
  · have hne : (Lit.int .u64 z) ≠ (Lit.int .u64 k) := by intro h; injection h with _ h; exact e h
    rw [Maps.has_del_other hne, Maps.atKey_del_other hne]
    refine ⟨(h3 z hz).1.trans (by simp [e]), ?_⟩
    rw [(h3 z hz).2]
    simp [updF, e]
/-- .. at a step of a region that draws. -/
theorem stepDropS {y : Nat → Option Bool} {o : Oper} {a : Act} {K : Act → World → Prop} {Q : Exit → Act → World → Prop} {E : Prop} {w : World} (hgd : o.guard = none) (mo xo : Operand) (hop : o.op = Op.call { callee := Callee.builtin Builtin.delete, args := #[mo, xo], argTypes := #[46, 28] })
    (b m : Nat) (ks : List Int) (f : Int → Value) (k : Int) (hm : a.eval mo = .map (some b)) (hx : a.eval xo = .int .u64 k) (h : MpS w b m ks f) (hy : (Lit.int .u64 k).wf = true)
    (hK : ∀ w', MpS w' b m (ks.filter (fun x => decide (x ≠ k))) (updF f k (tkV 0 0 0 0)) → w.grownBy w' (some b) → K (a.put o.dst (.tuple #[])) w') :
    if Region.wanted o y = true then Oper.wp Try.prog o a w K Q else E := by
  have hwt : Region.wanted o y = true := by simp [Region.wanted, hgd]
  rw [if_pos hwt]
  obtain ⟨n, D, h1, h2, h3⟩ := h
  obtain ⟨w', hrun, hown, ht⟩ := h1.drop (Maps.int_keyed Try.underlying28) Try.underlying46 (Maps.keyOf_int_mk Try.underlying28 hy) o.type
  unfold Oper.wp
  simp [execOp, hop, resolve, invoke, builtin, hm, hx, hrun, Result.andThen]
  refine hK w' ⟨n, _, hown, h2, fun z hz => ?_⟩ ht.grown
  by_cases e : z = k
  · subst e
    rw [Maps.has_del_same, Maps.atKey_del_same]
    exact ⟨by simp, by simp [updF]⟩
  · have hne : (Lit.int .u64 z) ≠ (Lit.int .u64 k) := by intro h; injection h with _ h; exact e h
    rw [Maps.has_del_other hne, Maps.atKey_del_other hne]
    refine ⟨(h3 z hz).1.trans (by simp [e]), ?_⟩
    rw [(h3 z hz).2]
    simp [updF, e]
/-! ### a clerk -/
/-- What lies at each client. -/
def atC (L : List Tk) (us : Int → Int) : Int → Value := fun c => match findT L c with
  | none => tkV 0 0 0 0
  | some t => tkV t.sq t.e t.n (us c)
/-- When each was told: later ones later; 0: none. -/
structure Uses (L : List Tk) (us : Int → Int) (u : Int) : Prop where
  up : L.Pairwise (fun a b => us a.cl < us b.cl)
  pos : ∀ t ∈ L, 1 ≤ us t.cl ∧ us t.cl ≤ u
  none_ : ∀ c, c ∉ cls L → us c = 0
/-- A clerk at block g, with its map at block b; m: how often it was told at most; of at most 17 sessions. -/
structure ClW (w : World) (g b m : Nat) (L : List Tk) : Prop where
  once : (cls L).Nodup
  len17 : L.length ≤ 17
  wf : ∀ t ∈ L, (Lit.int .u64 t.cl).wf = true
  ex : ∃ u us, Row w g 48 #[.map (some b), .int .i64 u] ∧ MpS w b m (cls L) (atC L us) ∧ Uses L us u ∧ 0 ≤ u ∧ u ≤ m
/-- .. of at most 16. -/
structure ClAt (w : World) (g b m : Nat) (L : List Tk) : Prop where
  good : GoodT L
  w_ : ClW w g b m L
theorem ClW.below {w w' : World} {g b m : Nat} {L : List Tk} (h : ClW w g b m L) (hb : Below w.heap.size w w') : ClW w' g b m L := by
  obtain ⟨u, us, h1, h2, h3⟩ := h.ex
  exact ⟨h.once, h.len17, h.wf, u, us, h1.over hb, h2.below hb, h3⟩
theorem ClAt.below {w w' : World} {g b m : Nat} {L : List Tk} (h : ClAt w g b m L) (hb : Below w.heap.size w w') : ClAt w' g b m L := ⟨h.good, h.w_.below hb⟩
theorem ClAt.mono {w : World} {g b m m' : Nat} {L : List Tk} (h : ClAt w g b m L) (hm : m ≤ m') : ClAt w g b m' L := by
  obtain ⟨u, us, h1, h2, h3, h4, h5⟩ := h.w_.ex
  exact ⟨h.good, h.w_.once, h.w_.len17, h.w_.wf, u, us, h1, h2.mono hm, h3, h4, by omega⟩
/-! ### told, and struck: plain -/
def updU (us : Int → Int) (k v : Int) : Int → Int := fun x => if x = k then v else us x
theorem findT_wo {L : List Tk} {c x : Int} (h : x ≠ c) : findT (wo L c) x = findT L x := by
  unfold findT wo
  rw [List.find?_filter]
  congr 1
  funext t
  by_cases e : t.cl = x
  · have h2 : t.cl ≠ c := by rw [e]; exact h
    simp [e, h]
  · simp [e]
theorem findT_snoc (L : List Tk) (t : Tk) (x : Int) : findT (L ++ [t]) x = (findT L x).or (if t.cl = x then some t else none) := by
  unfold findT
  rw [List.find?_append]
  congr 1
  by_cases e : t.cl = x
  · simp [e]
  · simp [e]
theorem atC_put (L : List Tk) (us : Int → Int) (u : Int) (t : Tk) (x : Int) : updF (atC L us) t.cl (tkV t.sq t.e t.n u) x = atC (wo L t.cl ++ [t]) (updU us t.cl u) x := by
  unfold updF atC updU
  rw [findT_snoc]
  by_cases e : x = t.cl
  · subst e
    have : findT (wo L t.cl) t.cl = none := by
      rw [findT_none, wo_cls]
      simp
    rw [this]
    simp
  · rw [findT_wo e, if_neg e, if_neg (fun h => e h.symm)]
    cases findT L x <;> simp [e]
theorem uses_put {L : List Tk} {us : Int → Int} {u : Int} (h : Uses L us u) (h0 : 0 ≤ u) (t : Tk) : Uses (wo L t.cl ++ [t]) (updU us t.cl (u + 1)) (u + 1) := by
  refine ⟨?_, fun x hx => ?_, fun c hc => ?_⟩
  · refine List.pairwise_append.2 ⟨?_, by simp, fun a ha b hb => ?_⟩
    · refine (h.up.sublist List.filter_sublist).imp_of_mem fun {a b} ha hb hab => ?_
      have h1 := (wo_mem.1 ha).2
      have h2 := (wo_mem.1 hb).2
      unfold updU
      rw [if_neg h1, if_neg h2]
      exact hab
    · rw [List.mem_singleton] at hb
      subst hb
      have h1 := wo_mem.1 ha
      have := h.pos a h1.1
      unfold updU
      rw [if_neg h1.2, if_pos rfl]
      omega
  · unfold updU
    by_cases e : x.cl = t.cl
    · rw [if_pos e]; omega
    · rw [if_neg e]
      rcases List.mem_append.1 hx with hx | hx
      · have := h.pos x (wo_mem.1 hx).1
        omega
      · rw [List.mem_singleton] at hx
        rw [hx] at e
        exact absurd rfl e
  · rw [cls, List.map_append, List.mem_append] at hc
    have h1 : c ≠ t.cl := fun e => hc (.inr (by simp [e]))
    unfold updU
    rw [if_neg h1]
    refine h.none_ c fun hcl => hc (.inl ?_)
    have := wo_cls L t.cl
    rw [cls] at this
    rw [this, List.mem_filter]
    exact ⟨hcl, decide_eq_true h1⟩
theorem put_keys (L : List Tk) (t : Tk) (x : Int) : x ∈ cls L ++ [t.cl] ↔ x ∈ cls (wo L t.cl ++ [t]) := by
  have h1 : cls (wo L t.cl ++ [t]) = cls (wo L t.cl) ++ [t.cl] := by simp [cls]
  rw [h1, wo_cls, List.mem_append, List.mem_append, List.mem_filter]
  simp
  by_cases e : x = t.cl <;> simp [e]
theorem atC_drop {t0 : Tk} {L : List Tk} (hn : (cls (t0 :: L)).Nodup) (us : Int → Int) (x : Int) : updF (atC (t0 :: L) us) t0.cl (tkV 0 0 0 0) x = atC L (updU us t0.cl 0) x := by
  have h2 := List.nodup_cons.1 (show (t0.cl :: cls L).Nodup from hn)
  unfold updF atC updU
  by_cases e : x = t0.cl
  · subst e
    rw [findT_none.2 h2.1]
    simp
  · have : findT (t0 :: L) x = findT L x := by
      unfold findT
      rw [List.find?_cons, show decide (t0.cl = x) = false from decide_eq_false fun h => e h.symm]
    rw [this, if_neg e]
    cases findT L x <;> simp [e]
theorem uses_drop {t0 : Tk} {L : List Tk} (hn : (cls (t0 :: L)).Nodup) {us : Int → Int} {u : Int} (h : Uses (t0 :: L) us u) : Uses L (updU us t0.cl 0) u := by
  have h2 := List.nodup_cons.1 (show (t0.cl :: cls L).Nodup from hn)
  have hne : ∀ t ∈ L, t.cl ≠ t0.cl := fun t ht e => h2.1 (by rw [← e]; exact List.mem_map.2 ⟨t, ht, rfl⟩)
  refine ⟨(List.pairwise_cons.1 h.up).2.imp_of_mem fun {a b} ha hb hab => ?_, fun x hx => ?_, fun c hc => ?_⟩
  · unfold updU; rw [if_neg (hne a ha), if_neg (hne b hb)]; exact hab
  · unfold updU; rw [if_neg (hne x hx)]; exact h.pos x (by simp [hx])
  · unfold updU
    split
    · rfl
    · rename_i e
      refine h.none_ c fun hcl => ?_
      rcases List.mem_cons.1 (show c ∈ t0.cl :: cls L from hcl) with h3 | h3
      · exact e h3
      · exact hc h3
theorem drop_keys {t0 : Tk} {L : List Tk} (hn : (cls (t0 :: L)).Nodup) (x : Int) : x ∈ (cls (t0 :: L)).filter (fun x => decide (x ≠ t0.cl)) ↔ x ∈ cls L := by
  have h2 := List.nodup_cons.1 (show (t0.cl :: cls L).Nodup from hn)
  rw [List.mem_filter]
  constructor
  · rintro ⟨h, h3⟩
    rcases List.mem_cons.1 (show x ∈ t0.cl :: cls L from h) with h4 | h4
    · exact absurd h4 (of_decide_eq_true h3)
    · exact h4
  · intro h
    exact ⟨List.mem_cons_of_mem _ h, decide_eq_true fun e => h2.1 (by rw [← e]; exact h)⟩
end Go.Proofs.Ytklmabhjkdkjmaa
