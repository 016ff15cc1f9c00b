/- A map from numbers to rows of numbers, as graph.order holds it: looked up, stored to, struck from, its keys. -/
import Derived.Test.YtceeopjmdfefjaaGrI
import Derived.Test.YtceeopjmdfefjaaItV
namespace Go.Proofs.Ytceeopjmdfefjaa
set_option linter.unusedVariables false
open Go.RowKit Go.Sort
def rawR (v : Value) : Option (DataW Value × List MemPlace) := some (.held v, [])
/-- The map whose keys are ks; at each node of l among these lies the node's Deps, as they lay in w0. -/
structure LfM (l : List Nd) (w0 w : World) (b : Nat) (ks : List Int) : Prop where
  ex : ∃ (n : Nat) (D : DataW Value), w.ownsMap Try.prog 23 rawR b n D ∧ n ≤ 1000 ∧ (∀ x, (Lit.int .u64 x).wf = true → (Maps.has D (.int .u64 x) = true ↔ x ∈ ks)) ∧
    (∀ m ∈ l, m.id ∈ ks → ∃ B c, D.atKey (.int .u64 m.id) (.held (.slice none 0 0)) = .held (.slice B m.deps.length c) ∧ Sl w0 .u64 B m.deps)
theorem LfM.grown {l : List Nd} {w0 w w' : World} {b : Nat} {ks : List Int} {r : Option Nat} (h : LfM l w0 w b ks) (hg : w.grownBy w' r) (hr : some b ≠ r) : LfM l w0 w' b ks := by
  obtain ⟨n, D, h1, h2⟩ := h.ex
  exact ⟨n, D, h1.kept hg hr, h2⟩
theorem LfM.below {l : List Nd} {w0 w w' : World} {b : Nat} {ks : List Int} (h : LfM l w0 w b ks) (hb : Below w.heap.size w w') : LfM l w0 w' b ks :=
  h.grown (r := none) ⟨hb.os, hb.tape, hb.output, hb.size, fun k hk _ => hb.block k hk⟩ (by simp)
/-- A look-up. -/
theorem LfM.look {l : List Nd} {w0 w : World} {b : Nat} {ks : List Int} (h : LfM l w0 w b ks) {m : Nd} (hm : m ∈ l) (hk : m.id ∈ ks) (hx : (Lit.int .u64 m.id).wf = true) :
    ∃ B c, (Instr.lookup 47 (.map (some b)) (.int .u64 m.id) false).run Try.prog w = .ok (.slice B m.deps.length c) w ∧ Sl w0 .u64 B m.deps := by
  obtain ⟨n, D, h1, h2, h3, h4⟩ := h.ex
  obtain ⟨B, c, e, hs⟩ := h4 m hm hk
  obtain ⟨v', ps, hrun, hv⟩ := h1.lookup (Maps.int_keyed Try.underlying23) Try.underlying47 (Try.zeroValue26 w) (zd := .held (.slice none 0 0)) (zp := []) rfl (Maps.keyOf_int_mk Try.underlying23 hx)
  rw [e] at hv
  simp only [rawR, Option.some.injEq, Prod.mk.injEq, DataW.held.injEq] at hv
  obtain ⟨rfl, -⟩ := hv
  exact ⟨B, c, hrun, hs⟩
/-- A key is struck: its run. -/
theorem LfM.drop {l : List Nd} {w0 w : World} {b : Nat} {ks : List Int} (h : LfM l w0 w b ks) {y : Int} (hy : (Lit.int .u64 y).wf = true) (hl : ∀ m ∈ l, (Lit.int .u64 m.id).wf = true) (ty : TypeId) :
    ∃ w', (Builtin.delete_ #[47, 23] ty #[.map (some b), .int .u64 y]).run Try.prog w = .ok (.tuple #[]) w' ∧ LfM l w0 w' b (ks.filter (fun x => decide (x ≠ y))) ∧ w.grownBy w' (some b) := by
  obtain ⟨n, D, h1, h2, h3, h4⟩ := h.ex
  obtain ⟨w', hrun, hown, ht⟩ := h1.drop (Maps.int_keyed Try.underlying23) Try.underlying47 (Maps.keyOf_int_mk Try.underlying23 hy) ty
  refine ⟨w', hrun, ⟨n, _, hown, h2, fun x hx => ?_, fun m hm hk => ?_⟩, ht.grown⟩
  · by_cases e : x = y
    · subst e
      rw [Maps.has_del_same]
      simp
    · rw [Maps.has_del_other (by intro h; injection h with _ h; exact e h), h3 x hx]
      simp [e]
  · obtain ⟨hk1, hk2⟩ := List.mem_filter.1 hk
    obtain ⟨B, c, e, hs⟩ := h4 m hm hk1
    exact ⟨B, c, by rw [Maps.atKey_del_other (by intro h; injection h with _ h; exact (of_decide_eq_true hk2) h)]; exact e, hs⟩
/-- The keys, sorted. -/
theorem LfM.keys {l : List Nd} {w0 w : World} {b : Nat} {ks : List Int} (h : LfM l w0 w b ks) (hn : ks.Nodup) (hk : ks.length ≤ 1000) (hw : ∀ x ∈ ks, (Lit.int .u64 x).wf = true) :
    ∃ (n : Nat) (D : DataW Value), w.ownsMap Try.prog 23 rawR b n D ∧ Maps.size D ≤ 1000 ∧ (keysQ D).Perm ks := by
  obtain ⟨n, D, h1, h2, h3, h4⟩ := h.ex
  obtain ⟨es, rfl, hpw, _⟩ := h1.entries (Maps.int_keyed Try.underlying23)
  obtain ⟨es', hD', hko⟩ := h1.keysOf
  have ee : es = es' := by simpa using hD'
  subst ee
  have hperm : ks.Perm (keysQ (.map es : DataW Value)) := perm_keysQ hpw (fun p hp => by
    obtain ⟨v, hv⟩ := hko p hp
    obtain ⟨x, _, hx, _⟩ := keyOf_u64 Try.underlying23 hv
    exact ⟨x, hx⟩) hn (fun x => by
      by_cases hwx : (Lit.int .u64 x).wf = true
      · exact (h3 x hwx).symm
      · refine ⟨fun hx => absurd (hw x hx) hwx, fun hx => ?_⟩
        rw [Maps.has_eq, List.any_eq_true] at hx
        obtain ⟨p, hp, hs⟩ := hx
        obtain ⟨v, hv⟩ := hko p hp
        obtain ⟨z, _, hz, hzw⟩ := keyOf_u64 Try.underlying23 hv
        rw [hz] at hs
        have : z = x := by simpa [Lit.sameKey] using hs
        subst this
        exact absurd hzw hwx)
  refine ⟨n, _, h1, ?_, hperm.symm⟩
  have hl := hperm.length_eq
  have e : (keysQ (.map es : DataW Value)).length = es.length := by simp [keysQ]
  show es.length ≤ 1000
  omega
/-- A store of a new key. -/
theorem putL {l : List Nd} {w0 w : World} {ops : Array Oper} {rest : List Oper} {o : Oper} {a : Act} {Q : Exit → Act → World → Prop} (hg : o.guard = none) (m x v : Operand) (hop : o.op = Op.mapUpdate 47 m x v) (b : Nat) (ks : List Int) (nd : Nd) (B : Option Addr) (c : Nat)
    (hm : a.eval m = .map (some b)) (hx : a.eval x = .int .u64 nd.id) (hv : a.eval v = .slice B nd.deps.length c) (hs : Sl w0 .u64 B nd.deps) (hu : (ids l).Nodup) (hnd : nd ∈ l) (hl : LfM l w0 w b ks) (hy : (Lit.int .u64 nd.id).wf = true) (j : Nat) (hj : j ≤ 900)
    (hn : ∃ (n : Nat) (D : DataW Value), w.ownsMap Try.prog 23 rawR b n D ∧ n ≤ j ∧ (∀ x, (Lit.int .u64 x).wf = true → (Maps.has D (.int .u64 x) = true ↔ x ∈ ks)) ∧
      (∀ m ∈ l, m.id ∈ ks → ∃ B c, D.atKey (.int .u64 m.id) (.held (.slice none 0 0)) = .held (.slice B m.deps.length c) ∧ Sl w0 .u64 B m.deps))
    (hK : ∀ w', (∃ (n : Nat) (D : DataW Value), w'.ownsMap Try.prog 23 rawR b n D ∧ n ≤ j + 1 ∧ (∀ x, (Lit.int .u64 x).wf = true → (Maps.has D (.int .u64 x) = true ↔ x ∈ ks ++ [nd.id])) ∧
      (∀ m ∈ l, m.id ∈ ks ++ [nd.id] → ∃ B c, D.atKey (.int .u64 m.id) (.held (.slice none 0 0)) = .held (.slice B m.deps.length c) ∧ Sl w0 .u64 B m.deps)) → w.grownBy w' (some b) → wpList Try.prog ops Q rest (a.put o.dst undef) w') : wpList Try.prog ops Q (o :: rest) a w := by
  obtain ⟨n, D, h1, h2, h3, h4⟩ := hn
  refine wpList_mapUpdate_own w hg m x v _ hop _ _ (Maps.int_keyed Try.underlying23) Try.underlying47 rawR b n D hm h1 (by unfold maxLen; omega) _ _ _ hx hv (Maps.keyOf_int_mk Try.underlying23 hy) (.held (.slice B nd.deps.length c)) [] rfl ?_
  intro w' h5 hgr
  refine hK w' ⟨n + 1, _, h5, by omega, fun z hz => ?_, fun m hm hk => ?_⟩ hgr
  · by_cases e : z = nd.id
    · subst e
      rw [Maps.has_put_same h1.isMap (by first | exact hy | exact trivial | simp [WideAt.IsKeyLit])]
      simp
    · rw [Maps.has_put_other (by intro h; injection h with _ h; exact e h), h3 z hz]
      simp [e]
  · by_cases e : m.id = nd.id
    · have em := uniq hu hm hnd e
      subst em
      exact ⟨B, c, Maps.atKey_put_same h1.isMap (by first | exact hy | exact trivial | simp [WideAt.IsKeyLit]) _ _, hs⟩
    · have hk2 : m.id ∈ ks := by
        rcases List.mem_append.1 hk with h | h
        · exact h
        · rw [List.mem_singleton] at h; exact absurd h e
      obtain ⟨B2, c2, e2, hs2⟩ := h4 m hm hk2
      exact ⟨B2, c2, by rw [Maps.atKey_put_other (by intro h; injection h with _ h; exact e h)]; exact e2, hs2⟩
end Go.Proofs.Ytceeopjmdfefjaa
