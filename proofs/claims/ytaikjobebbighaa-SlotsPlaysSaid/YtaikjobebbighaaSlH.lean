/- Slots: a book as it lies: a map from names to pools, all apart. -/
import Derived.Test.YtaikjobebbighaaSlG
import Derived.Test.YtaikjobebbighaaMe
import Derived.Maps.OwnSet
import Derived.Maps.AppendAt
namespace Go.Proofs.Ytaikjobebbighaa
set_option linter.unusedVariables false
set_option maxRecDepth 100000
open Go.RowKit
/-- Elements as they are. -/
def rawR (v : Value) : Option (DataW Value × List MemPlace) := some (.held v, [])
/-- Where a pool lies. -/
structure Wh where
  p : Nat
  A : Option Addr
  A' : Option Addr
abbrev Wh.foot (y : Wh) : Nat → Prop := Foot y.p y.A y.A'
abbrev Key := List UInt8
abbrev Bk := List (Key × Pst)
/-- Entries, pools, places. -/
def BEnt (w : World) : List (Lit × DataW Value) → Bk → List Wh → Prop
  | e :: es, q :: st, y :: ys => e.1 = .string q.1 ∧ e.2 = .held (.pointer (some ⟨y.p, 0, none⟩)) ∧ PoolAt w y.p q.2.size q.2.h q.2.l y.A y.A' ∧ BEnt w es st ys
  | [], [], [] => True
  | _, _, _ => False
theorem BEnt.but {F : Nat → Prop} {w w' : World} (hb : But F w w') : ∀ {es : List (Lit × DataW Value)} {st : Bk} {ys : List Wh}, BEnt w es st ys → (∀ y ∈ ys, ∀ k, y.foot k → ¬ F k) → BEnt w' es st ys
  | e :: es, q :: st, y :: ys, ⟨h1, h2, h3, h4⟩, hn => ⟨h1, h2, h3.but hb (hn y (by simp)), BEnt.but hb h4 fun z hz => hn z (by simp [hz])⟩
  | [], [], [], _, _ => trivial
  | [], _ :: _, _, h, _ => h.elim
  | [], [], _ :: _, h, _ => h.elim
  | _ :: _, [], _, h, _ => h.elim
  | _ :: _, _ :: _, [], h, _ => h.elim
theorem BEnt.over {w w' : World} (hb : Below w.heap.size w w') : ∀ {es : List (Lit × DataW Value)} {st : Bk} {ys : List Wh}, BEnt w es st ys → BEnt w' es st ys
  | e :: es, q :: st, y :: ys, ⟨h1, h2, h3, h4⟩ => ⟨h1, h2, h3.over hb, BEnt.over hb h4⟩
  | [], [], [], _ => trivial
  | [], _ :: _, _, h => h.elim
  | [], [], _ :: _, h => h.elim
  | _ :: _, [], _, h => h.elim
  | _ :: _, _ :: _, [], h => h.elim
/-- A book. -/
structure BkAt (w : World) (g b : Nat) (st : Bk) (ys : List Wh) : Prop where
  row : Row w g 74 #[.map (some b)]
  map : ∃ es, w.ownsMap Try.prog 9 rawR b es.length (.map es) ∧ BEnt w es st ys
  apart : ys.Pairwise fun x y => ∀ k, x.foot k → ¬ y.foot k
theorem new_any (w : World) : Calls Try.prog 10 #[] w fun e w' => ∃ g b, e = .returned (.pointer (some ⟨g, 0, none⟩)) ∧ w.heap.size ≤ g ∧ w.heap.size ≤ b ∧ BkAt w' g b [] [] ∧ Below w.heap.size w w' := by
  have hmm := @run_makeMap Try.prog
  go_enter Try.func10, Try.ntmps10
  go_wp2_with fail
  go_ret
  refine ⟨_, w.heap.size, rfl, by simp, Nat.le_refl _, ⟨?_, ⟨[], (World.ownsMap_made w _ _ _).alloc _, trivial⟩, List.Pairwise.nil⟩, ((Below.refl _ w).alloc (Nat.le_refl _) _).alloc (by simp) _⟩
  have := Row.new (w.alloc (.map #[] 0)) 74 #[.map (some w.heap.size)]
  simpa using this
/-- A name's pool, and where it lies. -/
def bkGet : Bk → List Wh → Key → Option (Pst × Wh)
  | q :: st, y :: ys, k => if q.1 == k then some (q.2, y) else bkGet st ys k
  | _, _, _ => none
def bkPut : Bk → Key → Pst → Bk
  | q :: st, k, s => if q.1 == k then (q.1, s) :: st else q :: bkPut st k s
  | [], _, _ => []
def whPut : Bk → List Wh → Key → Wh → List Wh
  | q :: st, y :: ys, k, z => if q.1 == k then z :: ys else y :: whPut st ys k z
  | _, ys, _, _ => ys
def ptrOf : Option (Pst × Wh) → Value
  | some q => .pointer (some ⟨q.2.p, 0, none⟩)
  | none => .pointer none
theorem BEnt.get {w : World} (k : Key) : ∀ {es : List (Lit × DataW Value)} {st : Bk} {ys : List Wh}, BEnt w es st ys → (DataW.map es).atKey (.string k) (.held (.pointer none)) = .held (ptrOf (bkGet st ys k))
  | e :: es, q :: st, y :: ys, ⟨h1, h2, h3, h4⟩ => by
    have h5 := BEnt.get k h4
    unfold bkGet
    by_cases hk : (q.1 == k) = true
    · rw [if_pos hk]
      simp only [DataW.atKey, List.find?_cons]
      rw [h1]
      simp only [Lit.sameKey, hk, h2]
      rfl
    · rw [if_neg hk]
      simp only [DataW.atKey, List.find?_cons] at h5 ⊢
      rw [h1]
      simp only [Lit.sameKey, Bool.not_eq_true] at hk ⊢
      rw [hk]
      exact h5
  | [], [], [], _ => rfl
  | [], _ :: _, _, h => h.elim
  | [], [], _ :: _, h => h.elim
  | _ :: _, [], _, h => h.elim
  | _ :: _, _ :: _, [], h => h.elim
theorem bkGet_mem {k : Key} {s : Pst} {y : Wh} : ∀ {st : Bk} {ys : List Wh}, bkGet st ys k = some (s, y) → y ∈ ys
  | q :: st, z :: ys, h => by
    unfold bkGet at h
    split at h
    · injection h with h; injection h with _ h; subst h; simp
    · exact List.mem_cons_of_mem _ (bkGet_mem h)
  | [], _, h => by simp [bkGet] at h
  | _ :: _, [], h => by simp [bkGet] at h
theorem BEnt.pool {w : World} {k : Key} {s : Pst} {y : Wh} : ∀ {es : List (Lit × DataW Value)} {st : Bk} {ys : List Wh}, BEnt w es st ys → bkGet st ys k = some (s, y) → PoolAt w y.p s.size s.h s.l y.A y.A'
  | e :: es, q :: st, z :: ys, ⟨h1, h2, h3, h4⟩, h => by
    unfold bkGet at h
    split at h
    · injection h with h; injection h with ha hb; subst ha hb; exact h3
    · exact BEnt.pool h4 h
  | [], [], [], _, h => by simp [bkGet] at h
  | [], _ :: _, _, h, _ => h.elim
  | [], [], _ :: _, h, _ => h.elim
  | _ :: _, [], _, h, _ => h.elim
  | _ :: _, _ :: _, [], h, _ => h.elim
theorem BEnt.put {w w' : World} {k : Key} {s s' : Pst} {y z : Wh} (hb : But y.foot w w') (hz : PoolAt w' z.p s'.size s'.h s'.l z.A z.A') (hp : z.p = y.p) : ∀ {es : List (Lit × DataW Value)} {st : Bk} {ys : List Wh}, BEnt w es st ys → bkGet st ys k = some (s, y) →
    ys.Pairwise (fun x y => ∀ k, x.foot k → ¬ y.foot k) → BEnt w' es (bkPut st k s') (whPut st ys k z)
  | e :: es, q :: st, u :: ys, ⟨h1, h2, h3, h4⟩, h, ha => by
    have ha := List.pairwise_cons.1 ha
    unfold bkGet at h
    unfold bkPut whPut
    split at h
    · rename_i hk
      rw [if_pos hk, if_pos hk]
      injection h with h
      injection h with _ hb2
      subst hb2
      exact ⟨h1, by rw [hp]; exact h2, hz, h4.but hb fun v hv j hj hf => ha.1 v hv j hf hj⟩
    · rename_i hk
      rw [if_neg hk, if_neg hk]
      exact ⟨h1, h2, h3.but hb fun j hj => ha.1 y (bkGet_mem h) j hj, BEnt.put hb hz hp h4 h ha.2⟩
  | [], [], [], _, h, _ => by simp [bkGet] at h
  | [], _ :: _, _, h, _, _ => h.elim
  | [], [], _ :: _, h, _, _ => h.elim
  | _ :: _, [], _, h, _, _ => h.elim
  | _ :: _, _ :: _, [], h, _, _ => h.elim
theorem BEnt.lt {w : World} : ∀ {es : List (Lit × DataW Value)} {st : Bk} {ys : List Wh}, BEnt w es st ys → ∀ u ∈ ys, ∀ k, u.foot k → k < w.heap.size
  | e :: es, q :: st, y :: ys, ⟨h1, h2, h3, h4⟩ => fun u hu k hk => by
    rcases List.mem_cons.1 hu with rfl | hu
    · exact h3.lt hk
    · exact BEnt.lt h4 u hu k hk
  | [], [], [], _ => fun u hu => by simp at hu
  | [], _ :: _, _, h => h.elim
  | [], [], _ :: _, h => h.elim
  | _ :: _, [], _, h => h.elim
  | _ :: _, _ :: _, [], h => h.elim
theorem whPut_mem {k : Key} {z v : Wh} : ∀ {st : Bk} {ys : List Wh}, v ∈ whPut st ys k z → v = z ∨ v ∈ ys
  | q :: st, y :: ys, h => by
    unfold whPut at h
    split at h
    · rcases List.mem_cons.1 h with h | h
      · exact .inl h
      · exact .inr (List.mem_cons_of_mem _ h)
    · rcases List.mem_cons.1 h with h | h
      · exact .inr (by rw [h]; simp)
      · rcases whPut_mem h with h | h
        · exact .inl h
        · exact .inr (List.mem_cons_of_mem _ h)
  | [], [], h => .inr h
  | [], _ :: _, h => .inr h
  | _ :: _, [], h => .inr h
theorem whPut_apart {k : Key} {s : Pst} {y z : Wh} {n : Nat} (hz : ∀ j, z.foot j → y.foot j ∨ n ≤ j) : ∀ {st : Bk} {ys : List Wh}, (∀ u ∈ ys, ∀ j, u.foot j → j < n) → bkGet st ys k = some (s, y) →
    ys.Pairwise (fun x y => ∀ k, x.foot k → ¬ y.foot k) → (whPut st ys k z).Pairwise (fun x y => ∀ k, x.foot k → ¬ y.foot k)
  | q :: st, u :: ys, hl, h, ha => by
    have ha := List.pairwise_cons.1 ha
    unfold bkGet at h
    unfold whPut
    split at h
    · rename_i hk
      rw [if_pos hk]
      injection h with h
      injection h with _ hb2
      subst hb2
      refine List.pairwise_cons.2 ⟨fun v hv j hj hf => ?_, ha.2⟩
      rcases hz j hj with h1 | h1
      · exact ha.1 v hv j h1 hf
      · have := hl v (by simp [hv]) j hf; omega
    · rename_i hk
      rw [if_neg hk]
      refine List.pairwise_cons.2 ⟨fun v hv j hj hf => ?_, whPut_apart hz (fun v hv => hl v (by simp [hv])) h ha.2⟩
      rcases whPut_mem hv with rfl | hv
      · rcases hz j hf with h1 | h1
        · exact ha.1 y (bkGet_mem h) j hj h1
        · have := hl u (by simp) j hj; omega
      · exact ha.1 v hv j hj hf
  | [], _, _, h, _ => by simp [bkGet] at h
  | _ :: _, [], _, h, _ => by simp [bkGet] at h
theorem PoolAt.not_map {w : World} {p : Nat} {size : Int} {h l : List Pl} {A A' : Option Addr} (k : PoolAt w p size h l A A') {b : Nat} {es : Array MapEntry} {clock : Nat} (hb : w.heap[b]? = some (.map es clock)) : ¬ Foot p A A' b := by
  obtain ⟨c, c', h1, h2, h3, h4⟩ := k
  rintro (rfl | e | e)
  · unfold Row at h1; rw [h1] at hb; cases hb
  · subst e
    obtain ⟨cur, h5, -⟩ := h2.open_
    unfold Row at h5; rw [h5] at hb; cases hb
  · subst e
    obtain ⟨cur, h5, -⟩ := h3.open_
    unfold Row at h5; rw [h5] at hb; cases hb
theorem PoolAt.not_row {w : World} {p : Nat} {size : Int} {h l : List Pl} {A A' : Option Addr} (k : PoolAt w p size h l A A') {g : Nat} {t : TypeId} {cs : Array Value} (hr : Row w g t cs) (h1 : 77 ≠ t) (h2 : 38 ≠ t) : ¬ Foot p A A' g := by
  obtain ⟨c, c', k1, k2, k3, k4⟩ := k
  rintro (rfl | e | e)
  · exact k1.ne hr h1 rfl
  · exact k2.off hr h2 e
  · exact k3.off hr h2 e
theorem ownsMap_but {F : Nat → Prop} {w w' : World} {k : TypeId} {b n : Nat} {D : DataW Value} (h : w.ownsMap Try.prog k rawR b n D) (hb : But F w w') (hn : ¬ F b) : w'.ownsMap Try.prog k rawR b n D := by
  have hl := h.lt
  obtain ⟨es, clock, h1, r⟩ := h
  exact ⟨es, clock, (hb.block b hl hn).trans h1, r⟩
/-- A call at one pool. -/
theorem BkAt.turn {w w' : World} {g b : Nat} {st : Bk} {ys : List Wh} {k : Key} {s s' : Pst} {y z : Wh} (h : BkAt w g b st ys) (hg : bkGet st ys k = some (s, y)) (hb : But y.foot w w') (hz : PoolAt w' z.p s'.size s'.h s'.l z.A z.A') (hp : z.p = y.p) (hn : ∀ j, z.foot j → y.foot j ∨ w.heap.size ≤ j) :
    BkAt w' g b (bkPut st k s') (whPut st ys k z) := by
  obtain ⟨es, hm, he⟩ := h.map
  have hpool := he.pool hg
  have hmb : ¬ y.foot b := by
    obtain ⟨es0, clock, h1, -⟩ := hm
    exact hpool.not_map h1
  exact ⟨h.row.but hb (hpool.not_row h.row (by decide) (by decide)), ⟨es, ownsMap_but hm hb hmb, he.put hb hz hp hg h.apart⟩, whPut_apart hn he.lt hg h.apart⟩
theorem BkAt.over {w w' : World} {g b : Nat} {st : Bk} {ys : List Wh} (h : BkAt w g b st ys) (hb : Below w.heap.size w w') : BkAt w' g b st ys := by
  obtain ⟨es, hm, he⟩ := h.map
  exact ⟨h.row.over hb, ⟨es, ownsMap_but hm (But.of_below (F := fun _ => False) hb (Nat.le_refl _)) (fun h => h), he.over hb⟩, h.apart⟩
end Go.Proofs.Ytaikjobebbighaa
