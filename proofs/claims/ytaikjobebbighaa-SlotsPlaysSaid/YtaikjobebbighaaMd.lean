/- Slots: the document's own book: entries in the order of asking; a serving. No program. Slots: the document's book beside the program's: set, ask, free answer alike. No program. Slots: the document's book beside the program's: Ask and Free answer alike. No program. -/
import Derived.Test.YtaikjobebbighaaSlMp
namespace Go.Proofs.Ytaikjobebbighaa
set_option linter.unusedVariables false
/-- An entry. -/
structure En where
  pool : Int
  tok : Int
  many : Int
  holds : Bool
abbrev En.pl (x : En) : Pl := (x.tok, x.many)
def lineE (L : List En) (i : Int) : List Pl := (L.filter fun x => x.pool == i && !x.holds).map En.pl
def holdE (L : List En) (i : Int) : List Pl := (L.filter fun x => x.pool == i && x.holds).map En.pl
theorem lineE_nil (i : Int) : lineE [] i = [] := rfl
theorem holdE_nil (i : Int) : holdE [] i = [] := rfl
theorem lineE_append (a b : List En) (i : Int) : lineE (a ++ b) i = lineE a i ++ lineE b i := by unfold lineE; rw [List.filter_append, List.map_append]
theorem holdE_append (a b : List En) (i : Int) : holdE (a ++ b) i = holdE a i ++ holdE b i := by unfold holdE; rw [List.filter_append, List.map_append]
theorem lineE_cons (x : En) (L : List En) (i : Int) : lineE (x :: L) i = if x.pool = i ∧ x.holds = false then x.pl :: lineE L i else lineE L i := by
  unfold lineE
  rw [List.filter_cons]
  by_cases h : x.pool = i ∧ x.holds = false
  · rw [if_pos h, if_pos (by simp [h.1, h.2])]; rfl
  · rw [if_neg h, if_neg (by simpa using h)]
theorem holdE_cons (x : En) (L : List En) (i : Int) : holdE (x :: L) i = if x.pool = i ∧ x.holds = true then x.pl :: holdE L i else holdE L i := by
  unfold holdE
  rw [List.filter_cons]
  by_cases h : x.pool = i ∧ x.holds = true
  · rw [if_pos h, if_pos (by simp [h.1, h.2])]; rfl
  · rw [if_neg h, if_neg (by simpa using h)]
/-- A pool's free places, by entries. -/
def leftE (size : Int) (L : List En) (i : Int) : Int := max (size - sumM (holdE L i)) 0
theorem leftE_perm {size : Int} {L : List En} {i : Int} {h : List Pl} (hp : h.Perm (holdE L i)) : leftE size L i = leftI size h := by unfold leftE leftI; rw [sumM_perm hp]
/-- Whether an entry waits in a pool. -/
abbrev En.waits (x : En) (i : Int) : Prop := x.pool = i ∧ x.holds = false
abbrev En.held (x : En) : En := { x with holds := true }
/-- A serving: behind pre. -/
def serveE (size i : Int) (pre : List En) : List En → List En × List Int
  | [] => ([], [])
  | x :: t => if x.pool = i ∧ x.holds = false then
      (if leftE size (pre ++ x :: t) i < x.many then (x :: t, [])
       else (x.held :: (serveE size i (pre ++ [x.held]) t).1, x.tok :: (serveE size i (pre ++ [x.held]) t).2))
    else (x :: (serveE size i (pre ++ [x]) t).1, (serveE size i (pre ++ [x]) t).2)
theorem serveE_len (size i : Int) : ∀ (T pre : List En), (serveE size i pre T).1.length = T.length
  | [], pre => rfl
  | x :: t, pre => by
    unfold serveE
    split
    · split
      · rfl
      · simp [serveE_len size i t]
    · simp [serveE_len size i t]
theorem serveE_rel (size i : Int) : ∀ (T pre : List En) (h : List Pl), h.Perm (holdE (pre ++ T) i) → lineE pre i = [] →
    (servesF size h (lineE T i)).2.2.map (·.1) = (serveE size i pre T).2 ∧ (servesF size h (lineE T i)).2.1 = lineE (pre ++ (serveE size i pre T).1) i ∧ (servesF size h (lineE T i)).1.Perm (holdE (pre ++ (serveE size i pre T).1) i)
  | [], pre, h, hp, hl => by
    refine ⟨rfl, ?_, hp⟩
    show [] = lineE (pre ++ []) i
    rw [List.append_nil, hl]
  | x :: t, pre, h, hp, hl => by
    have e1 : pre ++ x :: t = (pre ++ [x]) ++ t := by simp
    unfold serveE
    by_cases hw : x.pool = i ∧ x.holds = false
    · rw [if_pos hw, lineE_cons, if_pos hw, leftE_perm hp]
      by_cases hx : leftI size h < x.many
      · rw [if_pos hx, servesF_no (by show ¬ x.many ≤ _; omega)]
        refine ⟨rfl, ?_, hp⟩
        rw [lineE_append, hl, lineE_cons, if_pos hw]
        rfl
      · rw [if_neg hx, servesF_yes (by show x.many ≤ _; omega)]
        have hp2 : (insR x.pl h).Perm (holdE ((pre ++ [x.held]) ++ t) i) := by
          refine (insR_perm _ _).trans ?_
          rw [holdE_append, holdE_append, holdE_cons, if_pos ⟨hw.1, rfl⟩, holdE_nil]
          have h3 : h.Perm (holdE pre i ++ holdE t i) := by
            rw [holdE_append, holdE_cons, if_neg (by rw [hw.2]; simp)] at hp
            exact hp
          refine (h3.cons _).trans ?_
          show (x.pl :: (holdE pre i ++ holdE t i)).Perm ((holdE pre i ++ [x.pl]) ++ holdE t i)
          rw [List.append_assoc]
          exact List.perm_middle.symm
        have hl2 : lineE (pre ++ [x.held]) i = [] := by rw [lineE_append, hl, lineE_cons, if_neg (by simp)]; rfl
        obtain ⟨i1, i2, i3⟩ := serveE_rel size i t (pre ++ [x.held]) _ hp2 hl2
        refine ⟨?_, ?_, ?_⟩
        · show x.tok :: _ = _
          rw [i1]
        · show (servesF size (insR x.pl h) (lineE t i)).2.1 = _
          rw [i2]; simp
        · show (servesF size (insR x.pl h) (lineE t i)).1.Perm _
          refine i3.trans ?_
          simp
    · rw [if_neg hw, lineE_cons, if_neg hw]
      have hl2 : lineE (pre ++ [x]) i = [] := by rw [lineE_append, hl, lineE_cons, if_neg hw]; rfl
      obtain ⟨i1, i2, i3⟩ := serveE_rel size i t (pre ++ [x]) h (by rw [← e1]; exact hp) hl2
      refine ⟨i1, ?_, ?_⟩
      · rw [i2]; simp
      · refine i3.trans ?_; simp
/-- Others' entries stay. -/
theorem serveE_other (size i : Int) {j : Int} (hj : j ≠ i) : ∀ (T pre : List En), lineE (serveE size i pre T).1 j = lineE T j ∧ holdE (serveE size i pre T).1 j = holdE T j
  | [], pre => ⟨rfl, rfl⟩
  | x :: t, pre => by
    unfold serveE
    split
    · rename_i hw
      split
      · exact ⟨rfl, rfl⟩
      · obtain ⟨i1, i2⟩ := serveE_other size i hj t (pre ++ [x.held])
        refine ⟨?_, ?_⟩
        · rw [lineE_cons, lineE_cons, if_neg (by simp), if_neg (by rintro ⟨e, _⟩; exact hj (e.symm.trans hw.1)), i1]
        · rw [holdE_cons, holdE_cons, if_neg (by rintro ⟨e, _⟩; exact hj (e.symm.trans hw.1)), if_neg (by rintro ⟨e, _⟩; exact hj (e.symm.trans hw.1)), i2]
    · obtain ⟨i1, i2⟩ := serveE_other size i hj t (pre ++ [x])
      refine ⟨?_, ?_⟩
      · rw [lineE_cons, lineE_cons, i1]
      · rw [holdE_cons, holdE_cons, i2]
/-- Pools and tokens stay. -/
theorem serveE_same (size i : Int) : ∀ (T pre : List En), (serveE size i pre T).1.map (fun x => (x.pool, x.tok, x.many)) = T.map (fun x => (x.pool, x.tok, x.many))
  | [], pre => rfl
  | x :: t, pre => by
    unfold serveE
    split
    · split
      · rfl
      · rw [List.map_cons, List.map_cons, serveE_same size i t]
    · rw [List.map_cons, List.map_cons, serveE_same size i t]
end Go.Proofs.Ytaikjobebbighaa
namespace Go.Proofs.Ytaikjobebbighaa
set_option linter.unusedVariables false
structure Rb where
  names : List Key
  sizes : List Int
  L : List En
def idxN : List Key → Key → Nat → Int
  | [], _, _ => -1
  | x :: l, k, n => if x = k then (n : Int) else idxN l k (n + 1)
theorem idxN_is (k : Key) : ∀ (l : List Key) (n : Nat), (idxN l k n = -1 ∧ k ∉ l) ∨ ∃ (i : Nat) (h : i < l.length), idxN l k n = ((n + i : Nat) : Int) ∧ l[i] = k
  | [], n => .inl ⟨rfl, by simp⟩
  | x :: l, n => by
    unfold idxN
    by_cases hx : x = k
    · rw [if_pos hx]
      exact .inr ⟨0, by simp, rfl, hx⟩
    · rw [if_neg hx]
      rcases idxN_is k l (n + 1) with ⟨e, h⟩ | ⟨i, hi, e, h1⟩
      · refine .inl ⟨e, fun hm => ?_⟩
        rcases List.mem_cons.1 hm with h2 | h2
        · exact hx h2.symm
        · exact h h2
      · exact .inr ⟨i + 1, by simp; omega, by rw [e]; congr 1; omega, h1⟩
def poolOf (r : Rb) (k : Key) : Int := idxN r.names k 0
theorem poolOf_is (r : Rb) (k : Key) : (poolOf r k = -1 ∧ k ∉ r.names) ∨ ∃ (i : Nat) (h : i < r.names.length), poolOf r k = (i : Int) ∧ r.names[i] = k := by
  rcases idxN_is k r.names 0 with h | ⟨i, hi, e, h⟩
  · exact .inl h
  · exact .inr ⟨i, hi, by unfold poolOf; rw [e]; simp, h⟩
def findN : List En → Int → Int → Nat → Int
  | [], _, _, _ => -1
  | x :: l, i, t, n => if x.pool = i ∧ x.tok = t then (n : Int) else findN l i t (n + 1)
theorem findN_is (i t : Int) : ∀ (l : List En) (n : Nat), (findN l i t n = -1 ∧ ∀ x ∈ l, ¬ (x.pool = i ∧ x.tok = t)) ∨ ∃ (q : Nat) (h : q < l.length), findN l i t n = ((n + q : Nat) : Int) ∧ l[q].pool = i ∧ l[q].tok = t
  | [], n => .inl ⟨rfl, by simp⟩
  | x :: l, n => by
    unfold findN
    by_cases hx : x.pool = i ∧ x.tok = t
    · rw [if_pos hx]
      exact .inr ⟨0, by simp, rfl, hx.1, hx.2⟩
    · rw [if_neg hx]
      rcases findN_is i t l (n + 1) with ⟨e, h⟩ | ⟨q, hq, e, h1⟩
      · refine .inl ⟨e, fun y hm => ?_⟩
        rcases List.mem_cons.1 hm with h2 | h2
        · rw [h2]; exact hx
        · exact h y h2
      · exact .inr ⟨q + 1, by simp; omega, by rw [e]; congr 1; omega, h1⟩
def sizeP (r : Rb) (i : Int) : Int := r.sizes.getD i.toNat 0
def leftP (r : Rb) (i : Int) : Int := if i < 0 then 0 else leftE (sizeP r i) r.L i
def serveRb (r : Rb) (i : Int) : Rb := { r with L := (serveE (sizeP r i) i [] r.L).1 }
def servedRb (r : Rb) (i : Int) : List Int := (serveE (sizeP r i) i [] r.L).2
def addRb (r : Rb) (k : Key) : Rb := if poolOf r k < 0 then ⟨r.names ++ [k], r.sizes ++ [0], r.L⟩ else r
def atRb (r : Rb) (k : Key) : Int := if poolOf r k < 0 then (r.names.length : Int) else poolOf r k
def sizedRb (r : Rb) (i n : Int) : Rb := { r with sizes := r.sizes.set i.toNat n }
def setRb (r : Rb) (k : Key) (n : Int) : Rb × List Int × Int :=
  if k.length < 1 ∨ 32 < k.length then (r, [], 140)
  else if n < 1 ∨ 1048576 < n then (r, [], 2)
  else if poolOf r k < 0 ∧ 63 < r.names.length then (r, [], 6)
  else (serveRb (sizedRb (addRb r k) (atRb r k) n) (atRb r k), servedRb (sizedRb (addRb r k) (atRb r k) n) (atRb r k), 0)
def lastHolds (L : List En) : Bool := (L.getLast?.map En.holds).getD false
def askRb (r : Rb) (k : Key) (x : Pl) : Rb × Bool × Int :=
  if poolOf r k < 0 then (r, false, 5)
  else if x.1 = 0 ∨ x.2 < 1 ∨ sizeP r (poolOf r k) < x.2 then (r, false, 2)
  else if 0 ≤ findN r.L (poolOf r k) x.1 0 then (r, false, 130)
  else if 1023 < (lineE r.L (poolOf r k)).length then (r, false, 6)
  else (serveRb { r with L := r.L ++ [⟨poolOf r k, x.1, x.2, false⟩] } (poolOf r k), lastHolds (serveRb { r with L := r.L ++ [⟨poolOf r k, x.1, x.2, false⟩] } (poolOf r k)).L, 0)
def outRb (r : Rb) (q : Nat) : Rb := { r with L := r.L.take q ++ r.L.drop (q + 1) }
def freeRb (r : Rb) (k : Key) (t : Int) : Rb × List Int × Int :=
  if poolOf r k < 0 ∨ findN r.L (poolOf r k) t 0 < 0 then (r, [], 5)
  else (serveRb (outRb r (findN r.L (poolOf r k) t 0).toNat) (poolOf r k), servedRb (outRb r (findN r.L (poolOf r k) t 0).toNat) (poolOf r k), 0)
/-- The document's book, and the program's. -/
structure Rel (st : Bk) (r : Rb) : Prop where
  nd : r.names.Nodup
  len : r.sizes.length = r.names.length
  cnt : st.length = r.names.length
  no : ∀ k, stGet st k = none ↔ k ∉ r.names
  at_ : ∀ (i : Nat) (hi : i < r.names.length), ∃ s, stGet st r.names[i] = some s ∧ r.sizes[i]? = some s.size ∧ s.l = lineE r.L i ∧ s.h.Perm (holdE r.L i)
  in_ : ∀ x ∈ r.L, 0 ≤ x.pool ∧ x.pool < r.names.length
theorem Rel.nil : Rel [] ⟨[], [], []⟩ := ⟨List.Pairwise.nil, rfl, rfl, fun k => by simp [stGet], fun i hi => absurd hi (by simp), fun x hx => by simp at hx⟩
theorem Rel.some_ {st : Bk} {r : Rb} (h : Rel st r) {k : Key} {s : Pst} (hs : stGet st k = some s) : ∃ (i : Nat) (hi : i < r.names.length), poolOf r k = (i : Int) ∧ r.names[i] = k ∧ r.sizes[i]? = some s.size ∧ s.l = lineE r.L i ∧ s.h.Perm (holdE r.L i) := by
  rcases poolOf_is r k with ⟨_, h1⟩ | ⟨i, hi, e, h1⟩
  · rw [(h.no k).2 h1] at hs; cases hs
  · obtain ⟨s', h2, h3⟩ := h.at_ i hi
    rw [h1, hs] at h2
    injection h2 with h2
    subst h2
    exact ⟨i, hi, e, h1, h3⟩
theorem Rel.none_ {st : Bk} {r : Rb} (h : Rel st r) {k : Key} (hs : stGet st k = none) : poolOf r k = -1 := by
  rcases poolOf_is r k with ⟨e, _⟩ | ⟨i, hi, e, h1⟩
  · exact e
  · exact absurd (h1 ▸ List.getElem_mem hi) ((h.no k).1 hs)
theorem sizeP_at {r : Rb} {i : Nat} {n : Int} (h : r.sizes[i]? = some n) : sizeP r i = n := by
  unfold sizeP
  rw [Int.toNat_natCast, List.getD_eq_getElem?_getD, h]
  rfl
theorem nodup_ne {α : Type} {l : List α} (h : l.Nodup) {i j : Nat} (hi : i < l.length) (hj : j < l.length) (e : i ≠ j) : l[i] ≠ l[j] := by
  have hp := List.pairwise_iff_getElem.1 h
  rcases Nat.lt_or_gt_of_ne e with h1 | h1
  · exact hp i j hi hj h1
  · exact fun e2 => hp j i hj hi h1 e2.symm
/-- A serving of pool i, whose entries, and size, were changed. -/
theorem Rel.serve {st : Bk} {r : Rb} (h : Rel st r) {i : Nat} (hi : i < r.names.length) {size : Int} {h2 l2 : List Pl} {L2 : List En} (hp : h2.Perm (holdE L2 i)) (hl : l2 = lineE L2 i) (ho : ∀ j : Nat, j ≠ i → lineE L2 j = lineE r.L j ∧ holdE L2 j = holdE r.L j)
    (hin : ∀ x ∈ L2, 0 ≤ x.pool ∧ x.pool < r.names.length) :
    Rel (bkPut st r.names[i] (serveP size h2 l2)) (serveRb ⟨r.names, r.sizes.set i size, L2⟩ i) ∧ (servesF size h2 l2).2.2.map (·.1) = servedRb ⟨r.names, r.sizes.set i size, L2⟩ i := by
  have hz : sizeP ⟨r.names, r.sizes.set i size, L2⟩ i = size := sizeP_at (by
    show (r.sizes.set i size)[i]? = _
    rw [List.getElem?_set_self (by rw [h.len]; exact hi)])
  obtain ⟨s, hs, -⟩ := h.at_ i hi
  obtain ⟨k1, k2, k3⟩ := serveE_rel size i L2 [] h2 hp rfl
  rw [← hl] at k1 k2 k3
  refine ⟨⟨h.nd, by show (r.sizes.set i size).length = _; rw [List.length_set]; exact h.len, by rw [bkPut_len]; exact h.cnt, fun k => ?_, fun j hj => ?_, fun x hx => ?_⟩, ?_⟩
  · rw [stGet_put hs]
    by_cases e : k = r.names[i]
    · rw [if_pos e]
      exact ⟨fun h => by (cases h), fun h => absurd (e ▸ List.getElem_mem hi) h⟩
    · rw [if_neg e]; exact h.no k
  · have hj : j < r.names.length := hj
    by_cases e : j = i
    · subst e
      refine ⟨serveP size h2 l2, (stGet_put hs _).trans (if_pos rfl), ?_, ?_, ?_⟩
      · show (r.sizes.set j size)[j]? = some size
        rw [List.getElem?_set_self (by rw [h.len]; exact hi)]
      · unfold serveRb
        rw [hz]
        exact k2
      · unfold serveRb
        rw [hz]
        exact k3
    · obtain ⟨s', h1, h3, h4, h5⟩ := h.at_ j hj
      have hne : r.names[j] ≠ r.names[i] := nodup_ne h.nd hj hi e
      have ho1 := serveE_other size (i : Int) (j := (j : Int)) (by omega) L2 []
      refine ⟨s', (stGet_put hs _).trans ((if_neg hne).trans h1), ?_, ?_, ?_⟩
      · show (r.sizes.set i size)[j]? = _
        rw [List.getElem?_set_ne (fun e2 => e e2.symm)]; exact h3
      · unfold serveRb
        rw [hz]
        show s'.l = lineE (serveE size i [] L2).1 j
        rw [ho1.1, (ho j e).1]; exact h4
      · unfold serveRb
        rw [hz]
        show s'.h.Perm (holdE (serveE size i [] L2).1 j)
        rw [ho1.2, (ho j e).2]; exact h5
  · unfold serveRb at hx
    rw [hz] at hx
    have hsm := serveE_same size i L2 []
    have hmem : (x.pool, x.tok, x.many) ∈ (serveE size i [] L2).1.map (fun x => (x.pool, x.tok, x.many)) := List.mem_map.2 ⟨x, hx, rfl⟩
    rw [hsm] at hmem
    obtain ⟨y, hy, e⟩ := List.mem_map.1 hmem
    have hyp := hin y hy
    injection e with e1 e2
    rw [e1] at hyp
    exact hyp
  · unfold servedRb
    rw [hz]
    exact k1
theorem Rel.add {st : Bk} {r : Rb} (h : Rel st r) {k : Key} (hs : stGet st k = none) : Rel (stIns (k, zeroP) st) ⟨r.names ++ [k], r.sizes ++ [0], r.L⟩ := by
  have hk := (h.no k).1 hs
  refine ⟨?_, by simp [h.len], by rw [stIns_len, h.cnt]; simp, fun j => ?_, fun i hi => ?_, fun x hx => ?_⟩
  · exact List.nodup_append.2 ⟨h.nd, by simp, fun a ha b hb e => by rw [List.mem_singleton] at hb; subst hb; subst e; exact hk ha⟩
  · rw [stGet_ins hs]
    by_cases e : j = k
    · rw [if_pos e]
      exact ⟨fun h => by (cases h), fun h => absurd (by simp [e]) h⟩
    · rw [if_neg e, h.no j]
      simp [e]
  · have hi : i < (r.names ++ [k]).length := hi
    show ∃ s, stGet (stIns (k, zeroP) st) (r.names ++ [k])[i] = some s ∧ (r.sizes ++ [0])[i]? = some s.size ∧ s.l = lineE r.L i ∧ s.h.Perm (holdE r.L i)
    by_cases hlt : i < r.names.length
    · obtain ⟨s, h1, h2, h3⟩ := h.at_ i hlt
      have hne : r.names[i] ≠ k := fun e => hk (e ▸ List.getElem_mem hlt)
      refine ⟨s, ?_, ?_, h3⟩
      · rw [List.getElem_append_left hlt, stGet_ins hs, if_neg hne]; exact h1
      · rw [List.getElem?_append_left (by rw [h.len]; exact hlt)]; exact h2
    · have e : i = r.names.length := by simp at hi; omega
      subst e
      have hn1 : lineE r.L (r.names.length : Nat) = [] := by
        unfold lineE
        rw [List.map_eq_nil_iff, List.filter_eq_nil_iff]
        intro x hx
        have := h.in_ x hx
        simp only [Bool.and_eq_true, beq_iff_eq]
        intro hh
        omega
      have hn2 : holdE r.L (r.names.length : Nat) = [] := by
        unfold holdE
        rw [List.map_eq_nil_iff, List.filter_eq_nil_iff]
        intro x hx
        have := h.in_ x hx
        simp only [Bool.and_eq_true, beq_iff_eq]
        intro hh
        omega
      refine ⟨zeroP, ?_, ?_, hn1.symm, ?_⟩
      · rw [List.getElem_append_right (by omega)]
        simp only [Nat.sub_self, List.getElem_singleton]
        rw [stGet_ins hs, if_pos rfl]
      · rw [List.getElem?_append_right (by rw [h.len]; omega), h.len, Nat.sub_self]
        rfl
      · rw [hn2]; exact List.Perm.refl _
  · have := h.in_ x hx
    show 0 ≤ x.pool ∧ x.pool < ((r.names ++ [k]).length : Int)
    simp
    omega
/-- Set: alike. -/
theorem Rel.set {st : Bk} {r : Rb} (h : Rel st r) (k : Key) (n : Int) : (setB st k n).2.2 = (setRb r k n).2.2 ∧ (setB st k n).2.1.map (·.1) = (setRb r k n).2.1 ∧ Rel (setB st k n).1 (setRb r k n).1 := by
  unfold setB setRb
  by_cases h1 : k.length = 0 ∨ 32 < k.length
  · have h1' : k.length < 1 ∨ 32 < k.length := by omega
    rw [if_pos h1, if_pos h1']; exact ⟨rfl, rfl, h⟩
  have h1' : ¬ (k.length < 1 ∨ 32 < k.length) := by omega
  rw [if_neg h1, if_neg h1']
  by_cases h2 : n < 1 ∨ 1048576 < n
  · rw [if_pos h2, if_pos h2]; exact ⟨rfl, rfl, h⟩
  rw [if_neg h2, if_neg h2]
  rcases hs : stGet st k with _ | s
  · dsimp only
    have hp := h.none_ hs
    by_cases h3 : 64 ≤ st.length
    · rw [if_pos h3, if_pos ⟨by rw [hp]; decide, by have := h.cnt; omega⟩]; exact ⟨rfl, rfl, h⟩
    · rw [if_neg h3, if_neg (fun hh => h3 (by have := h.cnt; omega))]
      have ha := h.add hs
      have hi : r.names.length < (r.names ++ [k]).length := by simp
      have e1 : addRb r k = ⟨r.names ++ [k], r.sizes ++ [0], r.L⟩ := by unfold addRb; rw [if_pos (by rw [hp]; decide)]
      have e2 : atRb r k = ((r.names.length : Nat) : Int) := by unfold atRb; rw [if_pos (by rw [hp]; decide)]
      obtain ⟨s, g1, g2, g3, g4⟩ := ha.at_ _ hi
      have hkn : (r.names ++ [k])[r.names.length] = k := by simp
      have g1' : stGet (stIns (k, zeroP) st) k = some s := (congrArg (stGet _) hkn).symm.trans g1
      rw [stGet_ins hs, if_pos rfl] at g1'
      injection g1' with g1'
      subst g1'
      have := ha.serve hi (size := n) g4 g3 (fun j _ => ⟨rfl, rfl⟩) ha.in_
      rw [e1, e2]
      obtain ⟨q1, q2⟩ := this
      have hnk : (⟨r.names ++ [k], r.sizes ++ [0], r.L⟩ : Rb).names[r.names.length] = k := hkn
      rw [hnk, bkPut_ins hs] at q1
      exact ⟨rfl, q2, q1⟩
  · dsimp only
    obtain ⟨i, hi, e, hk, hz, hl, hp⟩ := h.some_ hs
    rw [if_neg (by rw [e]; omega)]
    have e1 : addRb r k = r := by unfold addRb; rw [if_neg (by rw [e]; omega)]
    have e2 : atRb r k = (i : Int) := by unfold atRb; rw [if_neg (by rw [e]; omega)]; exact e
    obtain ⟨q1, q2⟩ := h.serve hi (size := n) hp hl (fun j _ => ⟨rfl, rfl⟩) h.in_
    rw [e1, e2]
    rw [hk] at q1
    exact ⟨rfl, q2, q1⟩
end Go.Proofs.Ytaikjobebbighaa
namespace Go.Proofs.Ytaikjobebbighaa
set_option linter.unusedVariables false
theorem mem_holdE {L : List En} {i : Int} {p : Pl} : p ∈ holdE L i ↔ ∃ y ∈ L, (y.pool = i ∧ y.holds = true) ∧ y.pl = p := by
  unfold holdE
  rw [List.mem_map]
  constructor
  · rintro ⟨y, hy, e⟩
    rw [List.mem_filter] at hy
    exact ⟨y, hy.1, by simpa using hy.2, e⟩
  · rintro ⟨y, hy, h, e⟩
    exact ⟨y, List.mem_filter.2 ⟨hy, by simpa using h⟩, e⟩
theorem mem_lineE {L : List En} {i : Int} {p : Pl} : p ∈ lineE L i ↔ ∃ y ∈ L, (y.pool = i ∧ y.holds = false) ∧ y.pl = p := by
  unfold lineE
  rw [List.mem_map]
  constructor
  · rintro ⟨y, hy, e⟩
    rw [List.mem_filter] at hy
    exact ⟨y, hy.1, by simpa using hy.2, e⟩
  · rintro ⟨y, hy, h, e⟩
    exact ⟨y, List.mem_filter.2 ⟨hy, by simpa using h⟩, e⟩
theorem find_neg {L : List En} {i : Nat} {s : Pst} (hl : s.l = lineE L i) (hp : s.h.Perm (holdE L i)) (t : Int) : findN L i t 0 < 0 ↔ placeV s.h t < 0 ∧ placeV s.l t < 0 := by
  rw [placeV_neg, placeV_neg]
  rcases findN_is i t L 0 with ⟨e, h⟩ | ⟨q, hq, e, h1, h2⟩
  · rw [e]
    refine ⟨fun _ => ⟨fun x hx ht => ?_, fun x hx ht => ?_⟩, fun _ => by decide⟩
    · obtain ⟨y, hy, h3, rfl⟩ := mem_holdE.1 (hp.mem_iff.1 hx)
      exact h y hy ⟨h3.1, ht⟩
    · rw [hl] at hx
      obtain ⟨y, hy, h3, rfl⟩ := mem_lineE.1 hx
      exact h y hy ⟨h3.1, ht⟩
  · rw [e]
    refine ⟨fun hh => absurd hh (by omega), fun ⟨g1, g2⟩ => ?_⟩
    exfalso
    rcases hb : L[q].holds with _ | _
    · exact g2 L[q].pl (by rw [hl]; exact mem_lineE.2 ⟨_, List.getElem_mem hq, ⟨h1, hb⟩, rfl⟩) h2
    · exact g1 L[q].pl (hp.mem_iff.2 (mem_holdE.2 ⟨_, List.getElem_mem hq, ⟨h1, hb⟩, rfl⟩)) h2
theorem serveE_last (size i : Int) (e : En) (he : e.pool = i ∧ e.holds = false) : ∀ (T pre : List En), ∃ A e', (serveE size i pre (T ++ [e])).1 = A ++ [e'] ∧ ((e'.holds = false ∧ lineE (serveE size i pre (T ++ [e])).1 i ≠ []) ∨ (e'.holds = true ∧ lineE (serveE size i pre (T ++ [e])).1 i = []))
  | [], pre => by
    rw [List.nil_append]
    unfold serveE
    rw [if_pos he]
    split
    · exact ⟨[], e, rfl, .inl ⟨he.2, by rw [lineE_cons, if_pos he]; simp⟩⟩
    · exact ⟨[], e.held, rfl, .inr ⟨rfl, by show lineE (e.held :: []) i = []; rw [lineE_cons, if_neg (by simp)]; rfl⟩⟩
  | x :: t, pre => by
    rw [List.cons_append]
    unfold serveE
    split
    · rename_i hx
      split
      · exact ⟨x :: t, e, rfl, .inl ⟨he.2, by rw [lineE_cons, if_pos hx]; simp⟩⟩
      · obtain ⟨A, e', h1, h2⟩ := serveE_last size i e he t (pre ++ [x.held])
        refine ⟨x.held :: A, e', by show x.held :: _ = _; rw [h1]; rfl, ?_⟩
        rw [lineE_cons, if_neg (by simp)]
        exact h2
    · rename_i hx
      obtain ⟨A, e', h1, h2⟩ := serveE_last size i e he t (pre ++ [x])
      refine ⟨x :: A, e', by show x :: _ = _; rw [h1]; rfl, ?_⟩
      rw [lineE_cons, if_neg hx]
      exact h2
theorem set_self {l : List Int} {i : Nat} {v : Int} (h : l[i]? = some v) : l.set i v = l := by
  obtain ⟨hi, e⟩ := List.getElem?_eq_some_iff.1 h
  rw [← e]
  exact List.set_getElem_self hi
theorem lastHolds_app (A : List En) (e : En) : lastHolds (A ++ [e]) = e.holds := by unfold lastHolds; simp
/-- Ask: alike. -/
theorem Rel.ask {st : Bk} {r : Rb} (h : Rel st r) {n : Nat} (ok : BkOk n st) (k : Key) (x : Pl) : (askB st k x).2.2 = (askRb r k x).2.2 ∧ (askB st k x).2.1 = (askRb r k x).2.1 ∧ Rel (askB st k x).1 (askRb r k x).1 := by
  unfold askB askRb
  rcases hs : stGet st k with _ | s
  · dsimp only
    rw [if_pos (by rw [h.none_ hs]; decide)]
    exact ⟨rfl, rfl, h⟩
  · dsimp only
    obtain ⟨i, hi, e, hk, hz, hl, hp⟩ := h.some_ hs
    have hg := (ok k s hs).good
    have hsz := sizeP_at (r := r) hz
    rw [e, if_neg (by omega), hsz]
    unfold askR
    by_cases c1 : x.1 = 0 ∨ x.2 < 1 ∨ s.size < x.2
    · rw [if_pos c1, if_pos c1, bkPut_same hs]; exact ⟨rfl, rfl, h⟩
    rw [if_neg c1, if_neg c1]
    have hf := find_neg hl hp x.1
    by_cases c2 : 0 ≤ placeV s.h x.1 ∨ 0 ≤ placeV s.l x.1
    · have c2' : 0 ≤ findN r.L i x.1 0 := by
        by_cases c3 : findN r.L i x.1 0 < 0
        · have := hf.1 c3; omega
        · omega
      rw [if_pos c2, if_pos c2', bkPut_same hs]; exact ⟨rfl, rfl, h⟩
    have c2' : ¬ 0 ≤ findN r.L i x.1 0 := fun hh => by
      have := hf.2 (by omega)
      omega
    rw [if_neg c2, if_neg c2']
    by_cases c3 : 1024 ≤ s.l.length
    · have c3' : 1023 < (lineE r.L i).length := by rw [← hl]; omega
      rw [if_pos c3, if_pos c3', bkPut_same hs]; exact ⟨rfl, rfl, h⟩
    have c3' : ¬ 1023 < (lineE r.L i).length := by rw [← hl]; omega
    rw [if_neg c3, if_neg c3']
    obtain ⟨en, hen⟩ : ∃ en : En, en = ⟨(i : Int), x.1, x.2, false⟩ := ⟨_, rfl⟩
    have hpl : en.pl = x := by rw [hen]
    have hew : en.pool = (i : Int) ∧ en.holds = false := by rw [hen]; exact ⟨rfl, rfl⟩
    have hl2 : s.l ++ [x] = lineE (r.L ++ [en]) i := by rw [lineE_append, lineE_cons, if_pos hew, hl, hpl]; rfl
    have hp2 : s.h.Perm (holdE (r.L ++ [en]) i) := by rw [holdE_append, holdE_cons, if_neg (by rw [hew.2]; simp), holdE_nil, List.append_nil]; exact hp
    obtain ⟨q1, q2⟩ := h.serve hi (size := s.size) (L2 := r.L ++ [en]) hp2 hl2 (fun j hj => by
      rw [lineE_append, lineE_cons, if_neg (by rw [hew.1]; rintro ⟨e1, _⟩; omega), holdE_append, holdE_cons, if_neg (by rw [hew.1]; rintro ⟨e1, _⟩; omega), lineE_nil, holdE_nil, List.append_nil, List.append_nil]
      exact ⟨rfl, rfl⟩) (fun y hy => by
      rcases List.mem_append.1 hy with hy | hy
      · exact h.in_ y hy
      · rw [List.mem_singleton] at hy; rw [hy, hew.1]; omega)
    rw [set_self hz, hk] at q1
    have hsz2 : sizeP ⟨r.names, r.sizes, r.L ++ [en]⟩ i = s.size := sizeP_at hz
    obtain ⟨k1, k2, k3⟩ := serveE_rel s.size i (r.L ++ [en]) [] s.h hp2 rfl
    rw [← hl2] at k1 k2 k3
    obtain ⟨A, e', g1, g2⟩ := serveE_last s.size i en hew r.L []
    refine ⟨rfl, ?_, ?_⟩
    · show decide _ = lastHolds (serveRb ⟨r.names, r.sizes, r.L ++ [⟨(i : Int), x.1, x.2, false⟩]⟩ i).L
      rw [← hen]
      unfold serveRb
      rw [hsz2]
      show decide _ = lastHolds (serveE s.size i [] (r.L ++ [en])).1
      rw [g1, lastHolds_app]
      rw [List.nil_append] at k2
      rcases g2 with ⟨b1, b2⟩ | ⟨b1, b2⟩
      · rw [b1]
        rw [← k2] at b2
        apply decide_eq_false
        rcases hsl : s.l with _ | ⟨y, tl⟩
        · rw [hsl] at b2
          by_cases hx : x.2 ≤ leftI s.size s.h
          · exact absurd (by rw [List.nil_append, servesF_yes hx]; rfl) b2
          · rw [List.nil_append, servesF_no hx]; simp
        · rw [← hsl, servesF_snoc x (by rw [hsl]; simp) hg.head]; simp
      · rw [b1]
        rw [← k2] at b2
        apply decide_eq_true
        have := congrArg List.length (servesF_line (size := s.size) (s.l ++ [x]) s.h)
        rw [b2] at this
        simp at this
        omega
    · rw [hen] at q1
      exact q1
theorem rising_inj {l : List Pl} (h : Rising l) {y z : Pl} (hy : y ∈ l) (hz : z ∈ l) (e : y.1 = z.1) : y = z := by
  obtain ⟨a, ha, rfl⟩ := List.getElem_of_mem hy
  obtain ⟨b, hb, rfl⟩ := List.getElem_of_mem hz
  have hp := List.pairwise_iff_getElem.1 h
  rcases Nat.lt_trichotomy a b with h1 | h1 | h1
  · have := hp a b ha hb h1; omega
  · subst h1; rfl
  · have := hp b a hb ha h1; omega
theorem wo1_perm {l : List Pl} {i : Nat} (hi : i < l.length) : (l[i] :: wo1 l i).Perm l := by
  have e : l = l.take i ++ l[i] :: l.drop (i + 1) := by rw [← List.drop_eq_getElem_cons hi, List.take_append_drop]
  unfold wo1
  conv => rhs; rw [e]
  exact List.perm_middle.symm
theorem wo1_mid (A B : List Pl) (y : Pl) : wo1 (A ++ y :: B) A.length = A ++ B := by unfold wo1; simp
/-- Free: alike. -/
theorem Rel.free {st : Bk} {r : Rb} (h : Rel st r) {n : Nat} (ok : BkOk n st) (k : Key) (t : Int) : (freeB st k t).2.2 = (freeRb r k t).2.2 ∧ (freeB st k t).2.1.map (·.1) = (freeRb r k t).2.1 ∧ Rel (freeB st k t).1 (freeRb r k t).1 := by
  unfold freeB freeRb
  rcases hs : stGet st k with _ | s
  · dsimp only
    rw [if_pos (.inl (by rw [h.none_ hs]; decide))]
    exact ⟨rfl, rfl, h⟩
  · dsimp only
    obtain ⟨i, hi, e, hk, hz, hl, hp⟩ := h.some_ hs
    have hg := (ok k s hs).good
    have hf := find_neg hl hp t
    rw [e]
    unfold freeR
    rcases findN_is i t r.L 0 with ⟨e0, h0⟩ | ⟨q, hq, e0, h1, h2⟩
    · have hn := hf.1 (by rw [e0]; decide)
      rw [if_neg (by omega), if_neg (by omega), if_pos (.inr (by rw [e0]; decide)), bkPut_same hs]
      exact ⟨rfl, rfl, h⟩
    · rw [Nat.zero_add] at e0
      rw [e0, if_neg (by omega : ¬ ((i : Int) < 0 ∨ (q : Int) < 0)), Int.toNat_natCast]
      have hL : r.L = r.L.take q ++ r.L[q] :: r.L.drop (q + 1) := by rw [← List.drop_eq_getElem_cons hq, List.take_append_drop]
      have hin : ∀ y ∈ r.L.take q ++ r.L.drop (q + 1), 0 ≤ y.pool ∧ y.pool < r.names.length := fun y hy => h.in_ y (by
        rcases List.mem_append.1 hy with hy | hy
        · exact List.mem_of_mem_take hy
        · exact List.mem_of_mem_drop hy)
      have hother : ∀ j : Nat, j ≠ i → lineE (r.L.take q ++ r.L.drop (q + 1)) j = lineE r.L j ∧ holdE (r.L.take q ++ r.L.drop (q + 1)) j = holdE r.L j := fun j hj => by
        conv => enter [1, 2]; rw [hL]
        conv => enter [2, 2]; rw [hL]
        rw [lineE_append, lineE_append, lineE_cons, if_neg (by rw [h1]; rintro ⟨e1, _⟩; omega), holdE_append, holdE_append, holdE_cons, if_neg (by rw [h1]; rintro ⟨e1, _⟩; omega)]
        exact ⟨rfl, rfl⟩
      rcases hb : r.L[q].holds with _ | _
      · -- it waits
        have hlq : lineE r.L i = lineE (r.L.take q) i ++ r.L[q].pl :: lineE (r.L.drop (q + 1)) i := by
          conv => lhs; rw [hL]
          rw [lineE_append, lineE_cons, if_pos ⟨h1, hb⟩]
        have hmem : r.L[q].pl ∈ s.l := by rw [hl, hlq]; simp
        have hno : placeV s.h t < 0 := placeV_neg.2 fun y hy => by
          have := hg.ok.apart _ hmem y hy
          rw [← h2]; exact this
        have hyes : 0 ≤ placeV s.l t := by
          by_cases c : placeV s.l t < 0
          · exact absurd h2 (placeV_neg.1 c _ hmem)
          · omega
        rw [if_neg (by omega), if_pos hyes]
        have hpos : (placeV s.l t).toNat = (lineE (r.L.take q) i).length := by
          rcases placeV_is s.l t with ⟨e1, _⟩ | ⟨b, hb2, e1, e2, _⟩
          · omega
          · rw [e1, Int.toNat_natCast]
            have hlen : (lineE (r.L.take q) i).length < s.l.length := by rw [hl, hlq, List.length_append, List.length_cons]; omega
            have e3 : (s.l[(lineE (r.L.take q) i).length]'hlen).1 = t := by
              have : s.l[(lineE (r.L.take q) i).length]? = some r.L[q].pl := by rw [hl, hlq, List.getElem?_append_right (Nat.le_refl _), Nat.sub_self]; rfl
              rw [List.getElem?_eq_getElem hlen] at this
              injection this with this
              rw [this]; exact h2
            have hd := List.pairwise_iff_getElem.1 hg.ok.dist
            rcases Nat.lt_trichotomy b (lineE (r.L.take q) i).length with c | c | c
            · exact absurd (e2.trans e3.symm) (hd b _ hb2 hlen c)
            · exact c
            · exact absurd (e3.trans e2.symm) (hd _ b hlen hb2 c)
        have hl2 : wo1 s.l (placeV s.l t).toNat = lineE (r.L.take q ++ r.L.drop (q + 1)) i := by
          rw [hpos, hl, hlq, wo1_mid, lineE_append]
        have hp2 : s.h.Perm (holdE (r.L.take q ++ r.L.drop (q + 1)) i) := by
          rw [hL, holdE_append, holdE_cons, if_neg (by rw [hb]; simp)] at hp
          rw [holdE_append]
          exact hp
        obtain ⟨q1, q2⟩ := h.serve hi (size := s.size) hp2 hl2 hother hin
        rw [set_self hz] at q1 q2
        rw [hk] at q1
        exact ⟨rfl, q2, q1⟩
      · -- it holds
        have hmem : r.L[q].pl ∈ s.h := hp.mem_iff.2 (mem_holdE.2 ⟨_, List.getElem_mem hq, ⟨h1, hb⟩, rfl⟩)
        have hyes : 0 ≤ placeV s.h t := by
          by_cases c : placeV s.h t < 0
          · exact absurd h2 (placeV_neg.1 c _ hmem)
          · omega
        rw [if_pos hyes]
        obtain ⟨a, ha, e1, e2⟩ : ∃ (a : Nat) (ha : a < s.h.length), (placeV s.h t).toNat = a ∧ s.h[a].1 = t := by
          rcases placeV_is s.h t with ⟨e1, _⟩ | ⟨a, ha, e1, e2, _⟩
          · omega
          · exact ⟨a, ha, by rw [e1, Int.toNat_natCast], e2⟩
        rw [e1]
        have heq : s.h[a] = r.L[q].pl := rising_inj hg.ok.rise (List.getElem_mem ha) hmem (e2.trans h2.symm)
        have hp2 : (wo1 s.h a).Perm (holdE (r.L.take q ++ r.L.drop (q + 1)) i) := by
          have p1 : (r.L[q].pl :: wo1 s.h a).Perm (holdE r.L i) := by rw [← heq]; exact (wo1_perm ha).trans hp
          have p2 : (holdE r.L i).Perm (r.L[q].pl :: holdE (r.L.take q ++ r.L.drop (q + 1)) i) := by
            conv => lhs; rw [hL]
            rw [holdE_append, holdE_cons, if_pos ⟨h1, hb⟩, holdE_append]
            exact List.perm_middle
          exact (p1.trans p2).cons_inv
        have hl2 : s.l = lineE (r.L.take q ++ r.L.drop (q + 1)) i := by
          rw [hl]
          conv => lhs; rw [hL]
          rw [lineE_append, lineE_cons, if_neg (by rw [hb]; simp), lineE_append]
        obtain ⟨q1, q2⟩ := h.serve hi (size := s.size) hp2 hl2 hother hin
        rw [set_self hz] at q1 q2
        rw [hk] at q1
        exact ⟨rfl, q2, q1⟩
end Go.Proofs.Ytaikjobebbighaa
