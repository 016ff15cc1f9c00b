/- Slots: the plain model of set, ask, free, at a pool and at a book. No program. -/
import Derived.Test.YtaikjobebbighaaMe
import Derived.Test.YtaikjobebbighaaSlH
namespace Go.Proofs.Ytaikjobebbighaa
set_option linter.unusedVariables false
/-- Free at a pool: the pool then, who is served, an error's number. -/
def freeR (s : Pst) (t : Int) : Pst × List Pl × Int :=
  if 0 ≤ placeV s.h t then (serveP s.size (wo1 s.h (placeV s.h t).toNat) s.l, (servesF s.size (wo1 s.h (placeV s.h t).toNat) s.l).2.2, 0)
  else if 0 ≤ placeV s.l t then (serveP s.size s.h (wo1 s.l (placeV s.l t).toNat), (servesF s.size s.h (wo1 s.l (placeV s.l t).toNat)).2.2, 0)
  else (s, [], 5)
def askR (s : Pst) (x : Pl) : Pst × Bool × Int :=
  if x.1 = 0 ∨ x.2 < 1 ∨ s.size < x.2 then (s, false, 2)
  else if 0 ≤ placeV s.h x.1 ∨ 0 ≤ placeV s.l x.1 then (s, false, 130)
  else if 1024 ≤ s.l.length then (s, false, 6)
  else (serveP s.size s.h (s.l ++ [x]), decide (0 < (servesF s.size s.h (s.l ++ [x])).2.2.length), 0)
def setR (s : Pst) (n : Int) : Pst × List Pl := (serveP n s.h s.l, (servesF n s.h s.l).2.2)
/-- A pool of at most so many. -/
structure Has (n : Nat) (s : Pst) : Prop where
  good : Good s
  few : s.h.length + s.l.length ≤ n
theorem Has.mono {n m : Nat} {s : Pst} (h : Has n s) (hm : n ≤ m) : Has m s := ⟨h.1, Nat.le_trans h.2 hm⟩
theorem servesF_len (size : Int) (h l : List Pl) : (servesF size h l).1.length + (servesF size h l).2.1.length = h.length + l.length := by
  have h1 := (servesF_perm (size := size) l h).length_eq
  have h2 := congrArg List.length (servesF_line (size := size) l h)
  rw [List.length_append] at h1 h2
  omega
theorem serveP_has {n : Nat} {size : Int} {h l : List Pl} (k : PoolOk size h l) (hn : h.length + l.length ≤ n) : Has n (serveP size h l) :=
  ⟨serveP_good k, by show (servesF size h l).1.length + (servesF size h l).2.1.length ≤ n; rw [servesF_len]; exact hn⟩
theorem freeR_has {n : Nat} {s : Pst} (h : Has n s) (t : Int) : Has n (freeR s t).1 := by
  unfold freeR
  split
  · exact serveP_has (h.good.ok.less (wo1_sub _ _) (List.Sublist.refl _)) (by have := (wo1_sub s.h (placeV s.h t).toNat).length_le; have := h.few; omega)
  · split
    · exact serveP_has (h.good.ok.less (List.Sublist.refl _) (wo1_sub _ _)) (by have := (wo1_sub s.l (placeV s.l t).toNat).length_le; have := h.few; omega)
    · exact h
theorem askR_has {n : Nat} {s : Pst} (h : Has n s) (hn : n + 1 ≤ 100000) (x : Pl) : Has (n + 1) (askR s x).1 := by
  unfold askR
  split
  · exact h.mono (by omega)
  split
  · exact h.mono (by omega)
  split
  · exact h.mono (by omega)
  · rename_i h1 h2 h3
    have hf := h.few
    refine serveP_has (h.good.ok.ask (by omega) (placeV_neg.1 (by omega)) (placeV_neg.1 (by omega)) (by omega) (by omega)) ?_
    rw [List.length_append, List.length_singleton]
    omega
theorem setR_has {n : Nat} {s : Pst} (h : Has n s) {N : Int} (h1 : 1 ≤ N) (h2 : N ≤ 1048576) : Has n (setR s N).1 := serveP_has (h.good.ok.resize (by omega) h2) h.few
def zeroP : Pst := ⟨0, [], []⟩
theorem zeroP_ok {n : Int} (h0 : 0 ≤ n) (h1 : n ≤ 1048576) : PoolOk n [] [] := ⟨List.Pairwise.nil, by simp, List.Pairwise.nil, by simp, by simp, by simp, h0, h1⟩
theorem zeroP_has (n : Nat) {N : Int} (h0 : 0 ≤ N) (h1 : N ≤ 1048576) : Has n ⟨N, [], []⟩ := ⟨⟨zeroP_ok h0 h1, fun x t e => by cases e⟩, by simp⟩
/-- A name's pool. -/
def stGet : Bk → Key → Option Pst
  | q :: st, k => if q.1 == k then some q.2 else stGet st k
  | [], _ => none
abbrev getZ (st : Bk) (k : Key) : Pst := (stGet st k).getD zeroP
theorem bkGet_st {k : Key} {s : Pst} {y : Wh} : ∀ {st : Bk} {ys : List Wh}, bkGet st ys k = some (s, y) → stGet st k = some s
  | q :: st, z :: ys, h => by
    unfold bkGet at h
    unfold stGet
    split at h
    · rename_i hk
      injection h with h; injection h with h _; subst h
      rw [if_pos hk]
    · rename_i hk
      rw [if_neg hk]; exact bkGet_st h
  | [], _, h => by simp [bkGet] at h
  | _ :: _, [], h => by simp [bkGet] at h
theorem bkGet_none {k : Key} {st : Bk} {ys : List Wh} (h : stGet st k = none) : bkGet st ys k = none := by
  rcases e : bkGet st ys k with _ | ⟨s, y⟩
  · rfl
  · rw [bkGet_st e] at h; cases h
theorem BEnt.some_ {w : World} {k : Key} {s : Pst} : ∀ {es : List (Lit × DataW Value)} {st : Bk} {ys : List Wh}, BEnt w es st ys → stGet st k = some s → ∃ y, bkGet st ys k = some (s, y)
  | e :: es, q :: st, y :: ys, ⟨h1, h2, h3, h4⟩, h => by
    unfold stGet at h
    unfold bkGet
    split at h
    · rename_i hk
      injection h with h; subst h
      exact ⟨y, if_pos hk⟩
    · rename_i hk
      obtain ⟨z, hz⟩ := BEnt.some_ h4 h
      exact ⟨z, by rw [if_neg hk]; exact hz⟩
  | [], [], [], _, h => by simp [stGet] at h
  | [], _ :: _, _, h, _ => h.elim
  | [], [], _ :: _, h, _ => h.elim
  | _ :: _, [], _, h, _ => h.elim
  | _ :: _, _ :: _, [], h, _ => h.elim
theorem BkAt.some_ {w : World} {g b : Nat} {st : Bk} {ys : List Wh} (h : BkAt w g b st ys) {k : Key} {s : Pst} (hs : stGet st k = some s) : ∃ y, bkGet st ys k = some (s, y) := by
  obtain ⟨es, -, he⟩ := h.map
  exact he.some_ hs
theorem bkPut_same {k : Key} {s : Pst} : ∀ {st : Bk}, stGet st k = some s → bkPut st k s = st
  | q :: st, h => by
    unfold stGet at h
    unfold bkPut
    split at h
    · rename_i hk
      injection h with h; subst h
      rw [if_pos hk]
    · rename_i hk
      rw [if_neg hk, bkPut_same h]
  | [], h => by simp [stGet] at h
theorem whPut_same {k : Key} {s : Pst} {y : Wh} : ∀ {st : Bk} {ys : List Wh}, bkGet st ys k = some (s, y) → whPut st ys k y = ys
  | q :: st, z :: ys, h => by
    unfold bkGet at h
    unfold whPut
    split at h
    · rename_i hk
      injection h with h; injection h with _ h; subst h
      rw [if_pos hk]
    · rename_i hk
      rw [if_neg hk, whPut_same h]
  | [], _, h => by simp [bkGet] at h
  | _ :: _, [], h => by simp [bkGet] at h
theorem stGet_put {k : Key} {s s' : Pst} : ∀ {st : Bk}, stGet st k = some s → ∀ j, stGet (bkPut st k s') j = if j = k then some s' else stGet st j
  | q :: st, h, j => by
    unfold stGet at h
    unfold bkPut
    split at h
    · rename_i hk
      rw [if_pos hk]
      have hk : q.1 = k := by simpa using hk
      simp only [stGet]
      by_cases hj : j = k
      · subst hj; rw [if_pos (by simp [hk]), if_pos rfl]
      · rw [if_neg (by simp [hk]; exact fun e => hj e.symm), if_neg hj, if_neg (by simp [hk]; exact fun e => hj e.symm)]
    · rename_i hk
      rw [if_neg hk]
      simp only [stGet]
      rw [stGet_put h j]
      by_cases hj : j = k
      · subst hj; rw [if_neg hk, if_pos rfl, if_pos rfl]
      · rw [if_neg hj, if_neg hj]
  | [], h, j => by simp [stGet] at h
theorem bkPut_len {k : Key} {s' : Pst} : ∀ (st : Bk), (bkPut st k s').length = st.length
  | q :: st => by
    unfold bkPut
    split
    · rfl
    · simp [bkPut_len st]
  | [] => rfl
/-- A book whose pools have at most so many. -/
def BkOk (n : Nat) (st : Bk) : Prop := ∀ k s, stGet st k = some s → Has n s
theorem BkOk.nil (n : Nat) : BkOk n [] := fun k s h => by simp [stGet] at h
theorem BkOk.mono {n m : Nat} {st : Bk} (h : BkOk n st) (hm : n ≤ m) : BkOk m st := fun k s hs => (h k s hs).mono hm
theorem BkOk.put {n : Nat} {st : Bk} {k : Key} {s s' : Pst} (h : BkOk n st) (hs : stGet st k = some s) (h' : Has n s') : BkOk n (bkPut st k s') := fun j u hu => by
  rw [stGet_put hs] at hu
  split at hu
  · injection hu with hu; subst hu; exact h'
  · exact h j u hu
/-- A new pool, at its name's place. -/
def stIns (q : Key × Pst) : Bk → Bk
  | [] => [q]
  | p :: st => if bytesBefore q.1 p.1 = true then q :: p :: st else p :: stIns q st
def whIns (k : Key) (y : Wh) : Bk → List Wh → List Wh
  | p :: st, z :: ys => if bytesBefore k p.1 = true then y :: z :: ys else z :: whIns k y st ys
  | _, ys => y :: ys
theorem stIns_perm (q : Key × Pst) : ∀ (st : Bk), (stIns q st).Perm (q :: st)
  | [] => List.Perm.refl _
  | p :: st => by
    unfold stIns
    split
    · exact List.Perm.refl _
    · exact ((stIns_perm q st).cons p).trans (List.Perm.swap q p st)
theorem stIns_len (q : Key × Pst) (st : Bk) : (stIns q st).length = st.length + 1 := (stIns_perm q st).length_eq
theorem whIns_perm (k : Key) (y : Wh) : ∀ (st : Bk) (ys : List Wh), (whIns k y st ys).Perm (y :: ys)
  | p :: st, z :: ys => by
    unfold whIns
    split
    · exact List.Perm.refl _
    · exact ((whIns_perm k y st ys).cons z).trans (List.Perm.swap y z ys)
  | [], [] => List.Perm.refl _
  | [], _ :: _ => List.Perm.refl _
  | _ :: _, [] => List.Perm.refl _
theorem stGet_ins {k j : Key} {s : Pst} : ∀ {st : Bk}, stGet st k = none → stGet (stIns (k, s) st) j = if j = k then some s else stGet st j
  | q :: st, h => by
    have h' := h
    unfold stGet at h
    split at h
    · cases h
    · rename_i hk
      unfold stIns
      split
      · simp only [stGet]
        by_cases hj : j = k
        · subst hj; rw [if_pos (by simp), if_pos rfl]
        · rw [if_neg (by simp; exact fun e => hj e.symm), if_neg hj]
      · simp only [stGet]
        by_cases hj : j = k
        · subst hj; rw [if_neg hk, if_pos rfl, stGet_ins h, if_pos rfl]
        · rw [stGet_ins h, if_neg hj, if_neg hj]
  | [], h => by
    simp only [stIns, stGet]
    by_cases hj : j = k
    · subst hj; simp
    · rw [if_neg hj, if_neg (by simp; exact fun e => hj e.symm)]
theorem bkGet_ins {k : Key} {s : Pst} {y : Wh} : ∀ {st : Bk} {ys : List Wh}, st.length = ys.length → stGet st k = none → bkGet (stIns (k, s) st) (whIns k y st ys) k = some (s, y)
  | q :: st, z :: ys, hl, h => by
    unfold stGet at h
    split at h
    · cases h
    · rename_i hk
      unfold stIns whIns
      split
      · simp [bkGet]
      · simp only [bkGet]
        rw [if_neg hk]
        exact bkGet_ins (by simpa using hl) h
  | [], [], _, _ => by simp [stIns, whIns, bkGet]
  | [], _ :: _, hl, _ => by simp at hl
  | _ :: _, [], hl, _ => by simp at hl
theorem bkPut_ins {k : Key} {s s' : Pst} : ∀ {st : Bk}, stGet st k = none → bkPut (stIns (k, s) st) k s' = stIns (k, s') st
  | q :: st, h => by
    unfold stGet at h
    split at h
    · cases h
    · rename_i hk
      unfold stIns
      split
      · simp [bkPut]
      · simp only [bkPut]
        rw [if_neg hk, bkPut_ins h]
  | [], h => by simp [stIns, bkPut]
theorem BEnt.len {w : World} : ∀ {es : List (Lit × DataW Value)} {st : Bk} {ys : List Wh}, BEnt w es st ys → st.length = ys.length ∧ es.length = st.length
  | e :: es, q :: st, y :: ys, ⟨h1, h2, h3, h4⟩ => by have := BEnt.len h4; simp; omega
  | [], [], [], _ => ⟨rfl, rfl⟩
  | [], _ :: _, _, h => h.elim
  | [], [], _ :: _, h => h.elim
  | _ :: _, [], _, h => h.elim
  | _ :: _, _ :: _, [], h => h.elim
theorem BEnt.del {w : World} {k : Key} : ∀ {es : List (Lit × DataW Value)} {st : Bk} {ys : List Wh}, BEnt w es st ys → stGet st k = none → es.filter (fun p => !p.1.sameKey (.string k)) = es
  | e :: es, q :: st, y :: ys, ⟨h1, h2, h3, h4⟩, h => by
    unfold stGet at h
    split at h
    · cases h
    · rename_i hk
      have h5 := BEnt.del h4 h
      rw [List.filter_cons, if_pos (by rw [h1]; simpa [Lit.sameKey] using hk), h5]
  | [], [], [], _, _ => rfl
  | [], _ :: _, _, h, _ => h.elim
  | [], [], _ :: _, h, _ => h.elim
  | _ :: _, [], _, h, _ => h.elim
  | _ :: _, _ :: _, [], h, _ => h.elim
theorem BEnt.ins {w : World} (k : Key) {s : Pst} {y : Wh} (hp : PoolAt w y.p s.size s.h s.l y.A y.A') : ∀ {es : List (Lit × DataW Value)} {st : Bk} {ys : List Wh}, BEnt w es st ys → BEnt w (DataW.insert (.string k, .held (.pointer (some ⟨y.p, 0, none⟩))) es) (stIns (k, s) st) (whIns k y st ys)
  | e :: es, q :: st, z :: ys, ⟨h1, h2, h3, h4⟩ => by
    have h5 := BEnt.ins k hp h4
    have e1 : DataW.insert ((Lit.string k, DataW.held (.pointer (some ⟨y.p, 0, none⟩))) : Lit × DataW Value) (e :: es) = if (Lit.string k).before e.1 = true then (Lit.string k, DataW.held (.pointer (some ⟨y.p, 0, none⟩))) :: e :: es else e :: DataW.insert (Lit.string k, DataW.held (.pointer (some ⟨y.p, 0, none⟩))) es := rfl
    rw [e1, h1]
    unfold stIns whIns
    show BEnt w (if bytesBefore k q.1 = true then _ else _) _ _
    split
    · rename_i hb
      exact ⟨rfl, rfl, hp, h1, h2, h3, h4⟩
    · rename_i hb
      exact ⟨h1, h2, h3, h5⟩
  | [], [], [], _ => ⟨rfl, rfl, hp, trivial⟩
  | [], _ :: _, _, h => h.elim
  | [], [], _ :: _, h => h.elim
  | _ :: _, [], _, h => h.elim
  | _ :: _, _ :: _, [], h => h.elim
theorem BkOk.add {n : Nat} {st : Bk} {k : Key} {s : Pst} (h : BkOk n st) (hk : stGet st k = none) (h' : Has n s) : BkOk n (stIns (k, s) st) := fun j u hu => by
  rw [stGet_ins hk] at hu
  split at hu
  · injection hu with hu; subst hu; exact h'
  · exact h j u hu
def freeB (st : Bk) (k : Key) (t : Int) : Bk × List Pl × Int :=
  match stGet st k with
  | none => (st, [], 5)
  | some s => (bkPut st k (freeR s t).1, (freeR s t).2.1, (freeR s t).2.2)
def askB (st : Bk) (k : Key) (x : Pl) : Bk × Bool × Int :=
  match stGet st k with
  | none => (st, false, 5)
  | some s => (bkPut st k (askR s x).1, (askR s x).2.1, (askR s x).2.2)
def setB (st : Bk) (k : Key) (n : Int) : Bk × List Pl × Int :=
  if k.length = 0 ∨ 32 < k.length then (st, [], 140)
  else if n < 1 ∨ 1048576 < n then (st, [], 2)
  else match stGet st k with
    | none => if 64 ≤ st.length then (st, [], 6) else (stIns (k, ⟨n, [], []⟩) st, [], 0)
    | some s => (bkPut st k (setR s n).1, (setR s n).2, 0)
theorem freeB_ok {n : Nat} {st : Bk} (h : BkOk n st) (k : Key) (t : Int) : BkOk n (freeB st k t).1 := by
  unfold freeB
  split
  · exact h
  · rename_i s hs; exact h.put hs (freeR_has (h k s hs) t)
theorem askB_ok {n : Nat} {st : Bk} (h : BkOk n st) (hn : n + 1 ≤ 100000) (k : Key) (x : Pl) : BkOk (n + 1) (askB st k x).1 := by
  unfold askB
  split
  · exact h.mono (by omega)
  · rename_i s hs; exact (h.mono (by omega)).put hs (askR_has (h k s hs) hn x)
theorem setB_ok {n : Nat} {st : Bk} (h : BkOk n st) (k : Key) (N : Int) : BkOk n (setB st k N).1 := by
  unfold setB
  split
  · exact h
  split
  · exact h
  · rename_i h1 h2
    split
    · rename_i hs
      split
      · exact h
      · exact h.add hs (zeroP_has n (by omega) (by omega))
    · rename_i s hs
      exact h.put hs (setR_has (h k s hs) (by omega) (by omega))
end Go.Proofs.Ytaikjobebbighaa
