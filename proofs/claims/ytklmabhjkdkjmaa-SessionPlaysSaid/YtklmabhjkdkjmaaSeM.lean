/- Plain words on sessions: what was told last, by whom; what is asked, told; and what holds of these. -/
import Derived.KernelRfl
namespace Go.Proofs.Ytklmabhjkdkjmaa
set_option linter.unusedVariables false
/-- What a client was told last. -/
structure Tk where
  cl : Int
  sq : Int
  e : Int
  n : Int
deriving DecidableEq
/-- The clients. -/
def cls (L : List Tk) : List Int := L.map (·.cl)
/-- All but a client's. -/
def wo (L : List Tk) (c : Int) : List Tk := L.filter (fun t => decide (t.cl ≠ c))
/-- The newest sixteen. -/
def cut16 (L : List Tk) : List Tk := if 16 < L.length then L.drop 1 else L
def findT (L : List Tk) (c : Int) : Option Tk := L.find? (fun t => decide (t.cl = c))
/-- What is wrong with a question: 2: it may not be; 180: something later was asked. -/
def askE (L : List Tk) (c s : Int) : Int := if c = 0 ∨ s = 0 then 2 else match findT L c with
  | none => 0
  | some t => if s < t.sq then 180 else 0
/-- Is the answer known? -/
def askK (L : List Tk) (c s : Int) : Bool := if c = 0 ∨ s = 0 then false else match findT L c with
  | none => false
  | some t => decide (s = t.sq)
/-- The answer. -/
def askR (L : List Tk) (c s : Int) : Int × Int := if c = 0 ∨ s = 0 then (0, 0) else match findT L c with
  | none => (0, 0)
  | some t => if s = t.sq then (t.e, t.n) else (0, 0)
def tellE (L : List Tk) (c s : Int) : Int := if askE L c s ≠ 0 then askE L c s else if askK L c s = true then 180 else 0
def tellL (L : List Tk) (t : Tk) : List Tk := if tellE L t.cl t.sq = 0 then cut16 (wo L t.cl ++ [t]) else L
theorem findT_none {L : List Tk} {c : Int} : findT L c = none ↔ c ∉ cls L := by
  unfold findT cls
  rw [List.find?_eq_none]
  simp
theorem findT_some {L : List Tk} {c : Int} {t : Tk} (h : findT L c = some t) : t ∈ L ∧ t.cl = c := by
  unfold findT at h
  exact ⟨List.mem_of_find?_eq_some h, by simpa using List.find?_some h⟩
theorem findT_of {L : List Tk} (hn : (cls L).Nodup) {t : Tk} (h : t ∈ L) : findT L t.cl = some t := by
  induction L with
  | nil => simp at h
  | cons x L ih =>
    have h2 := List.nodup_cons.1 (show (x.cl :: cls L).Nodup from hn)
    unfold findT
    rw [List.find?_cons]
    by_cases e : x.cl = t.cl
    · rw [show decide (x.cl = t.cl) = true from decide_eq_true e]
      rcases List.mem_cons.1 h with rfl | h
      · rfl
      · exact absurd (by rw [e]; exact List.mem_map.2 ⟨t, h, rfl⟩) h2.1
    · rw [show decide (x.cl = t.cl) = false from decide_eq_false e]
      rcases List.mem_cons.1 h with rfl | h
      · exact absurd rfl e
      · exact ih h2.2 h
theorem wo_mem {L : List Tk} {c : Int} {t : Tk} : t ∈ wo L c ↔ t ∈ L ∧ t.cl ≠ c := by unfold wo; rw [List.mem_filter]; simp
theorem wo_none {L : List Tk} {c : Int} (h : c ∉ cls L) : wo L c = L := by
  unfold wo
  rw [List.filter_eq_self]
  intro t ht
  exact decide_eq_true fun e => h (List.mem_map.2 ⟨t, ht, e⟩)
theorem wo_cls (L : List Tk) (c : Int) : cls (wo L c) = (cls L).filter (fun x => decide (x ≠ c)) := by
  unfold cls wo
  rw [List.filter_map]
  rfl
theorem wo_nodup {L : List Tk} (h : (cls L).Nodup) (c s e n : Int) : (cls (wo L c ++ [⟨c, s, e, n⟩])).Nodup := by
  rw [cls, List.map_append]
  refine List.nodup_append.2 ⟨?_, by simp, fun a ha b hb e => ?_⟩
  · have := wo_cls L c
    rw [cls] at this
    rw [this]
    exact h.sublist List.filter_sublist
  · obtain ⟨t, ht, rfl⟩ := List.mem_map.1 ha
    simp at hb
    exact (wo_mem.1 ht).2 (e.trans hb)
theorem wo_nodup' {L : List Tk} (h : (cls L).Nodup) (t : Tk) : (cls (wo L t.cl ++ [t])).Nodup := wo_nodup h t.cl t.sq t.e t.n
theorem wo_len (L : List Tk) (c : Int) : (wo L c).length ≤ L.length := List.length_filter_le _ _
theorem cut16_len {L : List Tk} (h : L.length ≤ 17) : (cut16 L).length ≤ 16 := by
  unfold cut16
  split
  · rw [List.length_drop]; omega
  · omega
theorem cut16_sub (L : List Tk) : (cut16 L).Sublist L := by
  unfold cut16
  split
  · exact List.drop_sublist _ _
  · exact List.Sublist.refl _
/-- A clerk's sessions. -/
structure GoodT (L : List Tk) : Prop where
  once : (cls L).Nodup
  some_ : ∀ t ∈ L, t.cl ≠ 0 ∧ t.sq ≠ 0
  few : L.length ≤ 16
theorem GoodT.nil : GoodT [] := ⟨by simp [cls], by simp, by simp⟩
theorem tellE_zero {L : List Tk} {c s : Int} (h : tellE L c s = 0) : c ≠ 0 ∧ s ≠ 0 ∧ ∀ t, findT L c = some t → t.sq < s := by
  unfold tellE askE askK at h
  by_cases h0 : c = 0 ∨ s = 0
  · rw [if_pos h0] at h; simp at h
  · rw [if_neg h0, if_neg h0] at h
    refine ⟨fun e => h0 (.inl e), fun e => h0 (.inr e), fun t ht => ?_⟩
    rw [ht] at h
    simp only at h
    by_cases h1 : s < t.sq
    · rw [if_pos h1] at h; simp at h
    · rw [if_neg h1] at h
      by_cases h2 : s = t.sq
      · rw [if_neg (by simp), if_pos (by simpa using h2)] at h
        simp at h
      · omega
theorem tell_good {L : List Tk} (h : GoodT L) (t : Tk) : GoodT (tellL L t) := by
  unfold tellL
  split
  · rename_i hz
    have hw := wo_nodup' h.once t
    have hl := wo_len L t.cl
    have hf := h.few
    refine ⟨hw.sublist ((cut16_sub _).map _), fun x hx => ?_, cut16_len (by rw [List.length_append, List.length_singleton]; omega)⟩
    rcases List.mem_append.1 ((cut16_sub _).subset hx) with hx | hx
    · exact h.some_ x (wo_mem.1 hx).1
    · rw [List.mem_singleton] at hx
      subst hx
      have := tellE_zero hz
      exact ⟨this.1, this.2.1⟩
  · exact h
/-! ### the clerk of some sessions -/
/-- May they be a clerk's? -/
def okT (l : List Tk) : Prop := GoodT l
theorem tell_new {L : List Tk} {t : Tk} (h : t.cl ∉ cls L) : tellE L t.cl t.sq = if t.cl = 0 ∨ t.sq = 0 then 2 else 0 := by
  unfold tellE askE askK
  by_cases h0 : t.cl = 0 ∨ t.sq = 0
  · simp only [if_pos h0]
    rfl
  · rw [if_neg h0, if_neg h0, if_neg h0, findT_none.2 h]
    simp
theorem tell_snoc {L : List Tk} {t : Tk} (h : t.cl ∉ cls L) (h0 : t.cl ≠ 0 ∧ t.sq ≠ 0) (hl : L.length ≤ 15) : tellL L t = L ++ [t] := by
  have hz : tellE L t.cl t.sq = 0 := by rw [tell_new h, if_neg (fun h1 => h1.elim h0.1 h0.2)]
  unfold tellL
  rw [if_pos hz, wo_none h]
  unfold cut16
  rw [if_neg (by rw [List.length_append, List.length_singleton]; omega)]
/-! ### what was told -/
/-- The last answer of each client, in order. -/
def latest (T : List Tk) : List Tk := T.foldl (fun acc t => wo acc t.cl ++ [t]) []
theorem latest_snoc (T : List Tk) (t : Tk) : latest (T ++ [t]) = wo (latest T) t.cl ++ [t] := by unfold latest; rw [List.foldl_append]; rfl
theorem latest_nodup (T : List Tk) : (cls (latest T)).Nodup := by
  suffices h : ∀ (T acc : List Tk), (cls acc).Nodup → (cls (T.foldl (fun acc t => wo acc t.cl ++ [t]) acc)).Nodup from h T [] (by simp [cls])
  intro T
  induction T with
  | nil => intro acc h; exact h
  | cons t T ih => intro acc h; exact ih _ (wo_nodup' h t)
theorem rev_ind {P : List Tk → Prop} (h0 : P []) (h1 : ∀ T t, P T → P (T ++ [t])) (T : List Tk) : P T := by
  have : ∀ n (T : List Tk), T.length = n → P T := by
    intro n
    induction n with
    | zero => intro T hT; rw [List.length_eq_zero_iff.1 hT]; exact h0
    | succ n ih =>
      intro T hT
      have hne : T ≠ [] := fun e => by rw [e] at hT; simp at hT
      rw [← List.dropLast_concat_getLast hne]
      exact h1 _ _ (ih _ (by rw [List.length_dropLast]; omega))
  exact this _ T rfl
theorem latest_mem (T : List Tk) : ∀ c, c ∈ cls (latest T) ↔ c ∈ cls T := by
  refine rev_ind (P := fun T => ∀ c, c ∈ cls (latest T) ↔ c ∈ cls T) (by simp [latest]) (fun T t ih c => ?_) T
  rw [latest_snoc, cls, List.map_append, List.mem_append, cls, List.map_append, List.mem_append]
  have h1 : c ∈ (wo (latest T) t.cl).map (·.cl) ↔ c ∈ cls (latest T) ∧ c ≠ t.cl := by
    have := wo_cls (latest T) t.cl
    rw [cls] at this
    rw [this, List.mem_filter]
    simp
  rw [h1, ih c]
  constructor
  · rintro (⟨h, _⟩ | h)
    · exact .inl h
    · exact .inr h
  · rintro (h | h)
    · by_cases e : c = t.cl
      · exact .inr (by simp [e])
      · exact .inl ⟨h, e⟩
    · exact .inr h
/-- All but some clients'. -/
def woL (L S : List Tk) : List Tk := L.filter (fun t => decide (t.cl ∉ cls S))
theorem latest_append (A S : List Tk) : latest (A ++ S) = woL (latest A) S ++ latest S := by
  refine rev_ind (P := fun S => latest (A ++ S) = woL (latest A) S ++ latest S) ?_ (fun S t ih => ?_) S
  · rw [List.append_nil]
    unfold woL
    rw [List.filter_eq_self.2 (fun t _ => by simp [cls])]
    simp [latest]
  · rw [← List.append_assoc, latest_snoc, latest_snoc, ih]
    unfold wo woL
    rw [List.filter_append, List.filter_filter, List.append_assoc]
    congr 1
    apply List.filter_congr
    intro x _
    simp [cls]
    rw [Bool.eq_iff_iff]
    simp
    exact And.comm
/-- The newest sixteen, of however many. -/
def last16 (L : List Tk) : List Tk := L.drop (L.length - 16)
theorem last16_append (A Z : List Tk) (h : 16 ≤ Z.length) : last16 (A ++ Z) = last16 Z := by
  unfold last16
  rw [List.length_append, show A.length + Z.length - 16 = A.length + (Z.length - 16) by omega, List.drop_append]
  simp
theorem last16_cut {Z : List Tk} (h : Z.length ≤ 17) : last16 Z = cut16 Z := by
  unfold last16 cut16
  split
  · rw [show Z.length - 16 = 1 by omega]
  · rw [show Z.length - 16 = 0 by omega, List.drop_zero]
theorem wo_one {Y : List Tk} (hn : (cls Y).Nodup) {c : Int} (h : c ∈ cls Y) : (wo Y c).length + 1 = Y.length := by
  induction Y with
  | nil => simp [cls] at h
  | cons x Y ih =>
    have h2 := List.nodup_cons.1 (show (x.cl :: cls Y).Nodup from hn)
    by_cases e : x.cl = c
    · have : wo (x :: Y) c = wo Y c := by unfold wo; rw [List.filter_cons_of_neg (by simpa using e)]
      rw [this, wo_none (by rw [← e]; exact h2.1)]
      rfl
    · have : wo (x :: Y) c = x :: wo Y c := by unfold wo; rw [List.filter_cons_of_pos (by simpa using e)]
      rw [this, List.length_cons, List.length_cons]
      have := ih h2.2 (by
        rcases List.mem_cons.1 (show c ∈ x.cl :: cls Y from h) with h | h
        · exact absurd h.symm e
        · exact h)
      omega
theorem last16_step {X : List Tk} (hn : (cls X).Nodup) (t : Tk) : last16 (wo X t.cl ++ [t]) = cut16 (wo (last16 X) t.cl ++ [t]) := by
  have hX : X = X.take (X.length - 16) ++ last16 X := (List.take_append_drop _ _).symm
  obtain ⟨A, hA⟩ : ∃ A, X.take (X.length - 16) = A := ⟨_, rfl⟩
  obtain ⟨Y, hY⟩ : ∃ Y, last16 X = Y := ⟨_, rfl⟩
  have hYl : Y.length ≤ 16 ∧ (A = [] ∨ Y.length = 16) := by
    rw [← hY, ← hA]
    unfold last16
    rw [List.length_drop]
    refine ⟨by omega, ?_⟩
    by_cases h : X.length ≤ 16
    · left; rw [show X.length - 16 = 0 by omega]; rfl
    · right; omega
  rw [hA, hY] at hX
  rw [hY]
  have hYn : (cls Y).Nodup := by
    rw [hX, cls, List.map_append] at hn
    exact (List.nodup_append.1 hn).2.1
  have hw : wo X t.cl = wo A t.cl ++ wo Y t.cl := by rw [hX]; unfold wo; rw [List.filter_append]
  have hwl := wo_len Y t.cl
  rw [hw, List.append_assoc]
  rcases hYl.2 with rfl | h16
  · rw [show wo [] t.cl = [] from rfl, List.nil_append]
    exact last16_cut (by rw [List.length_append, List.length_singleton]; omega)
  · have hz : 16 ≤ (wo Y t.cl ++ [t]).length := by
      rw [List.length_append, List.length_singleton]
      by_cases h : t.cl ∈ cls Y
      · have := wo_one hYn h; omega
      · rw [wo_none h]; omega
    rw [last16_append _ _ hz]
    exact last16_cut (by rw [List.length_append, List.length_singleton]; omega)
/-- One told more. -/
theorem told_step {T L : List Tk} (h : L = last16 (latest T)) {t : Tk} (h0 : tellE L t.cl t.sq = 0) : tellL L t = last16 (latest (T ++ [t])) := by
  unfold tellL
  rw [if_pos h0, latest_snoc, last16_step (latest_nodup T), ← h]
/-- WHO WAS TOLD LAST IS ANSWERED. -/
theorem told_there {T : List Tk} (k : Nat) (hk : k < T.length) (hc : T[k].cl ∉ cls (T.drop (k + 1))) {seen : List Int} (hs : ∀ c, c ∈ seen ↔ c ∈ cls (T.drop (k + 1))) (hn : seen.Nodup) (hl : seen.length < 16) : T[k] ∈ last16 (latest T) := by
  have e : T = (T.take k ++ [T[k]]) ++ T.drop (k + 1) := by
    rw [List.append_assoc, List.singleton_append, List.getElem_cons_drop, List.take_append_drop]
  obtain ⟨t, ht⟩ : ∃ t, T[k] = t := ⟨_, rfl⟩
  obtain ⟨S, hS⟩ : ∃ S, T.drop (k + 1) = S := ⟨_, rfl⟩
  rw [ht, hS] at e hc
  rw [hS] at hs
  rw [ht]
  have h1 : latest T = (woL (wo (latest (T.take k)) t.cl) S ++ [t]) ++ latest S := by
    conv => lhs; rw [e]
    rw [latest_append, latest_snoc]
    congr 1
    unfold woL
    rw [List.filter_append, List.filter_cons_of_pos (by simpa using hc)]
    rfl
  have h2 : (latest S).length < 16 := by
    have hn2 := latest_nodup S
    have hle : (cls (latest S)).length ≤ seen.length := by
      have key : ∀ (xs ys : List Int), xs.Nodup → (∀ x ∈ xs, x ∈ ys) → xs.length ≤ ys.length := by
        intro xs
        induction xs with
        | nil => intro ys _ _; exact Nat.zero_le _
        | cons x xs ih =>
          intro ys h hs
          have hx := hs x (by simp)
          have h2 := List.nodup_cons.1 h
          have h3 := ih (ys.erase x) h2.2 (fun y hy => (List.mem_erase_of_ne (fun e => h2.1 (by rw [← e]; exact hy))).2 (hs y (by simp [hy])))
          rw [List.length_erase_of_mem hx] at h3
          have := List.length_pos_of_mem hx
          rw [List.length_cons]
          omega
      exact key _ _ hn2 (fun c h => (hs c).2 ((latest_mem S c).1 h))
    rw [cls, List.length_map] at hle
    omega
  rw [h1]
  unfold last16
  obtain ⟨B, hB⟩ : ∃ B, woL (wo (latest (T.take k)) t.cl) S = B := ⟨_, rfl⟩
  rw [hB, List.length_append, List.length_append, List.length_singleton]
  rw [List.append_assoc, List.drop_append, List.singleton_append]
  refine List.mem_append_right _ ?_
  rw [show B.length + 1 + (latest S).length - 16 - B.length = 0 by omega]
  simp
theorem last_tell {T : List Tk} {t : Tk} (hm : t ∈ last16 (latest T)) (h0 : t.cl ≠ 0 ∧ t.sq ≠ 0) : askE (last16 (latest T)) t.cl t.sq = 0 ∧ askK (last16 (latest T)) t.cl t.sq = true ∧ askR (last16 (latest T)) t.cl t.sq = (t.e, t.n) := by
  have hn : (cls (last16 (latest T))).Nodup := (latest_nodup T).sublist ((List.drop_sublist _ _).map _)
  have hf := findT_of hn hm
  have h1 : ¬ (t.cl = 0 ∨ t.sq = 0) := by omega
  unfold askE askK askR
  rw [if_neg h1, if_neg h1, if_neg h1, hf]
  simp
theorem last_below {T : List Tk} {t : Tk} (hm : t ∈ last16 (latest T)) (h0 : t.cl ≠ 0) (s : Int) (hs : s < t.sq) : askK (last16 (latest T)) t.cl s = false ∧ (s ≠ 0 → askE (last16 (latest T)) t.cl s = 180) := by
  have hn : (cls (last16 (latest T))).Nodup := (latest_nodup T).sublist ((List.drop_sublist _ _).map _)
  have hf := findT_of hn hm
  unfold askE askK
  by_cases h1 : s = 0
  · rw [if_pos (.inr h1)]
    exact ⟨rfl, fun h => absurd h1 h⟩
  · rw [if_neg (by omega), if_neg (by omega), hf]
    refine ⟨decide_eq_false (by omega), fun _ => ?_⟩
    simp only
    rw [if_pos hs]
end Go.Proofs.Ytklmabhjkdkjmaa
