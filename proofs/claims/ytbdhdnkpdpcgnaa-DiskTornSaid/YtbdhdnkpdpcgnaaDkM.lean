/- Disks, in plain words: files by names, what is sure, what is loose. No program in sight. -/
import Derived.Maps.Own
import Derived.Maps.Views
import Derived.Sort.KeysCollected
namespace Go.Proofs.Ytbdhdnkpdpcgnaa
set_option linter.unusedVariables false
/-- A part that is loose. -/
structure Chg where
  whole : Bool
  gone : Bool
  b : List Int
/-- A file. -/
structure Fil where
  sure : List Int
  now : List Int
  isSure : Bool
  isNow : Bool
  loose : List Chg
def noFil : Fil := ⟨[], [], false, false, []⟩
abbrev Key := List UInt8
/-- Files by names. -/
abbrev Files := List (Key × Fil)
def stGet (st : Files) (k : Key) : Fil := match st.find? (fun p => p.1 == k) with
  | some p => p.2
  | none => noFil
def stHas (st : Files) (k : Key) : Bool := st.any (fun p => p.1 == k)
def stIns (x : Key × Fil) : Files → Files
  | [] => [x]
  | y :: r => if bytesBefore x.1 y.1 then x :: y :: r else y :: stIns x r
def stDel (st : Files) (k : Key) : Files := st.filter fun p => !(p.1 == k)
def stPut (st : Files) (k : Key) (f : Fil) : Files := stIns (k, f) (stDel st k)
/-- What a change makes of a file. -/
def putF (f : Fil) (c : Chg) : Fil :=
  if c.gone = true then { f with now := [], isNow := false, loose := f.loose ++ [c] }
  else if c.whole = true then { f with now := c.b, isNow := true, loose := f.loose ++ [c] }
  else { f with now := f.now ++ c.b, isNow := true, loose := f.loose ++ [c] }
/-- A file that is sure as it is. -/
def settleS (st : Files) (k : Key) (now : List Int) (is : Bool) : Files := if is = true then stPut st k ⟨now, now, true, true, []⟩ else stDel st k
/-- What stays of loose parts: a budget, what is now, whether it is. -/
def crashC (s : Nat × List Int × Bool) (c : Chg) : Nat × List Int × Bool :=
  if s.1 = 0 then s
  else if c.whole = true then (s.1 - 1, c.b, !c.gone)
  else (s.1 - min s.1 c.b.length, s.2.1 ++ c.b.take (min s.1 c.b.length), s.2.2)
def crashF (f : Fil) (n : Nat) : List Int × Bool := (f.loose.foldl crashC (n, f.sure, f.isSure)).2
/-- The names, in order. -/
def stNames (p : Fil → Bool) (st : Files) : List Key := ((st.map (·.1)).mergeSort fun x y => decide (x ≤ y)).filter fun k => p (stGet st k)
def looseF (f : Fil) : Bool := decide (0 < f.loose.length)
def nowF (f : Fil) : Bool := f.isNow
theorem stGet_cons (q : Key × Fil) (st : Files) (k : Key) : stGet (q :: st) k = if (q.1 == k) = true then q.2 else stGet st k := by
  unfold stGet
  rw [List.find?_cons]
  cases h : q.1 == k <;> simp
/-- How much stays of the i-th. -/
def bud (stay : List Int) (i : Nat) : Nat := if i < stay.length then (max 0 (stay.getD i 0)).toNat else 0
def crashSt (stay : List Int) (s : Files × Nat) (k : Key) : Files × Nat := (settleS s.1 k (crashF (stGet s.1 k) (bud stay s.2)).1 (crashF (stGet s.1 k) (bud stay s.2)).2, s.2 + 1)
def crashS (stay : List Int) (st : Files) : Files := ((stNames looseF st).foldl (crashSt stay) (st, 0)).1
def bytesC (cs : List Chg) : Nat := (cs.map fun c => c.b.length).sum
def wt (f : Fil) : Nat := f.sure.length + bytesC f.loose
/-- Files that are not too great. -/
def Small (st : Files) : Prop := ∀ q ∈ st, q.1.length ≤ 1000000 ∧ wt q.2 ≤ 1000000 ∧ q.2.loose.length ≤ 1000000
theorem stGet_mem {st : Files} {k : Key} : stGet st k = noFil ∨ ∃ q ∈ st, stGet st k = q.2 := by
  unfold stGet
  cases h : st.find? (fun p => p.1 == k) with
  | none => exact .inl rfl
  | some q => exact .inr ⟨q, List.mem_of_find?_eq_some h, rfl⟩
theorem Small.get {st : Files} (h : Small st) (k : Key) : wt (stGet st k) ≤ 1000000 ∧ (stGet st k).loose.length ≤ 1000000 := by
  rcases stGet_mem (st := st) (k := k) with e | ⟨q, hq, e⟩
  · rw [e]; simp [noFil, wt, bytesC]
  · rw [e]; exact (h q hq).2
theorem stIns_mem (x : Key × Fil) : ∀ (st : Files), ∀ q ∈ stIns x st, q = x ∨ q ∈ st
  | [], q, h => by simp [stIns] at h; exact .inl h
  | y :: r, q, h => by
    simp only [stIns] at h
    split at h
    · rcases List.mem_cons.1 h with h | h
      · exact .inl h
      · exact .inr h
    · rcases List.mem_cons.1 h with h | h
      · exact .inr (by simp [h])
      · rcases stIns_mem x r q h with h | h
        · exact .inl h
        · exact .inr (by simp [h])
theorem stIns_len (x : Key × Fil) : ∀ (st : Files), (stIns x st).length = st.length + 1
  | [] => rfl
  | y :: r => by
    simp only [stIns]
    split
    · simp
    · simp [stIns_len x r]
theorem Small.settle {st : Files} (h : Small st) (k : Key) (n : List Int) (is : Bool) (hk : k.length ≤ 1000000) (hn : n.length ≤ 1000000) : Small (settleS st k n is) ∧ (settleS st k n is).length ≤ st.length + 1 := by
  have hd : (stDel st k).length ≤ st.length := List.length_filter_le _ _
  have hs : Small (stDel st k) := fun q hq => h q (List.mem_filter.1 hq).1
  unfold settleS
  split
  · refine ⟨fun q hq => ?_, by unfold stPut; rw [stIns_len]; omega⟩
    rcases stIns_mem _ _ q hq with rfl | hq
    · exact ⟨hk, by simpa [wt, bytesC] using hn, by simp⟩
    · exact hs q hq
  · exact ⟨hs, by omega⟩
theorem crashC_len (s : Nat × List Int × Bool) (c : Chg) : (crashC s c).2.1.length ≤ s.2.1.length + c.b.length ∧ (crashC s c).1 ≤ s.1 := by
  unfold crashC
  split
  · exact ⟨by omega, Nat.le_refl _⟩
  · split
    · exact ⟨by show c.b.length ≤ _; omega, Nat.sub_le _ _⟩
    · refine ⟨?_, Nat.sub_le _ _⟩
      show (s.2.1 ++ c.b.take _).length ≤ _
      rw [List.length_append, List.length_take]
      omega
theorem crashC_fold (cs : List Chg) : ∀ (s : Nat × List Int × Bool), (cs.foldl crashC s).2.1.length ≤ s.2.1.length + bytesC cs ∧ (cs.foldl crashC s).1 ≤ s.1 := by
  induction cs with
  | nil => intro s; exact ⟨by simp, Nat.le_refl _⟩
  | cons c cs ih =>
    intro s
    have h1 := ih (crashC s c)
    have h2 := crashC_len s c
    rw [List.foldl_cons]
    have e : bytesC (c :: cs) = c.b.length + bytesC cs := by simp [bytesC]
    omega
theorem crashF_len (f : Fil) (n : Nat) : (crashF f n).1.length ≤ wt f := (crashC_fold f.loose _).1
theorem bytesC_at {cs : List Chg} {j : Nat} (h : j < cs.length) : cs[j].b.length ≤ bytesC cs := by
  induction cs generalizing j with
  | nil => simp at h
  | cons c cs ih =>
    have e : bytesC (c :: cs) = c.b.length + bytesC cs := by simp [bytesC]
    cases j with
    | zero => simp; omega
    | succ j => have := ih (j := j) (by simpa using h); simp; omega
theorem bytesC_take (cs : List Chg) : ∀ (j : Nat), bytesC (cs.take j) ≤ bytesC cs := by
  induction cs with
  | nil => intro j; simp [bytesC]
  | cons c cs ih =>
    intro j
    cases j with
    | zero => simp [bytesC]
    | succ j =>
      have := ih j
      have e : bytesC (c :: cs) = c.b.length + bytesC cs := by simp [bytesC]
      have e2 : bytesC ((c :: cs).take (j + 1)) = c.b.length + bytesC (cs.take j) := by simp [bytesC]
      omega
end Go.Proofs.Ytbdhdnkpdpcgnaa
