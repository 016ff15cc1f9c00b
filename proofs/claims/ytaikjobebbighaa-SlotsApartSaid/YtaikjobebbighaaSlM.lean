/- Slots: the plain model of a pool: who is served. No program. -/
import Derived.Test.YtaikjobebbighaaSlD
namespace Go.Proofs.Ytaikjobebbighaa
set_option linter.unusedVariables false
abbrev Rising (l : List Pl) : Prop := l.Pairwise (fun a b => a.1 < b.1)
/-- Put at its place. -/
def insR (x : Pl) : List Pl → List Pl
  | [] => [x]
  | y :: t => if y.1 < x.1 then y :: insR x t else x :: y :: t
theorem insR_is : ∀ (h : List Pl) (x : Pl) (i : Nat), AtIs h x.1 i → insT h i x = insR x h
  | [], x, i, hi => by
    have : i = 0 := by have := hi.1; simpa using this
    subst this
    rfl
  | y :: t, x, 0, hi => by
    have := hi.2.2 0 (by simp) (Nat.le_refl _)
    unfold insR
    rw [if_neg (by simp at this; omega)]
    rfl
  | y :: t, x, i + 1, hi => by
    have h0 := hi.2.1 0 (by simp) (by omega)
    unfold insR
    rw [if_pos (by simpa using h0), ← insR_is t x i ⟨by have := hi.1; simp at this; omega, fun j h1 h2 => by have := hi.2.1 (j + 1) (by simp; omega) (by omega); simpa using this, fun j h1 h2 => by have := hi.2.2 (j + 1) (by simp; omega) (by omega); simpa using this⟩]
    rfl
theorem insR_perm (x : Pl) : ∀ (h : List Pl), (insR x h).Perm (x :: h)
  | [] => List.Perm.refl _
  | y :: t => by
    unfold insR
    split
    · exact ((insR_perm x t).cons y).trans (List.Perm.swap x y t)
    · exact List.Perm.refl _
theorem insR_len (x : Pl) (h : List Pl) : (insR x h).length = h.length + 1 := (insR_perm x h).length_eq
theorem insR_mem {x y : Pl} {h : List Pl} : y ∈ insR x h ↔ y = x ∨ y ∈ h := by rw [(insR_perm x h).mem_iff]; simp
theorem sumM_perm {a b : List Pl} (h : a.Perm b) : sumM a = sumM b := by
  induction h with
  | nil => rfl
  | cons x _ ih => rw [sumM_cons, sumM_cons, ih]
  | swap x y l => rw [sumM_cons, sumM_cons, sumM_cons, sumM_cons]; omega
  | trans _ _ h1 h2 => rw [h1, h2]
theorem sumM_insR (x : Pl) (h : List Pl) : sumM (insR x h) = x.2 + sumM h := by rw [sumM_perm (insR_perm x h), sumM_cons]
theorem insR_rise (x : Pl) : ∀ (h : List Pl), Rising h → (∀ y ∈ h, y.1 ≠ x.1) → Rising (insR x h)
  | [], _, _ => by unfold insR; simp [Rising]
  | y :: t, h1, h2 => by
    have h3 := List.pairwise_cons.1 h1
    unfold insR
    split
    · rename_i hlt
      refine List.pairwise_cons.2 ⟨fun z hz => ?_, insR_rise x t h3.2 (fun z hz => h2 z (by simp [hz]))⟩
      rcases insR_mem.1 hz with rfl | hz
      · exact hlt
      · exact h3.1 z hz
    · rename_i hlt
      have hne := h2 y (by simp)
      refine List.pairwise_cons.2 ⟨fun z hz => ?_, h1⟩
      rcases List.mem_cons.1 hz with rfl | hz
      · omega
      · have := h3.1 z hz; omega
/-- Who is served: the holders then, the line then, who was. -/
def servesF (size : Int) : List Pl → List Pl → List Pl × List Pl × List Pl
  | h, [] => (h, [], [])
  | h, x :: l => if x.2 ≤ leftI size h then ((servesF size (insR x h) l).1, (servesF size (insR x h) l).2.1, x :: (servesF size (insR x h) l).2.2) else (h, x :: l, [])
theorem servesF_yes {size : Int} {h : List Pl} {x : Pl} {l : List Pl} (hx : x.2 ≤ leftI size h) : servesF size h (x :: l) = ((servesF size (insR x h) l).1, (servesF size (insR x h) l).2.1, x :: (servesF size (insR x h) l).2.2) := by
  rw [servesF, if_pos hx]
theorem servesF_no {size : Int} {h : List Pl} {x : Pl} {l : List Pl} (hx : ¬ x.2 ≤ leftI size h) : servesF size h (x :: l) = (h, x :: l, []) := by
  rw [servesF, if_neg hx]
/-- A pool that may be. -/
structure PoolOk (size : Int) (h l : List Pl) : Prop where
  rise : Rising h
  apart : ∀ x ∈ l, ∀ y ∈ h, y.1 ≠ x.1
  dist : l.Pairwise (fun a b => a.1 ≠ b.1)
  few : h.length + l.length ≤ 100000
  hs : ∀ x ∈ h, 1 ≤ x.2 ∧ x.2 ≤ 1048576
  ls : ∀ x ∈ l, 1 ≤ x.2 ∧ x.2 ≤ 1048576
  s0 : 0 ≤ size
  s1 : size ≤ 1048576
theorem PoolOk.step {size : Int} {h l : List Pl} {x : Pl} (k : PoolOk size h (x :: l)) : PoolOk size (insR x h) l := by
  have hd := List.pairwise_cons.1 k.dist
  refine ⟨insR_rise x h k.rise (k.apart x (by simp)), fun z hz y hy => ?_, hd.2, ?_, fun z hz => ?_, fun z hz => k.ls z (by simp [hz]), k.s0, k.s1⟩
  · rcases insR_mem.1 hy with rfl | hy
    · exact hd.1 z hz
    · exact k.apart z (by simp [hz]) y hy
  · rw [insR_len]; have := k.few; simp at this; omega
  · rcases insR_mem.1 hz with rfl | hz
    · exact k.ls _ (by simp)
    · exact k.hs z hz
theorem servesF_ok {size : Int} : ∀ {l h : List Pl}, PoolOk size h l → PoolOk size (servesF size h l).1 (servesF size h l).2.1
  | [], h, k => k
  | x :: l, h, k => by
    by_cases hx : x.2 ≤ leftI size h
    · rw [servesF_yes hx]; exact servesF_ok k.step
    · rw [servesF_no hx]; exact k
/-- Behind a serving the first in line asks for more than is free. -/
theorem servesF_head {size : Int} : ∀ {l h : List Pl} {x : Pl} {t : List Pl}, (servesF size h l).2.1 = x :: t → leftI size (servesF size h l).1 < x.2
  | [], h, x, t, e => by simp [servesF] at e
  | y :: l, h, x, t, e => by
    by_cases hx : y.2 ≤ leftI size h
    · rw [servesF_yes hx] at e ⊢; exact servesF_head (l := l) e
    · rw [servesF_no hx] at e ⊢
      simp only [List.cons.injEq] at e
      obtain ⟨rfl, -⟩ := e
      show leftI size h < _
      omega
/-- The line is what was served, then what waits. -/
theorem servesF_line {size : Int} : ∀ (l h : List Pl), l = (servesF size h l).2.2 ++ (servesF size h l).2.1
  | [], h => rfl
  | x :: l, h => by
    by_cases hx : x.2 ≤ leftI size h
    · rw [servesF_yes hx]
      exact congrArg (x :: ·) (servesF_line l (insR x h))
    · rw [servesF_no hx]; rfl
/-- Holders then: those of before, and who was served. -/
theorem servesF_perm {size : Int} : ∀ (l h : List Pl), (servesF size h l).1.Perm ((servesF size h l).2.2 ++ h)
  | [], h => List.Perm.refl _
  | x :: l, h => by
    by_cases hx : x.2 ≤ leftI size h
    · rw [servesF_yes hx]
      refine (servesF_perm l (insR x h)).trans ?_
      refine ((insR_perm x h).append_left _).trans ?_
      exact List.perm_middle
    · rw [servesF_no hx]; exact List.Perm.refl _
/-- Holders have no more than the size, if they had no more, or else nobody is served. -/
theorem servesF_sum {size : Int} : ∀ {l h : List Pl}, (∀ x ∈ l, 1 ≤ x.2) → sumM (servesF size h l).1 ≤ size ∨ (servesF size h l) = (h, l, [])
  | [], h, _ => .inr rfl
  | x :: l, h, hl => by
    by_cases hx : x.2 ≤ leftI size h
    · rw [servesF_yes hx]
      refine .inl ?_
      have h1 := hl x (by simp)
      unfold leftI at hx
      rcases servesF_sum (l := l) (h := insR x h) (fun y hy => hl y (by simp [hy])) with h2 | h2
      · exact h2
      · rw [h2]; show sumM (insR x h) ≤ size; rw [sumM_insR]; omega
    · exact .inr (servesF_no hx)
end Go.Proofs.Ytaikjobebbighaa
