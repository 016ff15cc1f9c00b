/- Slots: plain laws of the calls: sizes stay, what is got. No program. -/
import Derived.Test.YtaikjobebbighaaSlT
namespace Go.Proofs.Ytaikjobebbighaa
set_option linter.unusedVariables false
theorem freeR_size (s : Pst) (t : Int) : (freeR s t).1.size = s.size := by unfold freeR; split; rfl; split <;> rfl
theorem askR_size (s : Pst) (x : Pl) : (askR s x).1.size = s.size := by unfold askR; split; rfl; split; rfl; split <;> rfl
theorem freeB_get {st : Bk} {k : Key} {s : Pst} (hs : stGet st k = some s) (t : Int) (j : Key) : stGet (freeB st k t).1 j = if j = k then some (freeR s t).1 else stGet st j := by
  unfold freeB; rw [hs]; exact stGet_put hs j
theorem askB_get {st : Bk} {k : Key} {s : Pst} (hs : stGet st k = some s) (x : Pl) (j : Key) : stGet (askB st k x).1 j = if j = k then some (askR s x).1 else stGet st j := by
  unfold askB; rw [hs]; exact stGet_put hs j
theorem freeB_self {st : Bk} {k : Key} {s : Pst} (hs : stGet st k = some s) (t : Int) : stGet (freeB st k t).1 k = some (freeR s t).1 := by rw [freeB_get hs, if_pos rfl]
theorem askB_self {st : Bk} {k : Key} {s : Pst} (hs : stGet st k = some s) (x : Pl) : stGet (askB st k x).1 k = some (askR s x).1 := by rw [askB_get hs, if_pos rfl]
theorem getZ_some {st : Bk} {k : Key} {s : Pst} (hs : stGet st k = some s) : getZ st k = s := by unfold getZ; rw [hs]; rfl
theorem setB_some {st : Bk} {k : Key} {s : Pst} {n : Int} (hs : stGet st k = some s) (hk : ¬ (k.length = 0 ∨ 32 < k.length)) (h1 : 1 ≤ n) (h2 : n ≤ 1048576) : setB st k n = (bkPut st k (setR s n).1, (setR s n).2, 0) := by
  unfold setB
  rw [if_neg hk, if_neg (by omega), hs]
/-- How many are served: as far as the sum goes. -/
def cntF (size : Int) : Int → List Pl → Nat
  | _, [] => 0
  | q, x :: l => if size < q + x.2 then 0 else cntF size (q + x.2) l + 1
theorem servesF_cnt {size : Int} : ∀ (l h : List Pl), (∀ x ∈ l, 1 ≤ x.2) → (servesF size h l).2.2.length = cntF size (sumM h) l
  | [], h, _ => rfl
  | x :: l, h, hl => by
    have h1 := hl x (by simp)
    unfold cntF
    by_cases hx : x.2 ≤ leftI size h
    · rw [servesF_yes hx]
      unfold leftI at hx
      rw [if_neg (by omega)]
      have := servesF_cnt (size := size) l (insR x h) fun y hy => hl y (by simp [hy])
      rw [sumM_insR, Int.add_comm] at this
      rw [List.length_cons, this]
    · rw [servesF_no hx]
      unfold leftI at hx
      rw [if_pos (by omega)]
      rfl
/-- Made less, nobody is served. -/
theorem Good.less {s : Pst} (h : Good s) {n : Int} (hn : n ≤ s.size) : servesF n s.h s.l = (s.h, s.l, []) := servesF_stands fun x t e => by
  have := h.head x t e
  unfold leftI at *
  omega
theorem sumM_le {n : Nat} {l : List Pl} (h : ∀ x ∈ l, 1 ≤ x.2 ∧ x.2 ≤ 1048576) (hn : l.length ≤ n) : 0 ≤ sumM l ∧ sumM l ≤ 1048576 * (n : Int) := by
  have := Small.sum_le h
  omega
abbrev nP : Key := [112]
end Go.Proofs.Ytaikjobebbighaa
