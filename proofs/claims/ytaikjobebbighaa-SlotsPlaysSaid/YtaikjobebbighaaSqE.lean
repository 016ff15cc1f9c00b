/- Slots: the book's names are the document's, sorted. No program. -/
import Derived.Test.YtaikjobebbighaaSqA
import Derived.Test.YtaikjobebbighaaSqD
namespace Go.Proofs.Ytaikjobebbighaa
open Go.Sort
set_option linter.unusedVariables false
theorem perm_of_sub {α : Type} [BEq α] [LawfulBEq α] : ∀ {a b : List α}, a.Nodup → (∀ x ∈ a, x ∈ b) → b.length ≤ a.length → b.Perm a
  | [], b, _, _, h => by
    have : b = [] := List.eq_nil_of_length_eq_zero (by simpa using h)
    rw [this]
  | x :: t, b, hn, hs, h => by
    have hx := hs x List.mem_cons_self
    have hp := List.perm_cons_erase hx
    have ht := perm_of_sub (a := t) (b := b.erase x) (List.nodup_cons.1 hn).2 (fun y hy => by
      have hne : y ≠ x := fun e => (List.nodup_cons.1 hn).1 (by rw [← e]; exact hy)
      exact (List.mem_erase_of_ne hne).2 (hs y (List.mem_cons_of_mem _ hy))) (by
        rw [List.length_erase_of_mem hx]
        simp only [List.length_cons] at h
        omega)
    exact hp.trans (ht.cons x)
theorem stGet_mem {k : Key} : ∀ {st : Bk}, stGet st k ≠ none → k ∈ st.map (·.1)
  | [], h => absurd rfl h
  | q :: st, h => by
    unfold stGet at h
    split at h
    · rename_i e
      have : q.1 = k := by simpa using e
      rw [← this]
      exact List.mem_cons_self
    · exact List.mem_cons_of_mem _ (stGet_mem h)
theorem Rel.names {st : Bk} {r : Rb} (h : Rel st r) : bkNames st = srtS r.names := by
  have hp : (st.map (·.1)).Perm r.names := perm_of_sub h.nd (fun x hx => stGet_mem (fun e => (h.no x).1 e hx)) (by rw [List.length_map, h.cnt]; exact Nat.le_refl _)
  exact mergeSort_of_perm hp
theorem Rel.count {st : Bk} {r : Rb} (h : Rel st r) : st.length = r.names.length := h.cnt
end Go.Proofs.Ytaikjobebbighaa
