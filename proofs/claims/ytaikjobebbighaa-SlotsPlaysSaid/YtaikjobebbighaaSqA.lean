/- Slots: the document's book keeps its bounds; names and keys. No program. -/
import Derived.Test.YtaikjobebbighaaSpV
namespace Go.Proofs.Ytaikjobebbighaa
set_option linter.unusedVariables false
theorem serveE_many (size i : Int) : ∀ (T pre : List En), ∀ x ∈ (serveE size i pre T).1, ∃ y ∈ T, x.many = y.many
  | [], pre => fun x hx => by simp [serveE] at hx
  | a :: t, pre => by
    intro x hx
    unfold serveE at hx
    split at hx
    · split at hx
      · exact ⟨x, hx, rfl⟩
      · rcases List.mem_cons.1 hx with e | h
        · exact ⟨a, List.mem_cons_self, by rw [e]⟩
        · obtain ⟨y, hy, e⟩ := serveE_many size i t _ x h
          exact ⟨y, List.mem_cons_of_mem _ hy, e⟩
    · rcases List.mem_cons.1 hx with e | h
      · exact ⟨a, List.mem_cons_self, by rw [e]⟩
      · obtain ⟨y, hy, e⟩ := serveE_many size i t _ x h
        exact ⟨y, List.mem_cons_of_mem _ hy, e⟩
/-- A book with at most n entries, whose numbers are small. -/
def RbN (n : Nat) (r : Rb) : Prop := RbOk r ∧ r.L.length ≤ n
theorem RbOk.serve {r : Rb} (h : RbOk r) (i : Int) : RbOk (serveRb r i) :=
  ⟨h.nl, h.len, by show (serveE _ _ _ _).1.length ≤ 600; rw [serveE_len]; exact h.ll, fun x hx => by
    obtain ⟨y, hy, e⟩ := serveE_many _ _ _ _ x hx
    rw [e]
    exact h.many y hy, h.szb⟩
theorem serveRb_len (r : Rb) (i : Int) : (serveRb r i).L.length = r.L.length := serveE_len _ _ _ _
theorem RbN.set {n : Nat} {r : Rb} (h : RbN n r) (k : Key) (x : Int) : RbN n (setRb r k x).1 := by
  unfold setRb
  split
  · exact h
  split
  · exact h
  split
  · exact h
  rename_i h1 h2 h3
  have ok : RbOk (sizedRb (addRb r k) (atRb r k) x) := by
    have key : ∀ (s : List Int), (∀ y ∈ s, 0 ≤ y ∧ y ≤ 1048576) → ∀ j, ∀ y ∈ s.set j x, 0 ≤ y ∧ y ≤ 1048576 := fun s hs j y hy => by
      rcases List.mem_or_eq_of_mem_set hy with e | e
      · exact hs y e
      · rw [e]; omega
    by_cases hp : poolOf r k < 0
    · have e1 : addRb r k = ⟨r.names ++ [k], r.sizes ++ [0], r.L⟩ := if_pos hp
      rw [e1]
      refine ⟨?_, ?_, h.1.ll, h.1.many, key _ (fun y hy => ?_) _⟩
      · show (r.names ++ [k]).length ≤ 64
        simp
        omega
      · show ((r.sizes ++ [0]).set _ _).length = (r.names ++ [k]).length
        have := h.1.len
        simp
        omega
      · rcases List.mem_append.1 hy with e | e
        · exact h.1.szb y e
        · rw [List.mem_singleton.1 e]; omega
    · have e1 : addRb r k = r := if_neg hp
      rw [e1]
      refine ⟨h.1.nl, ?_, h.1.ll, h.1.many, key _ h.1.szb _⟩
      show (r.sizes.set _ _).length = r.names.length
      rw [List.length_set]
      exact h.1.len
  refine ⟨ok.serve _, ?_⟩
  rw [serveRb_len]
  have e2 : (addRb r k).L = r.L := by unfold addRb; split <;> rfl
  show (addRb r k).L.length ≤ n
  rw [e2]
  exact h.2
theorem RbN.ask {n : Nat} {r : Rb} (h : RbN n r) (hn : n + 1 ≤ 600) (k : Key) (x : Pl) : RbN (n + 1) (askRb r k x).1 := by
  have h' : RbN (n + 1) r := ⟨h.1, Nat.le_trans h.2 (Nat.le_succ n)⟩
  unfold askRb
  split
  · exact h'
  split
  · exact h'
  split
  · exact h'
  split
  · exact h'
  rename_i h1 h2 h3 h4
  have ok : RbOk { r with L := r.L ++ [⟨poolOf r k, x.1, x.2, false⟩] } := by
    refine ⟨h.1.nl, h.1.len, ?_, ?_, h.1.szb⟩
    · have := h.2
      show (r.L ++ [_]).length ≤ 600
      rw [List.length_append]
      simp
      omega
    · intro y hy
      rcases List.mem_append.1 hy with e | e
      · exact h.1.many y e
      · rw [List.mem_singleton.1 e]
        show 1 ≤ x.2 ∧ x.2 ≤ 1048576
        have hz : sizeP r (poolOf r k) ≤ 1048576 := by
          rcases poolOf_is r k with ⟨e, -⟩ | ⟨i, hi, e, -⟩
          · omega
          · rw [e]
            exact (h.1.size (i := i) (by rw [h.1.len]; exact hi)).2
        omega
  refine ⟨ok.serve _, ?_⟩
  rw [serveRb_len]
  have := h.2
  show (r.L ++ [_]).length ≤ n + 1
  rw [List.length_append]
  simp
  omega
theorem RbN.free {n : Nat} {r : Rb} (h : RbN n r) (k : Key) (t : Int) : RbN n (freeRb r k t).1 := by
  unfold freeRb
  split
  · exact h
  rename_i h1
  have hl : (r.L.take (findN r.L (poolOf r k) t 0).toNat ++ r.L.drop ((findN r.L (poolOf r k) t 0).toNat + 1)).length ≤ r.L.length := by
    rw [List.length_append, List.length_take, List.length_drop]
    omega
  have ok : RbOk (outRb r (findN r.L (poolOf r k) t 0).toNat) := by
    refine ⟨h.1.nl, h.1.len, Nat.le_trans hl h.1.ll, ?_, h.1.szb⟩
    intro y hy
    rcases List.mem_append.1 hy with e | e
    · exact h.1.many y (List.mem_of_mem_take e)
    · exact h.1.many y (List.mem_of_mem_drop e)
  refine ⟨ok.serve _, ?_⟩
  rw [serveRb_len]
  exact Nat.le_trans hl h.2
theorem RbN.mono {n m : Nat} {r : Rb} (h : RbN n r) (hm : n ≤ m) : RbN m r := ⟨h.1, Nat.le_trans h.2 hm⟩
theorem RbN.nil : RbN 0 ⟨[], [], []⟩ := ⟨⟨by simp, rfl, by simp, by simp, by simp⟩, by simp⟩
end Go.Proofs.Ytaikjobebbighaa
