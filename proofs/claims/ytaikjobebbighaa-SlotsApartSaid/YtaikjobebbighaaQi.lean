/- A region that draws, whose last operation stores: operations whose run is known, one by one. -/
import Derived.Test.YtaikjobebbighaaQh
import Derived.ProofKit
namespace Go.Proofs.Ytaikjobebbighaa
set_option linter.unusedVariables false
section
variable {P : Program} {ops : Array Oper} {md : Region.Mode} {Q : Exit → Act → World → Prop} {S : World → Prop}
theorem op_run {i : Nat} {o : Oper} {K : Act → World → Prop} {sl : Array Value} {df : List Deferred} {w w' : World} {v : Value} (hi : ops[i]? = some o) (hw : Region.wanted o (yielded ops sl) = true)
    (hx : (execOp (Act.eval { tmps := sl, defers := df }) o).run P w = .ok (.value v) w') (h : K ((⟨sl, df⟩ : Act).put o.dst v) w') : wpOp P ops Q i K { tmps := sl, defers := df } w := by
  unfold wpOp
  simp only [hi, hw, if_true]
  left
  unfold Oper.wp
  rw [hx]
  exact h
theorem op_skip {i : Nat} {o : Oper} {K : Act → World → Prop} {sl : Array Value} {df : List Deferred} {w w' : World} (hi : ops[i]? = some o) (hw : Region.wanted o (yielded ops sl) = true)
    (hx : (execOp (Act.eval { tmps := sl, defers := df }) o).run P w = .ok .skip w') (h : K ((⟨sl, df⟩ : Act).put o.dst undef) w') : wpOp P ops Q i K { tmps := sl, defers := df } w := by
  unfold wpOp
  simp only [hi, hw, if_true]
  left
  unfold Oper.wp
  rw [hx]
  exact h
theorem held_one {fuel : Nat} {listed : Array Bool} {a : Act} {w : World} (i : Nat) (hr : Region.ready md ops listed = [i]) (h : wpOp P ops Q i (fun a' w' => S w' ∧ wpAnyH P md ops Q S fuel (listed.setIfInBounds i true) a' w') a w) : wpAnyH P md ops Q S (fuel + 1) listed a w :=
  wpAnyH_all hr (by simp) fun j hj => by rw [List.mem_singleton] at hj; subst hj; exact h
theorem held_pair {fuel : Nat} {listed : Array Bool} {a : Act} {w : World} (i j : Nat) (hr : Region.ready md ops listed = [i, j]) (h1 : wpOp P ops Q i (fun a' w' => S w' ∧ wpAnyH P md ops Q S fuel (listed.setIfInBounds i true) a' w') a w)
    (h2 : wpOp P ops Q j (fun a' w' => S w' ∧ wpAnyH P md ops Q S fuel (listed.setIfInBounds j true) a' w') a w) : wpAnyH P md ops Q S (fuel + 1) listed a w :=
  wpAnyH_all hr (by simp) fun q hq => by
    simp only [List.mem_cons, List.not_mem_nil, or_false] at hq
    rcases hq with rfl | rfl
    · exact h1
    · exact h2
end
end Go.Proofs.Ytaikjobebbighaa
