/- A region that draws: stretches that also look up and take lengths; an operation that its guard leaves out. -/
import Derived.Test.YtaikjobebbighaaQi
namespace Go.Proofs.Ytaikjobebbighaa
set_option linter.unusedVariables false
section
variable {P : Program} {ops : Array Oper} {md : Region.Mode} {Q : Exit → Act → World → Prop} {S S' : World → Prop}
/-- An operation that is no call but of len. -/
def noCallL (o : Oper) : Bool := noCall o || (match o.op with
  | .lookup .. => true
  | .call c => (match c.callee with
    | .builtin .len => true
    | _ => false)
  | _ => false)
theorem sep_valueL {o : Oper} {a : Act} {w : World} {v : Value} {C : World → Prop} (hn : noCallL o = true) (h : o.quietAt P a C w v) : (execOp a.eval o).run P w = .ok (.value v) w := by
  unfold noCallL at hn
  rw [Bool.or_eq_true] at hn
  rcases hn with hn | hn
  · exact sep_value hn h
  · unfold Oper.quietAt at h
    have hne : ∀ n w', (execOp a.eval o).run P w = .ok n w' → ∃ u, n = .value u := fun n w' => by
      obtain ⟨d, op, ty, ps, af, gd⟩ := o
      unfold execOp
      cases op <;> first
        | exact val_only _
        | (exfalso; simp at hn; done)
        | skip
      rename_i c
      obtain ⟨cal, args, ts⟩ := c
      cases cal <;> first
        | (exfalso; simp at hn; done)
        | skip
      rename_i b
      cases b <;> first
        | (exfalso; simp at hn; done)
        | skip
      simp only [resolve, Sem.run_bind, Sem.run_pure, Result.andThen, invoke, builtin]
      intro he
      generalize Sem.run P _ w = r at he
      cases r with
      | halt x w2 => simp at he
      | ok u w2 => simp at he; exact ⟨u, he.1.symm⟩
    generalize (execOp a.eval o).run P w = r at *
    cases r with
    | ok n w' =>
      obtain ⟨u, rfl⟩ := hne n w' rfl
      obtain ⟨rfl, rfl⟩ := h
      rfl
    | halt x w' => simp only [Oper.quietUpon] at h
theorem held_stretchL {C : World → Prop} (hs : Region.noSelect ops = true) (hQ : ∀ c a d v w, Q (.panic c) (a.put (some d) v) w → Q (.panic c) a w) (hC : ∀ w, S w → C w) {w : World} (hS : S w) (fuel : Nat) :
    ∀ (n k : Nat) (listed : Array Bool) (a : Act), stretchB md ops n k listed = true → ((ops.toList.drop k).take n).all noCallL = true → k + n ≤ ops.size →
      wpQuiet P ops C (fun a' => wpAnyH P md ops Q S fuel (setAll n k listed) a' w) ((ops.toList.drop k).take n) a → wpAnyH P md ops Q S (fuel + n) listed a w
  | 0, k, listed, a, _, _, _, h => by simpa [setAll, wpQuiet] using h
  | n + 1, k, listed, a, hB, hn, hk, h => by
    have hlt : k < ops.toList.length := by simp; omega
    have hd : (ops.toList.drop k).take (n + 1) = ops.toList[k] :: (ops.toList.drop (k + 1)).take n := by
      rw [List.drop_eq_getElem_cons hlt, List.take_succ_cons]
    rw [hd] at hn h
    simp only [stretchB, Bool.and_eq_true] at hB
    rw [List.all_cons, Bool.and_eq_true] at hn
    have hi : ops[k]? = some ops.toList[k] := by
      rw [Array.getElem?_eq_getElem (by omega)]; simp
    have step : ∀ v, YieldsIf P ops S ops.toList[k] v a → wpQuiet P ops C (fun a' => wpAnyH P md ops Q S fuel (setAll (n + 1) k listed) a' w) ((ops.toList.drop (k + 1)).take n) (a.put ops.toList[k].dst v) → wpAnyH P md ops Q S (fuel + (n + 1)) listed a w := fun v hy h2 =>
      wpAnyH_take hi hs hB.1.2 hB.1.1 (fun c a w h => by
        cases hd : (ops.toList[k]).dst with
        | none => rw [hd] at h; exact h
        | some d => rw [hd] at h; exact hQ c a d _ w h) hy hS (held_stretchL hs hQ hC hS fuel n (k + 1) _ _ hB.2 hn.2 (by omega) h2)
    unfold wpQuiet at h
    split at h
    · rename_i hw
      obtain ⟨v, hv, hk2⟩ := h
      exact step v (.inl ⟨hw, fun w hw => sep_valueL hn.1 (hv w (hC w hw))⟩) hk2
    · rename_i hw
      exact step undef (.inr ⟨by simpa using hw, rfl⟩) h
theorem op_off {i : Nat} {o : Oper} {K : Act → World → Prop} {sl : Array Value} {df : List Deferred} {w : World} (hi : ops[i]? = some o) (hw : Region.wanted o (yielded ops sl) = false) (h : K ((⟨sl, df⟩ : Act).put o.dst undef) w) : wpOp P ops Q i K { tmps := sl, defers := df } w := by
  unfold wpOp
  simp only [hi, hw, Bool.false_eq_true, if_false]
  exact h
end
end Go.Proofs.Ytaikjobebbighaa
