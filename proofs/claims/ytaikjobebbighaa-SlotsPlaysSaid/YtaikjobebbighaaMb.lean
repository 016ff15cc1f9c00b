/- A region that draws its order, walked once, in a class of worlds: reads, guards, and calls that may make memory of their own. A region that draws its order and whose calls change the world: readers first, in stretches; each call alone, at the world at hand; what is held grows. A region that draws, whose last operation stores: operations whose run is known, one by one. A region that draws: stretches that also look up and take lengths; an operation that its guard leaves out. -/
import Derived.BigQuiet
import Derived.Lib.Hide
import Derived.OrdersHeld
import Derived.ProofKit
namespace Go.Proofs.Ytaikjobebbighaa
set_option linter.unusedVariables false
/-- The worlds that hold S, by letters. -/
theorem class_of (S : World → Prop) (w : World) (h : S w) : ∃ (T : Type) (f : T → World), Nonempty T ∧ (∀ n, S (f n)) ∧ ∀ v, S v → ∃ n, v = f n :=
  ⟨{v // S v}, Subtype.val, ⟨⟨w, h⟩⟩, fun n => n.2, fun v h => ⟨⟨v, h⟩, rfl⟩⟩
theorem wp_region_class {P : Program} {id : Nat} {Q : Exit → Act → World → Prop} {a : Act} {w : World} {l : List Oper} {T : Type} (f : T → World) (hm : P.follows .mixedOrders = true) (hB : Region.lexB .any l.toArray = true) (h0 : ∃ n, w.drew = f n)
    (h : wpQuiet P l.toArray (fun w' => ∃ n, w' = f n) (fun a' => ∀ w', (∃ n, w' = f n) → Q .normal a' w') l a) : (Code.region id l.toArray true).wp P Q a w :=
  wp_region_quiet (C := fun w' => ∃ n, w' = f n) hm hB h0 (by simpa using h)
end Go.Proofs.Ytaikjobebbighaa
namespace Go.Proofs.Ytaikjobebbighaa
set_option linter.unusedVariables false
section
variable {P : Program} {ops : Array Oper} {md : Region.Mode} {Q : Exit → Act → World → Prop} {S S' : World → Prop}
/-- What is held may say less. -/
theorem held_mono (h : ∀ w, S' w → S w) : ∀ (fuel : Nat) (listed : Array Bool) (a : Act) (w : World), wpAnyH P md ops Q S' fuel listed a w → wpAnyH P md ops Q S fuel listed a w
  | 0, _, _, _, hh => hh
  | fuel + 1, _, _, _, hh => ⟨hh.1, fun i hi => wpOp_mono (fun a' w' h' => ⟨h _ h'.1, held_mono h fuel _ a' w' h'.2⟩) (hh.2 i hi)⟩
/-- An operation that is no call: it enters nothing. -/
def noCall (o : Oper) : Bool := match o.op with
  | .move _ | .assign _ | .load .. | .fieldAddr .. | .indexAddr .. | .binOp .. | .unOp .. | .pick .. | .extract .. | .build .. | .convert .. | .field .. | .nilCheck _ => true
  | _ => false
theorem val_only {w w' : World} {n : Next} (s : Sem Value) (h : Sem.run P (do pure (Next.value (← s))) w = .ok n w') : ∃ u, n = .value u := by
  rw [Sem.run_bind] at h
  cases hs : s.run P w <;> rw [hs] at h <;> simp [Result.andThen, Sem.run_pure] at h
  exact ⟨_, h.1.symm⟩
theorem sep_value {o : Oper} {a : Act} {w : World} {v : Value} {C : World → Prop} (hn : noCall o = true) (h : o.quietAt P a C w v) : (execOp a.eval o).run P w = .ok (.value v) w := by
  unfold Oper.quietAt at h
  have hne : ∀ n w', (execOp a.eval o).run P w = .ok n w' → ∃ u, n = .value u := fun n w' => by
    obtain ⟨d, op, ty, ps, af, gd⟩ := o
    unfold noCall at hn
    unfold execOp
    cases op <;> first
      | exact val_only _
      | (exfalso; simp at hn; done)
      | (simp only [Sem.run_pure]; intro e; cases e; exact ⟨_, rfl⟩)
      | (simp only [Sem.run_bind, Sem.run_pure]; cases Sem.run P (asBool _) w <;> simp [Result.andThen]; intro e _; exact ⟨_, e.symm⟩)
      | skip
    all_goals
      intro he
      simp only at he
      split at he
      · simp [runtimePanic] at he
      · simp [runtimePanic] at he
      · simp [runtimePanic] at he
      · split at he
        · simp [runtimePanic] at he
        · simp only [Sem.run_bind] at he
          generalize Sem.run P program w = r1 at he
          cases r1 with
          | halt x w2 => simp [Result.andThen] at he
          | ok p w2 =>
            simp only [Result.andThen] at he
            generalize hr : Sem.run P (nilAhead _ _ _ _) w2 = r2 at he
            cases r2 with
            | halt x w3 => simp at he
            | ok b w3 =>
              simp only at he
              split at he
              · simp [Result.andThen] at he
              · simp [Sem.run_pure] at he
                exact ⟨_, he.1.symm⟩
        · simp only [Sem.run_pure] at he; cases he; exact ⟨_, rfl⟩
      · simp only [Sem.run_pure] at he; cases he; exact ⟨_, rfl⟩
  generalize (execOp a.eval o).run P w = r at *
  cases r with
  | ok n w' =>
    obtain ⟨u, rfl⟩ := hne n w' rfl
    obtain ⟨rfl, rfl⟩ := h
    rfl
  | halt x w' => simp only [Oper.quietUpon] at h
/-- A stretch: from k on, n operations; may each come up in turn, and is nobody touched by it? -/
def stretchB (md : Region.Mode) (ops : Array Oper) : Nat → Nat → Array Bool → Bool
  | 0, _, _ => true
  | n + 1, k, listed => (Region.ready md ops listed).contains k && Region.free md ops listed k && stretchB md ops n (k + 1) (listed.setIfInBounds k true)
def setAll : Nat → Nat → Array Bool → Array Bool
  | 0, _, listed => listed
  | n + 1, k, listed => setAll n (k + 1) (listed.setIfInBounds k true)
theorem held_stretch {C : World → Prop} (hs : Region.noSelect ops = true) (hQ : ∀ c a d v w, Q (.panic c) (a.put (some d) v) w → Q (.panic c) a w) (hC : ∀ w, S w → C w) {w : World} (hS : S w) (fuel : Nat) :
    ∀ (n k : Nat) (listed : Array Bool) (a : Act), stretchB md ops n k listed = true → ((ops.toList.drop k).take n).all noCall = true → k + n ≤ ops.size →
      wpQuiet P ops C (fun a' => wpAnyH P md ops Q S fuel (setAll n k listed) a' w) ((ops.toList.drop k).take n) a → wpAnyH P md ops Q S (fuel + n) listed a w
  | 0, k, listed, a, _, _, _, h => by simpa [setAll, wpQuiet] using h
  | n + 1, k, listed, a, hB, hn, hk, h => by
    have hlt : k < ops.toList.length := by simp; omega
    have hd : (ops.toList.drop k).take (n + 1) = ops.toList[k] :: (ops.toList.drop (k + 1)).take n := by
      rw [List.drop_eq_getElem_cons hlt, List.take_succ_cons]
    rw [hd] at hn h
    simp only [stretchB, Bool.and_eq_true] at hB
    rw [List.all_cons, Bool.and_eq_true] at hn
    have hi : ops[k]? = some ops.toList[k] := by
      rw [Array.getElem?_eq_getElem (by omega)]; simp
    have step : ∀ v, YieldsIf P ops S ops.toList[k] v a → wpQuiet P ops C (fun a' => wpAnyH P md ops Q S fuel (setAll (n + 1) k listed) a' w) ((ops.toList.drop (k + 1)).take n) (a.put ops.toList[k].dst v) → wpAnyH P md ops Q S (fuel + (n + 1)) listed a w := fun v hy h2 =>
      wpAnyH_take hi hs hB.1.2 hB.1.1 (fun c a w h => by
        cases hd : (ops.toList[k]).dst with
        | none => rw [hd] at h; exact h
        | some d => rw [hd] at h; exact hQ c a d _ w h) hy hS (held_stretch hs hQ hC hS fuel n (k + 1) _ _ hB.2 hn.2 (by omega) h2)
    unfold wpQuiet at h
    split at h
    · rename_i hw
      obtain ⟨v, hv, hk2⟩ := h
      exact step v (.inl ⟨hw, fun w hw => sep_value hn.1 (hv w (hC w hw))⟩) hk2
    · rename_i hw
      exact step undef (.inr ⟨by simpa using hw, rfl⟩) h
theorem enter_of {f : FuncId} {fn : Func} (hf : P.funcs[f]? = some fn) (hname : (fn.name == "runtime.NumGoroutine") = false) (hb : fn.body.isNone = false) (args : Array Value) (w : World) : (callFunc f args).run P w = .ok (.enter f args) w := by
  have h1 : fn.name ≠ "runtime.NumGoroutine" := by simpa using hname
  have h2 : fn.body ≠ none := by cases h : fn.body <;> simp_all
  simp [callFunc, hf, h1, h2]
/-- A call, alone. -/
theorem held_call {fuel : Nat} {listed : Array Bool} {sl : Array Value} {df : List Deferred} {w : World} (i : Nat) (o : Oper) (d : Tmp) (f : FuncId) (args : Array Operand) (ts : Array TypeId) (vs : Array Value) (hr : Region.ready md ops listed = [i]) (hi : ops[i]? = some o) (hd : o.dst = some d) (hop : o.op = Op.call { callee := .value (.func f), args := args, argTypes := ts })
    (hin : ∀ (args : Array Value) (w : World), (callFunc f args).run P w = .ok (.enter f args) w) (hw : Region.wanted o (yielded ops sl) = true) (hv : args.map (Act.eval { tmps := sl, defers := df }) = vs)
    (hc : Calls P f vs w fun e w' => ∃ v, e = .returned v ∧ S w' ∧ wpAnyH P md ops Q S fuel (listed.setIfInBounds i true) { tmps := sl.setIfInBounds d v, defers := df } w') : wpAnyH P md ops Q S (fuel + 1) listed { tmps := sl, defers := df } w := by
  refine wpAnyH_all hr (by simp) fun j hj => ?_
  rw [List.mem_singleton] at hj
  subst hj
  unfold wpOp
  simp only [hi, hw, if_true]
  left
  have hrun : (execOp (Act.eval { tmps := sl, defers := df }) o).run P w = .ok (.enter f vs) w := by
    unfold execOp
    have hv' : args.map (fun x => Act.eval { tmps := sl, defers := df } x) = vs := hv
    simp [hop, resolve, invoke, hv', BigFrame.eval_func, Deferred.ofValue, hin]
  unfold Oper.wp
  rw [hrun, Oper.upon_enter]
  refine hc.mono fun e w' ⟨v, he, h1, h2⟩ => ?_
  subst he
  rw [hd]
  exact ⟨h1, h2⟩
end
end Go.Proofs.Ytaikjobebbighaa
namespace Go.Proofs.Ytaikjobebbighaa
set_option linter.unusedVariables false
section
variable {P : Program} {ops : Array Oper} {md : Region.Mode} {Q : Exit → Act → World → Prop} {S : World → Prop}
theorem op_run {i : Nat} {o : Oper} {K : Act → World → Prop} {sl : Array Value} {df : List Deferred} {w w' : World} {v : Value} (hi : ops[i]? = some o) (hw : Region.wanted o (yielded ops sl) = true)
    (hx : (execOp (Act.eval { tmps := sl, defers := df }) o).run P w = .ok (.value v) w') (h : K ((⟨sl, df⟩ : Act).put o.dst v) w') : wpOp P ops Q i K { tmps := sl, defers := df } w := by
  unfold wpOp
  simp only [hi, hw, if_true]
  left
  unfold Oper.wp
  rw [hx]
  exact h
theorem op_skip {i : Nat} {o : Oper} {K : Act → World → Prop} {sl : Array Value} {df : List Deferred} {w w' : World} (hi : ops[i]? = some o) (hw : Region.wanted o (yielded ops sl) = true)
    (hx : (execOp (Act.eval { tmps := sl, defers := df }) o).run P w = .ok .skip w') (h : K ((⟨sl, df⟩ : Act).put o.dst undef) w') : wpOp P ops Q i K { tmps := sl, defers := df } w := by
  unfold wpOp
  simp only [hi, hw, if_true]
  left
  unfold Oper.wp
  rw [hx]
  exact h
theorem held_one {fuel : Nat} {listed : Array Bool} {a : Act} {w : World} (i : Nat) (hr : Region.ready md ops listed = [i]) (h : wpOp P ops Q i (fun a' w' => S w' ∧ wpAnyH P md ops Q S fuel (listed.setIfInBounds i true) a' w') a w) : wpAnyH P md ops Q S (fuel + 1) listed a w :=
  wpAnyH_all hr (by simp) fun j hj => by rw [List.mem_singleton] at hj; subst hj; exact h
theorem held_pair {fuel : Nat} {listed : Array Bool} {a : Act} {w : World} (i j : Nat) (hr : Region.ready md ops listed = [i, j]) (h1 : wpOp P ops Q i (fun a' w' => S w' ∧ wpAnyH P md ops Q S fuel (listed.setIfInBounds i true) a' w') a w)
    (h2 : wpOp P ops Q j (fun a' w' => S w' ∧ wpAnyH P md ops Q S fuel (listed.setIfInBounds j true) a' w') a w) : wpAnyH P md ops Q S (fuel + 1) listed a w :=
  wpAnyH_all hr (by simp) fun q hq => by
    simp only [List.mem_cons, List.not_mem_nil, or_false] at hq
    rcases hq with rfl | rfl
    · exact h1
    · exact h2
end
end Go.Proofs.Ytaikjobebbighaa
namespace Go.Proofs.Ytaikjobebbighaa
set_option linter.unusedVariables false
section
variable {P : Program} {ops : Array Oper} {md : Region.Mode} {Q : Exit → Act → World → Prop} {S S' : World → Prop}
/-- An operation that is no call but of len. -/
def noCallL (o : Oper) : Bool := noCall o || (match o.op with
  | .lookup .. => true
  | .slice .. => true
  | .call c => (match c.callee with
    | .builtin .len => true
    | _ => false)
  | _ => false)
theorem sep_valueL {o : Oper} {a : Act} {w : World} {v : Value} {C : World → Prop} (hn : noCallL o = true) (h : o.quietAt P a C w v) : (execOp a.eval o).run P w = .ok (.value v) w := by
  unfold noCallL at hn
  rw [Bool.or_eq_true] at hn
  rcases hn with hn | hn
  · exact sep_value hn h
  · unfold Oper.quietAt at h
    have hne : ∀ n w', (execOp a.eval o).run P w = .ok n w' → ∃ u, n = .value u := fun n w' => by
      obtain ⟨d, op, ty, ps, af, gd⟩ := o
      unfold execOp
      cases op <;> first
        | exact val_only _
        | (exfalso; simp at hn; done)
        | skip
      rename_i c
      obtain ⟨cal, args, ts⟩ := c
      cases cal <;> first
        | (exfalso; simp at hn; done)
        | skip
      rename_i b
      cases b <;> first
        | (exfalso; simp at hn; done)
        | skip
      simp only [resolve, Sem.run_bind, Sem.run_pure, Result.andThen, invoke, builtin]
      intro he
      generalize Sem.run P _ w = r at he
      cases r with
      | halt x w2 => simp at he
      | ok u w2 => simp at he; exact ⟨u, he.1.symm⟩
    generalize (execOp a.eval o).run P w = r at *
    cases r with
    | ok n w' =>
      obtain ⟨u, rfl⟩ := hne n w' rfl
      obtain ⟨rfl, rfl⟩ := h
      rfl
    | halt x w' => simp only [Oper.quietUpon] at h
theorem held_stretchL {C : World → Prop} (hs : Region.noSelect ops = true) (hQ : ∀ c a d v w, Q (.panic c) (a.put (some d) v) w → Q (.panic c) a w) (hC : ∀ w, S w → C w) {w : World} (hS : S w) (fuel : Nat) :
    ∀ (n k : Nat) (listed : Array Bool) (a : Act), stretchB md ops n k listed = true → ((ops.toList.drop k).take n).all noCallL = true → k + n ≤ ops.size →
      wpQuiet P ops C (fun a' => wpAnyH P md ops Q S fuel (setAll n k listed) a' w) ((ops.toList.drop k).take n) a → wpAnyH P md ops Q S (fuel + n) listed a w
  | 0, k, listed, a, _, _, _, h => by simpa [setAll, wpQuiet] using h
  | n + 1, k, listed, a, hB, hn, hk, h => by
    have hlt : k < ops.toList.length := by simp; omega
    have hd : (ops.toList.drop k).take (n + 1) = ops.toList[k] :: (ops.toList.drop (k + 1)).take n := by
      rw [List.drop_eq_getElem_cons hlt, List.take_succ_cons]
    rw [hd] at hn h
    simp only [stretchB, Bool.and_eq_true] at hB
    rw [List.all_cons, Bool.and_eq_true] at hn
    have hi : ops[k]? = some ops.toList[k] := by
      rw [Array.getElem?_eq_getElem (by omega)]; simp
    have step : ∀ v, YieldsIf P ops S ops.toList[k] v a → wpQuiet P ops C (fun a' => wpAnyH P md ops Q S fuel (setAll (n + 1) k listed) a' w) ((ops.toList.drop (k + 1)).take n) (a.put ops.toList[k].dst v) → wpAnyH P md ops Q S (fuel + (n + 1)) listed a w := fun v hy h2 =>
      wpAnyH_take hi hs hB.1.2 hB.1.1 (fun c a w h => by
        cases hd : (ops.toList[k]).dst with
        | none => rw [hd] at h; exact h
        | some d => rw [hd] at h; exact hQ c a d _ w h) hy hS (held_stretchL hs hQ hC hS fuel n (k + 1) _ _ hB.2 hn.2 (by omega) h2)
    unfold wpQuiet at h
    split at h
    · rename_i hw
      obtain ⟨v, hv, hk2⟩ := h
      exact step v (.inl ⟨hw, fun w hw => sep_valueL hn.1 (hv w (hC w hw))⟩) hk2
    · rename_i hw
      exact step undef (.inr ⟨by simpa using hw, rfl⟩) h
theorem op_off {i : Nat} {o : Oper} {K : Act → World → Prop} {sl : Array Value} {df : List Deferred} {w : World} (hi : ops[i]? = some o) (hw : Region.wanted o (yielded ops sl) = false) (h : K ((⟨sl, df⟩ : Act).put o.dst undef) w) : wpOp P ops Q i K { tmps := sl, defers := df } w := by
  unfold wpOp
  simp only [hi, hw, Bool.false_eq_true, if_false]
  exact h
end
end Go.Proofs.Ytaikjobebbighaa
