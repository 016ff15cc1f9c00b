/- Words on memory: a block that is known whole, through draws, new blocks, stores and calls that leave it alone. Words on slices of integers: a slice that reads as a list (nil and empty let in), through draws, new blocks, calls and cuts. A region that draws its order, walked once, in a class of worlds: reads, guards, and calls that may make memory of their own. A region that draws its order and whose calls change the world: readers first, in stretches; each call alone, at the world at hand; what is held grows. A range over a function whose iterator keeps a variable of its own in a box (one cell that it turns between two rounds): the law for the caller. One loop variable, an int. -/
import Derived.Below
import Derived.Laws.OwnMore
import Derived.Laws.Rows
import Derived.Deep.Draws
import Derived.WalkSmall
import Derived.Lib.Hide
import Derived.Deep.AppendLies
import Derived.OwnWalk
import Derived.Maps.AppendAt
import Derived.Laws.AppendOwn
import Derived.WalkKit
import Derived.BigQuiet
import Derived.OrdersHeld
import Derived.RangeFuncFrom
import Derived.RangeFuncBox
import Derived.RangeFuncCalls
import Derived.RangeFuncLeaves
import Derived.Shelf.Abstract
import Derived.Shelf.RegionOpen
import Derived.OwnWalkIn
import Derived.TacticsInMore
import Derived.LoopNIn
import Derived.LoopIn
namespace Go.Proofs.YthigmjjafilbcaaDoor
set_option linter.unusedVariables false
open Go.RowKit
/-- In w, block g is just the cells cs, of element type t, none of them frozen. -/
def Row (w : World) (g : Nat) (t : TypeId) (cs : Array Value) : Prop := w.heap[g]? = some (.cells cs t (0, 0))
section
variable {w w' : World} {g : Nat} {t : TypeId} {cs : Array Value}
theorem Row.lt (h : Row w g t cs) : g < w.heap.size := by
  unfold Row at h
  by_cases hl : g < w.heap.size
  · exact hl
  · rw [Array.getElem?_eq_none (by omega)] at h; cases h
theorem Row.cell (h : Row w g t cs) (i : Nat) : w.cell? ⟨g, i, none⟩ = cs[i]? := cell_of_row w g i cs t (0, 0) h
theorem Row.free (h : Row w g t cs) (i : Nat) : w.frozen? ⟨g, i, none⟩ = false := by unfold Row at h; simp [World.frozen?, h]
theorem Row.new (w : World) (t : TypeId) (cs : Array Value) : Row (w.alloc (.cells cs t)) w.heap.size t cs := heap_alloc_new w _
theorem Row.drew (h : Row w g t cs) : Row w.drew g t cs := h
theorem Row.drewN (h : Row w g t cs) (n : Nat) : Row (w.drewN n) g t cs := h
theorem Row.alloc (h : Row w g t cs) (o : Obj) : Row (w.alloc o) g t cs := (Below.heap_alloc w o g h.lt).trans h
theorem Row.put (h : Row w g t cs) (i : Nat) (u : Value) : Row (w.setCell ⟨g, i, none⟩ u) g t (cs.setIfInBounds i u) := by
  unfold Row at h ⊢
  simp [World.setCell, Array.getElem?_modify, h]
theorem Row.far (h : Row w g t cs) {p : Addr} (hp : g ≠ p.block) (u : Value) : Row (w.setCell p u) g t cs := (Below.heap_setCell w p u g hp).trans h
theorem Row.below {B : Nat} (h : Row w g t cs) (hb : Below B w w') (hg : g < B) : Row w' g t cs := (hb.block g hg).trans h
/-- Over a call that leaves all that was as it was. -/
theorem Row.over (h : Row w g t cs) (hb : Below w.heap.size w w') : Row w' g t cs := h.below hb h.lt
theorem Row.eq {ds : Array Value} (h : Row w g t cs) (e : cs = ds) : Row w g t ds := e ▸ h
theorem Row.ne {g' : Nat} {t' : TypeId} {cs' : Array Value} (h : Row w g t cs) (h' : Row w g' t' cs') (hne : t ≠ t') : g ≠ g' := by
  rintro rfl
  unfold Row at h h'
  rw [h] at h'
  injection h' with h'
  injection h' with _ ht
  exact hne ht
/-- Calls, one behind the other: all that was when the first began is as it was. -/
theorem nextC {a b c : World} (h : Below a.heap.size a b) (k : Below b.heap.size b c) : Below a.heap.size a c := h.trans (k.mono h.size)
theorem nextA {a b c : World} {o : Obj} (h : Below a.heap.size a b) (k : Below (b.alloc o).heap.size (b.alloc o) c) : Below a.heap.size a c := nextC (h.alloc h.size o) k
theorem nextB {a b : World} {o : Obj} (h : Below a.heap.size a b) : Below a.heap.size a (b.alloc o) := h.alloc h.size o
theorem newC {w w' : World} {X : Array Value} {T : TypeId} (hb : Below (w.alloc (.cells X T)).heap.size (w.alloc (.cells X T)) w') : Row w' w.heap.size T X := (Row.new w T X).over hb
end
end Go.Proofs.YthigmjjafilbcaaDoor
namespace Go.Proofs.YthigmjjafilbcaaDoor
set_option linter.unusedVariables false
open Go.RowKit
theorem add_block (a : Addr) (n : Nat) : (a.add n).block = a.block := by unfold Addr.add; split <;> rfl
theorem add_add (a : Addr) (i j : Nat) : (a.add i).add j = a.add (i + j) := by
  unfold Addr.add
  by_cases hi : i = 0 <;> by_cases hj : j = 0 <;> simp [hi, hj, Nat.add_assoc]
/-- The slice at A, as far as xs goes, holds the integers xs. -/
def Sl (w : World) (k : IntKind) (A : Option Addr) (xs : List Int) : Prop :=
  ∀ (j : Nat) (hj : j < xs.length), ∃ ad, A = some ad ∧ ad.block < w.heap.size ∧ w.cell? (ad.add j) = some (.int k xs[j])
section
variable {w w' : World} {k : IntKind} {A : Option Addr} {xs : List Int}
theorem Sl.nil (w : World) (k : IntKind) (A : Option Addr) : Sl w k A [] := fun j hj => absurd hj (by simp)
theorem Sl.at_ {ad : Addr} (h : Sl w k (some ad) xs) {j : Nat} (hj : j < xs.length) : w.cell? (ad.add j) = some (.int k xs[j]) := by
  obtain ⟨ad', e, _, hc⟩ := h j hj
  injection e with e
  subst e
  exact hc
theorem Sl.keep (h : Sl w k A xs) (hz : w.heap.size ≤ w'.heap.size) (hk : ∀ p : Addr, p.block < w.heap.size → w'.cell? p = w.cell? p) : Sl w' k A xs := fun j hj => by
  obtain ⟨ad, e, hb, hc⟩ := h j hj
  exact ⟨ad, e, Nat.lt_of_lt_of_le hb hz, (hk _ (by rw [add_block]; exact hb)).trans hc⟩
theorem Sl.over (h : Sl w k A xs) (hb : Below w.heap.size w w') : Sl w' k A xs := h.keep hb.size fun _ hp => hb.cell hp
theorem Sl.drew (h : Sl w k A xs) : Sl w.drew k A xs := h
theorem Sl.drewN (h : Sl w k A xs) (n : Nat) : Sl (w.drewN n) k A xs := h
theorem Sl.alloc (h : Sl w k A xs) (o : Obj) : Sl (w.alloc o) k A xs := h.keep (by simp) fun p hp => World.cell?_alloc_lt w o p hp
theorem Sl.cut (h : Sl w k A xs) {n cap : Nat} (hc : xs.length ≤ cap) : Sl w k (if cap = n then A else A.map (·.add n)) (xs.drop n) := fun j hj => by
  rw [List.length_drop] at hj
  obtain ⟨ad, rfl, hb, hcell⟩ := h (n + j) (by omega)
  rw [if_neg (by omega)]
  refine ⟨ad.add n, rfl, by rw [add_block]; exact hb, ?_⟩
  rw [add_add, hcell, List.getElem_drop]
theorem Sl.take (h : Sl w k A xs) (n : Nat) : Sl w k A (xs.take n) := fun j hj => by
  rw [List.length_take] at hj
  obtain ⟨ad, e, hb, hcell⟩ := h j (by omega)
  exact ⟨ad, e, hb, by rw [hcell, List.getElem_take]⟩
theorem Sl.of_own {base : Nat} {e : TypeId} {n c : Nat} (h : w.ownsRow base e 1 (.slice A n c) n (xs.map (Value.int k))) : Sl w k A xs := fun j hj => by
  have hn : n = xs.length := by have := h.1; simp at this; omega
  obtain ⟨g, cap, hv, _, hlt⟩ := h.form (by omega)
  have hA : A = some ⟨g, 0, none⟩ := by injection hv
  subst hA
  refine ⟨_, rfl, hlt, ?_⟩
  exact h.cells (g := g) rfl j _ (by simp [hj])
/-- What a row of the call's own is. -/
theorem own_form {base : Nat} {e : TypeId} {v : Value} {n : Nat} {ys : List Value} (h : w.ownsRow base e 1 v n ys) : ∃ B d, v = .slice B n d ∧ n ≤ d ∧ d ≤ maxLen := by
  rcases h.2 with ⟨rfl, rfl⟩ | ⟨g, cap, cur, rfl, _, _, h1, h2, _⟩
  · exact ⟨none, 0, rfl, Nat.le_refl _, Nat.zero_le _⟩
  · exact ⟨_, _, rfl, h1, h2⟩
theorem Sl.of_own' {base : Nat} {e : TypeId} {B : Option Addr} {d : Nat} (h : w.ownsRow base e 1 (.slice B xs.length d) xs.length (xs.map (Value.int k))) : Sl w k B xs := Sl.of_own h
/-- A slice that holds something has an address. -/
theorem Sl.some_ (h : Sl w k A xs) (hx : xs ≠ []) : ∃ ad, A = some ad := by
  obtain ⟨ad, e, _⟩ := h 0 (List.length_pos_iff.2 hx)
  exact ⟨ad, e⟩
theorem Sl.cells {ad : Addr} (h : Sl w k (some ad) xs) : ∀ j u, (xs.map (Value.int k))[j]? = some u → w.cell? (ad.add j) = some u := fun j u hu => by
  have hj : j < xs.length := by
    have := (List.getElem?_eq_some_iff.1 hu).1
    simpa using this
  rw [h.at_ hj, ← hu]
  simp [List.getElem?_eq_getElem hj]
end
end Go.Proofs.YthigmjjafilbcaaDoor
namespace Go.Proofs.YthigmjjafilbcaaDoor
set_option linter.unusedVariables false
/-- The worlds that hold S, by letters. -/
theorem class_of (S : World → Prop) (w : World) (h : S w) : ∃ (T : Type) (f : T → World), Nonempty T ∧ (∀ n, S (f n)) ∧ ∀ v, S v → ∃ n, v = f n :=
  ⟨{v // S v}, Subtype.val, ⟨⟨w, h⟩⟩, fun n => n.2, fun v h => ⟨⟨v, h⟩, rfl⟩⟩
theorem wp_region_class {P : Program} {id : Nat} {Q : Exit → Act → World → Prop} {a : Act} {w : World} {l : List Oper} {T : Type} (f : T → World) (hm : P.follows .mixedOrders = true) (hB : Region.lexB .any l.toArray = true) (h0 : ∃ n, w.drew = f n)
    (h : wpQuiet P l.toArray (fun w' => ∃ n, w' = f n) (fun a' => ∀ w', (∃ n, w' = f n) → Q .normal a' w') l a) : (Code.region id l.toArray true).wp P Q a w :=
  wp_region_quiet (C := fun w' => ∃ n, w' = f n) hm hB h0 (by simpa using h)
end Go.Proofs.YthigmjjafilbcaaDoor
namespace Go.Proofs.YthigmjjafilbcaaDoor
set_option linter.unusedVariables false
section
variable {P : Program} {ops : Array Oper} {md : Region.Mode} {Q : Exit → Act → World → Prop} {S S' : World → Prop}
/-- What is held may say less. -/
theorem held_mono (h : ∀ w, S' w → S w) : ∀ (fuel : Nat) (listed : Array Bool) (a : Act) (w : World), wpAnyH P md ops Q S' fuel listed a w → wpAnyH P md ops Q S fuel listed a w
  | 0, _, _, _, hh => hh
  | fuel + 1, _, _, _, hh => ⟨hh.1, fun i hi => wpOp_mono (fun a' w' h' => ⟨h _ h'.1, held_mono h fuel _ a' w' h'.2⟩) (hh.2 i hi)⟩
/-- An operation that is no call: it enters nothing. -/
def noCall (o : Oper) : Bool := match o.op with
  | .move _ | .assign _ | .load .. | .fieldAddr .. | .indexAddr .. | .binOp .. | .unOp .. | .pick .. | .extract .. | .build .. | .convert .. | .field .. | .nilCheck _ => true
  | _ => false
theorem val_only {w w' : World} {n : Next} (s : Sem Value) (h : Sem.run P (do pure (Next.value (← s))) w = .ok n w') : ∃ u, n = .value u := by
  rw [Sem.run_bind] at h
  cases hs : s.run P w <;> rw [hs] at h <;> simp [Result.andThen, Sem.run_pure] at h
  exact ⟨_, h.1.symm⟩
theorem sep_value {o : Oper} {a : Act} {w : World} {v : Value} {C : World → Prop} (hn : noCall o = true) (h : o.quietAt P a C w v) : (execOp a.eval o).run P w = .ok (.value v) w := by
  unfold Oper.quietAt at h
  have hne : ∀ n w', (execOp a.eval o).run P w = .ok n w' → ∃ u, n = .value u := fun n w' => by
    obtain ⟨d, op, ty, ps, af, gd⟩ := o
    unfold noCall at hn
    unfold execOp
    cases op <;> first
      | exact val_only _
      | (exfalso; simp at hn; done)
      | (simp only [Sem.run_pure]; intro e; cases e; exact ⟨_, rfl⟩)
      | (simp only [Sem.run_bind, Sem.run_pure]; cases Sem.run P (asBool _) w <;> simp [Result.andThen]; intro e _; exact ⟨_, e.symm⟩)
      | skip
    all_goals
      intro he
      simp only at he
      split at he
      · simp [runtimePanic] at he
      · simp [runtimePanic] at he
      · simp [runtimePanic] at he
      · split at he
        · simp [runtimePanic] at he
        · simp only [Sem.run_bind] at he
          generalize Sem.run P program w = r1 at he
          cases r1 with
          | halt x w2 => simp [Result.andThen] at he
          | ok p w2 =>
            simp only [Result.andThen] at he
            generalize hr : Sem.run P (nilAhead _ _ _ _) w2 = r2 at he
            cases r2 with
            | halt x w3 => simp at he
            | ok b w3 =>
              simp only at he
              split at he
              · simp [Result.andThen] at he
              · simp [Sem.run_pure] at he
                exact ⟨_, he.1.symm⟩
        · simp only [Sem.run_pure] at he; cases he; exact ⟨_, rfl⟩
      · simp only [Sem.run_pure] at he; cases he; exact ⟨_, rfl⟩
  generalize (execOp a.eval o).run P w = r at *
  cases r with
  | ok n w' =>
    obtain ⟨u, rfl⟩ := hne n w' rfl
    obtain ⟨rfl, rfl⟩ := h
    rfl
  | halt x w' => simp only [Oper.quietUpon] at h
/-- A stretch: from k on, n operations; may each come up in turn, and is nobody touched by it? -/
def stretchB (md : Region.Mode) (ops : Array Oper) : Nat → Nat → Array Bool → Bool
  | 0, _, _ => true
  | n + 1, k, listed => (Region.ready md ops listed).contains k && Region.free md ops listed k && stretchB md ops n (k + 1) (listed.setIfInBounds k true)
def setAll : Nat → Nat → Array Bool → Array Bool
  | 0, _, listed => listed
  | n + 1, k, listed => setAll n (k + 1) (listed.setIfInBounds k true)
theorem held_stretch {C : World → Prop} (hs : Region.noSelect ops = true) (hQ : ∀ c a d v w, Q (.panic c) (a.put (some d) v) w → Q (.panic c) a w) (hC : ∀ w, S w → C w) {w : World} (hS : S w) (fuel : Nat) :
    ∀ (n k : Nat) (listed : Array Bool) (a : Act), stretchB md ops n k listed = true → ((ops.toList.drop k).take n).all noCall = true → k + n ≤ ops.size →
      wpQuiet P ops C (fun a' => wpAnyH P md ops Q S fuel (setAll n k listed) a' w) ((ops.toList.drop k).take n) a → wpAnyH P md ops Q S (fuel + n) listed a w
  | 0, k, listed, a, _, _, _, h => by simpa [setAll, wpQuiet] using h
  | n + 1, k, listed, a, hB, hn, hk, h => by
    have hlt : k < ops.toList.length := by simp; omega
    have hd : (ops.toList.drop k).take (n + 1) = ops.toList[k] :: (ops.toList.drop (k + 1)).take n := by
      rw [List.drop_eq_getElem_cons hlt, List.take_succ_cons]
    rw [hd] at hn h
    simp only [stretchB, Bool.and_eq_true] at hB
    rw [List.all_cons, Bool.and_eq_true] at hn
    have hi : ops[k]? = some ops.toList[k] := by
      rw [Array.getElem?_eq_getElem (by omega)]; simp
    have step : ∀ v, YieldsIf P ops S ops.toList[k] v a → wpQuiet P ops C (fun a' => wpAnyH P md ops Q S fuel (setAll (n + 1) k listed) a' w) ((ops.toList.drop (k + 1)).take n) (a.put ops.toList[k].dst v) → wpAnyH P md ops Q S (fuel + (n + 1)) listed a w := fun v hy h2 =>
      wpAnyH_take hi hs hB.1.2 hB.1.1 (fun c a w h => by
        cases hd : (ops.toList[k]).dst with
        | none => rw [hd] at h; exact h
        | some d => rw [hd] at h; exact hQ c a d _ w h) hy hS (held_stretch hs hQ hC hS fuel n (k + 1) _ _ hB.2 hn.2 (by omega) h2)
    unfold wpQuiet at h
    split at h
    · rename_i hw
      obtain ⟨v, hv, hk2⟩ := h
      exact step v (.inl ⟨hw, fun w hw => sep_value hn.1 (hv w (hC w hw))⟩) hk2
    · rename_i hw
      exact step undef (.inr ⟨by simpa using hw, rfl⟩) h
theorem enter_of {f : FuncId} {fn : Func} (hf : P.funcs[f]? = some fn) (hname : (fn.name == "runtime.NumGoroutine") = false) (hb : fn.body.isNone = false) (args : Array Value) (w : World) : (callFunc f args).run P w = .ok (.enter f args) w := by
  have h1 : fn.name ≠ "runtime.NumGoroutine" := by simpa using hname
  have h2 : fn.body ≠ none := by cases h : fn.body <;> simp_all
  simp [callFunc, hf, h1, h2]
/-- A call, alone. -/
theorem held_call {fuel : Nat} {listed : Array Bool} {sl : Array Value} {df : List Deferred} {w : World} (i : Nat) (o : Oper) (d : Tmp) (f : FuncId) (args : Array Operand) (ts : Array TypeId) (vs : Array Value) (hr : Region.ready md ops listed = [i]) (hi : ops[i]? = some o) (hd : o.dst = some d) (hop : o.op = Op.call { callee := .value (.func f), args := args, argTypes := ts })
    (hin : ∀ (args : Array Value) (w : World), (callFunc f args).run P w = .ok (.enter f args) w) (hw : Region.wanted o (yielded ops sl) = true) (hv : args.map (Act.eval { tmps := sl, defers := df }) = vs)
    (hc : Calls P f vs w fun e w' => ∃ v, e = .returned v ∧ S w' ∧ wpAnyH P md ops Q S fuel (listed.setIfInBounds i true) { tmps := sl.setIfInBounds d v, defers := df } w') : wpAnyH P md ops Q S (fuel + 1) listed { tmps := sl, defers := df } w := by
  refine wpAnyH_all hr (by simp) fun j hj => ?_
  rw [List.mem_singleton] at hj
  subst hj
  unfold wpOp
  simp only [hi, hw, if_true]
  left
  have hrun : (execOp (Act.eval { tmps := sl, defers := df }) o).run P w = .ok (.enter f vs) w := by
    unfold execOp
    have hv' : args.map (fun x => Act.eval { tmps := sl, defers := df } x) = vs := hv
    simp [hop, resolve, invoke, hv', BigFrame.eval_func, Deferred.ofValue, hin]
  unfold Oper.wp
  rw [hrun, Oper.upon_enter]
  refine hc.mono fun e w' ⟨v, he, h1, h2⟩ => ?_
  subst he
  rw [hd]
  exact ⟨h1, h2⟩
end
end Go.Proofs.YthigmjjafilbcaaDoor
namespace Go.Proofs.YthigmjjafilbcaaDoor
set_option linter.unusedVariables false
open Go.RowKit
/-- The iterator's word: one that turns the box bn alone. 'S1 pre x': x may come behind pre. 'Kp': what it asks a round to keep. -/
def SeqBox (F : Fence) (n : Nat) (P : Program) (g : Nat) (lb : Array Value) (bn : Nat) (Kp : World → World → Prop) (S1 : List Int → Int → Prop) (S Sp : List Int → Prop) (Start : World → Prop) : Prop :=
  ∀ (l : Nat) (J Jx : List Int → World → Prop) (W : World), Start W → (∀ s V u, J s V → J s (V.setCell ⟨bn, 0, none⟩ u)) →
    (∀ pre x V, J pre V → S1 pre x → YieldAt F (n - 1) P l #[.int .i64 x] V fun e V' => (e = .returned (.bool true) ∧ J (pre ++ [x]) V' ∧ Kp V V') ∨ (e = .returned (.bool false) ∧ Jx (pre ++ [x]) V')) →
    J [] W → CallsIn F n P g (#[.func (.yield l) #[] #[]] ++ lb) W fun e W' => (∃ v, e = .returned v) ∧ ((∃ xs, S xs ∧ J xs W') ∨ (∃ pre, Sp pre ∧ Jx pre W'))
def boxPost (Kp : World → World → Prop) (I : List Int → World → Prop) (Ix : Code → List Int → World → Prop) (xs : List Int) (W : World) : Exit → Act → World → Prop
  | .normal, _, W' => KeepsOthers W W' ∧ Kp W W' ∧ I xs W'
  | .ret, _, W' => KeepsOthers W W' ∧ Ix .ret xs W'
  | .exit id, _, W' => KeepsOthers W W' ∧ Ix (.exit id) xs W'
  | .goto t, _, W' => KeepsOthers W W' ∧ Ix (.goto t) xs W'
  | .panic _, _, _ => False
  | .outgrown, _, _ => False
variable {F : Fence} {n : Nat} {P : Program}
theorem wpIn_rangeFunc_box {g : Operand} {p : Tmp} {assign body : Code} {Q : Exit → Act → World → Prop} {a : Act} {w : World}
    (hro : F.round = none) (h1 : 1 ≤ n) {gf : Nat} {lb : Array Value} (hg : a.eval g = .func (.func gf) #[] lb) (hFg : F.fn gf) (eg : ∀ args w, (callFunc gf args).run P w = .ok (.enter gf args) w)
    {bn : Nat} (hbn : bn < w.heap.size) {Kp : World → World → Prop} {S1 : List Int → Int → Prop} {S Sp : List Int → Prop} {Start : World → Prop} (hseq : SeqBox F (n - 1) P gf lb bn Kp S1 S Sp Start)
    (hst : ∀ o o', Start ((w.alloc o).alloc o'))
    (hKt : ∀ {A B C : World}, Kp A B → Kp B C → Kp A C) (hKb : ∀ (W : World) (l : Nat) (o' : Obj), w.heap.size ≤ l → Kp W (W.putObj l o'))
    (I : List Int → World → Prop) (Ix : Code → List Int → World → Prop) (hI : OwnFrom w.heap.size I) (hIx : ∀ c, OwnFrom w.heap.size (Ix c)) (hIs : ∀ s V u, I s V → I s (V.setCell ⟨bn, 0, none⟩ u)) (h0 : I [] w) (a₁ : Int → Act)
    (hassign : ∀ (l : Nat) (x : Int) (W : World) (K : Act → World → Prop), K (a₁ x) W →
      assign.wpIn (F.inRound l) (n - 1 - 1) P (Exit.then K (fun _ _ _ => False)) { tmps := ((#[p] : Array Tmp).zip (#[.int .i64 x] : Array Value)).foldl (fun t (p, v) => t.setIfInBounds p v) a.tmps, defers := [] } W)
    (hbody : ∀ (l : Nat) (pre : List Int) (x : Int) (W : World), I pre W → S1 pre x → body.wpIn (F.inRound l) (n - 1 - 1) P (boxPost Kp I Ix (pre ++ [x]) W) (a₁ x) W)
    (hdone : ∀ (D : Nat) (xs : List Int) (W : World), w.heap.size ≤ D → S xs → I xs W → W.heap[D]? = some (.deferred (some [])) → Q .normal { a with defers := { target := .collected D, args := #[] } :: a.defers } W)
    (hstop : ∀ (D : Nat) (c : Code) (pre : List Int) (W : World), w.heap.size ≤ D → Sp pre → Ix c pre W → W.heap[D]? = some (.deferred (some [])) → c.wpIn F n P Q { a with defers := { target := .collected D, args := #[] } :: a.defers } W) :
    (Code.rangeFunc g #[p] assign body).wpIn F n P Q a w := by
  refine wpIn_rangeFunc fun fn hfn => ?_
  rw [hro]
  obtain ⟨rec, hrec⟩ : ∃ rec : LoopState → Option Code → Loop, rec = fun st pe => { state := st, pending := pe, fn, tmps := a.tmps, params := #[p], assign, body, defers := w.heap.size } := ⟨_, rfl⟩
  obtain ⟨D, hD⟩ : ∃ D, w.heap.size = D := ⟨_, rfl⟩
  obtain ⟨L, hL⟩ : ∃ L, w.heap.size + 1 = L := ⟨_, rfl⟩
  obtain ⟨W1, hW1⟩ : ∃ W1, (w.alloc (.deferred (some []))).alloc (.loop (rec .ready none)) = W1 := ⟨_, rfl⟩
  have hL1 : W1.heap[L]? = some (.loop (rec .ready none)) := by
    rw [← hW1, ← hL]; have := World.alloc_heap_new (w.alloc (.deferred (some []))) (.loop (rec .ready none)); rwa [World.size_alloc] at this
  have hD1 : W1.heap[D]? = some (.deferred (some [])) := by
    rw [← hW1, ← hD]; exact (Below.heap_alloc _ _ _ (by simp)).trans (World.alloc_heap_new w _)
  have hi1 : I [] W1 := by rw [← hW1]; exact hI.alloc _ (hI.alloc _ h0)
  have far : ∀ (V : World) (u : Value) (q : Nat), q = L ∨ q = D → (V.setCell ⟨bn, 0, none⟩ u).heap[q]? = V.heap[q]? := fun V u q hq => Below.heap_setCell V ⟨bn, 0, none⟩ u q (by show q ≠ bn; omega)
  refine ⟨w.heap.size + 1, [{ target := .collected w.heap.size, args := #[] }], W1, { target := .fn (.func gf) lb, args := #[.func (.yield (w.heap.size + 1)) #[] #[]] }, W1, gf,
    #[.func (.yield (w.heap.size + 1)) #[] #[]] ++ lb, W1, ?_, ?_, ?_, ?_, fun _ => h1, ?_⟩
  · rw [← hW1, hrec]; exact run_enterLoop_outer _ _ _ _ _
  · simp only [resolve, hg]
    simp [go_sem]
  · intro f' hf'; simp [Target.leads] at hf'; subst hf'; exact hFg
  · simp [invoke, go_sem, eg]
  rw [hL, hD]
  have le : w.heap.size ≤ L := by omega
  have leD : w.heap.size ≤ D := by omega
  have ne : D ≠ L := by omega
  refine (hseq L (fun pre W => I pre W ∧ W.heap[L]? = some (.loop (rec .ready none)) ∧ W.heap[D]? = some (.deferred (some [])))
    (fun pre W => ∃ c, Ix c pre W ∧ W.heap[L]? = some (.loop (rec .done (some c))) ∧ W.heap[D]? = some (.deferred (some []))) W1 (by rw [← hW1]; exact hst _ _)
    (fun s V u ⟨g1, g2, g3⟩ => ⟨hIs s V u g1, (far V u L (.inl rfl)).trans g2, (far V u D (.inr rfl)).trans g3⟩) ?_ ⟨hi1, hL1, hD1⟩).mono ?_
  · rintro pre x W ⟨hi, hl, hk⟩ hs1
    have hlt : L < W.heap.size := (Array.getElem?_eq_some_iff.1 hl).1
    have hy := run_yield (P := P) (args := #[.int .i64 x]) hl (by rw [hrec]; rfl)
    rw [hrec] at hy
    refine ⟨fn, _, assign, body, hy, roundIn_of_wpIn hfn (hassign _ x W _ ⟨_, run_beginRound hl (by rw [hrec]), ?_⟩)⟩
    obtain ⟨busy, hbusy⟩ : ∃ busy : Loop, ({ rec .ready none with state := .busy } : Loop) = busy := ⟨_, rfl⟩
    rw [hbusy]
    have hl2 : (W.putObj L (.loop busy)).heap[L]? = some (.loop busy) := World.putObj_heap_same hlt
    have hk2 : (W.putObj L (.loop busy)).heap[D]? = some (.deferred (some [])) := (World.putObj_heap_other ne).trans hk
    refine wpIn_mono (hbody _ pre x _ (hI.putObj _ hi le hl rfl) hs1) ?_
    have fin : ∀ (jump : Option Code) (W3 : World), KeepsOthers (W.putObj L (.loop busy)) W3 →
        (Instr.endRound L jump).run P W3 = .ok (.bool jump.isNone) (W3.putObj L (.loop (rec (if jump.isNone then .ready else .done) jump))) ∧
        W3.heap[L]? = some (.loop busy) ∧
        (W3.putObj L (.loop (rec (if jump.isNone then .ready else .done) jump))).heap[L]? = some (.loop (rec (if jump.isNone then .ready else .done) jump)) ∧
        (W3.putObj L (.loop (rec (if jump.isNone then .ready else .done) jump))).heap[D]? = some (.deferred (some [])) := fun jump W3 hk3 => by
      have hl3 := hk3.same _ _ hl2 rfl
      refine ⟨?_, hl3, World.putObj_heap_same (Array.getElem?_eq_some_iff.1 hl3).1, (World.putObj_heap_other ne).trans (hk3.same _ _ hk2 rfl)⟩
      rw [← hbusy] at hl3
      have := run_endRound (P := P) jump hl3
      rw [hrec] at this ⊢
      exact this
    rintro e a3 W3 hp
    cases e with
    | normal =>
      obtain ⟨hk3, hkp3, hi3⟩ := hp
      obtain ⟨hr, hl3, hl4, hk4⟩ := fin none W3 hk3
      exact ⟨_, _, hr, .inl ⟨rfl, ⟨hI.putObj _ hi3 le hl3 rfl, hl4, hk4⟩, hKt (hKt (hKb _ _ _ le) hkp3) (hKb _ _ _ le)⟩⟩
    | ret =>
      obtain ⟨hk3, hi3⟩ := hp
      obtain ⟨hr, hl3, hl4, hk4⟩ := fin (some .ret) W3 hk3
      exact ⟨_, _, hr, .inr ⟨rfl, .ret, (hIx _).putObj _ hi3 le hl3 rfl, hl4, hk4⟩⟩
    | exit id =>
      obtain ⟨hk3, hi3⟩ := hp
      obtain ⟨hr, hl3, hl4, hk4⟩ := fin (some (.exit id)) W3 hk3
      exact ⟨_, _, hr, .inr ⟨rfl, .exit id, (hIx _).putObj _ hi3 le hl3 rfl, hl4, hk4⟩⟩
    | goto t =>
      obtain ⟨hk3, hi3⟩ := hp
      obtain ⟨hr, hl3, hl4, hk4⟩ := fin (some (.goto t)) W3 hk3
      exact ⟨_, _, hr, .inr ⟨rfl, .goto t, (hIx _).putObj _ hi3 le hl3 rfl, hl4, hk4⟩⟩
    | panic ch => exact hp.elim
    | outgrown => exact hp.elim
  · rintro e W2 ⟨⟨v, rfl⟩, (⟨xs, hS, hi, hl, hk⟩ | ⟨pre, hSp, c, hi, hl, hk⟩)⟩
    · exact ⟨none, _, by have := run_endLoop (P := P) hl (by rw [hrec]; simp); rw [hrec] at this; exact this, hdone _ xs _ leD hS (hI.putObj _ hi le hl rfl) ((World.putObj_heap_other ne).trans hk)⟩
    · exact ⟨some c, _, by have := run_endLoop (P := P) hl (by rw [hrec]; simp); rw [hrec] at this; exact this, hstop _ c pre _ leD hSp ((hIx c).putObj _ hi le hl rfl) ((World.putObj_heap_other ne).trans hk)⟩
/-- The same, where the loop's variable is the slot q. -/
theorem wpIn_rangeFunc_box1 (q : Tmp) {g : Operand} {p : Tmp} {assign body : Code} {Q : Exit → Act → World → Prop} {a : Act} {w : World}
    (hro : F.round = none) (h1 : 1 ≤ n) {gf : Nat} {lb : Array Value} (hg : a.eval g = .func (.func gf) #[] lb) (hFg : F.fn gf) (eg : ∀ args w, (callFunc gf args).run P w = .ok (.enter gf args) w)
    {bn : Nat} (hbn : bn < w.heap.size) {Kp : World → World → Prop} {S1 : List Int → Int → Prop} {S Sp : List Int → Prop} {Start : World → Prop} (hseq : SeqBox F (n - 1) P gf lb bn Kp S1 S Sp Start)
    (hst : ∀ o o', Start ((w.alloc o).alloc o'))
    (hKt : ∀ {A B C : World}, Kp A B → Kp B C → Kp A C) (hKb : ∀ (W : World) (l : Nat) (o' : Obj), w.heap.size ≤ l → Kp W (W.putObj l o'))
    (I : List Int → World → Prop) (Ix : Code → List Int → World → Prop) (hI : OwnFrom w.heap.size I) (hIx : ∀ c, OwnFrom w.heap.size (Ix c)) (hIs : ∀ s V u, I s V → I s (V.setCell ⟨bn, 0, none⟩ u)) (h0 : I [] w)
    (hassign : ∀ (l : Nat) (x : Int) (W : World) (K : Act → World → Prop), K { tmps := (((#[p] : Array Tmp).zip (#[.int .i64 x] : Array Value)).foldl (fun t (p, v) => t.setIfInBounds p v) a.tmps).setIfInBounds q (.int .i64 x), defers := [] } W →
      assign.wpIn (F.inRound l) (n - 1 - 1) P (Exit.then K (fun _ _ _ => False)) { tmps := ((#[p] : Array Tmp).zip (#[.int .i64 x] : Array Value)).foldl (fun t (p, v) => t.setIfInBounds p v) a.tmps, defers := [] } W)
    (hbody : ∀ (l : Nat) (pre : List Int) (x : Int) (W : World), I pre W → S1 pre x → body.wpIn (F.inRound l) (n - 1 - 1) P (boxPost Kp I Ix (pre ++ [x]) W) { tmps := (((#[p] : Array Tmp).zip (#[.int .i64 x] : Array Value)).foldl (fun t (p, v) => t.setIfInBounds p v) a.tmps).setIfInBounds q (.int .i64 x), defers := [] } W)
    (hdone : ∀ (D : Nat) (xs : List Int) (W : World), w.heap.size ≤ D → S xs → I xs W → W.heap[D]? = some (.deferred (some [])) → Q .normal { a with defers := { target := .collected D, args := #[] } :: a.defers } W)
    (hstop : ∀ (D : Nat) (c : Code) (pre : List Int) (W : World), w.heap.size ≤ D → Sp pre → Ix c pre W → W.heap[D]? = some (.deferred (some [])) → c.wpIn F n P Q { a with defers := { target := .collected D, args := #[] } :: a.defers } W) :
    (Code.rangeFunc g #[p] assign body).wpIn F n P Q a w :=
  wpIn_rangeFunc_box hro h1 hg hFg eg hbn hseq hst hKt hKb I Ix hI hIx hIs h0 _ hassign hbody hdone hstop
end Go.Proofs.YthigmjjafilbcaaDoor
