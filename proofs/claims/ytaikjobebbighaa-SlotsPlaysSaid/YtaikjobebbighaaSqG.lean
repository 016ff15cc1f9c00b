/- Slots: the calls at both books, by what they give. -/
import Derived.Test.YtaikjobebbighaaSqF
namespace Go.Proofs.Ytaikjobebbighaa
set_option linter.unusedVariables false
set_option maxRecDepth 100000
open Go.RowKit
theorem serveE_out (size i : Int) : ∀ (T pre : List En), (serveE size i pre T).2.length ≤ T.length
  | [], pre => by simp [serveE]
  | a :: t, pre => by
    unfold serveE
    split
    · split
      · simp
      · have := serveE_out size i t (pre ++ [a.held])
        simp only [List.length_cons]
        omega
    · have := serveE_out size i t (pre ++ [a])
      simp only [List.length_cons]
      omega
theorem addRb_L (r : Rb) (k : Key) : (addRb r k).L = r.L := by unfold addRb; split <;> rfl
theorem setRb_out (r : Rb) (k : Key) (n : Int) : (setRb r k n).2.1.length ≤ r.L.length := by
  unfold setRb
  split
  · simp
  split
  · simp
  split
  · simp
  · refine Nat.le_trans (serveE_out _ _ _ _) ?_
    show (addRb r k).L.length ≤ _
    rw [addRb_L]
    exact Nat.le_refl _
theorem freeRb_out (r : Rb) (k : Key) (t : Int) : (freeRb r k t).2.1.length ≤ r.L.length := by
  unfold freeRb
  split
  · simp
  · refine Nat.le_trans (serveE_out _ _ _ _) ?_
    show (r.L.take _ ++ r.L.drop _).length ≤ _
    rw [List.length_append, List.length_take, List.length_drop]
    omega
section
variable {M : Nat} {w : World} {g b : Nat} {st st' : Bk} {ys : List Wh} {p : Nat} {z : Za} {r r' : Rb} {k : Key}
theorem BkAt.set (h : BkAt w g b st ys) (ok : BkOk M st) (hk : k.length ≤ 1000000) {x : Int} {out : List Pl} {er : Int} (eq : setB st k x = (st', out, er)) :
    Calls Try.prog 11 #[.pointer (some ⟨g, 0, none⟩), nm k, .int .i64 x] w fun e w' => ∃ (B : Option Addr) (d : Nat) (ys' : List Wh), e = .returned (.tuple #[.slice B out.length d, .int .i64 er]) ∧ PlO w.heap.size w' B d out ∧ Turn w w' g b ys st' ys' :=
  (set_any M g b st ys k x w h ok hk).mono fun e w' ⟨B, d, ys', h1, h2, h3⟩ => by
    rw [eq] at h1 h2 h3
    exact ⟨B, d, ys', h1, h2.row, h3⟩
theorem BkAt.free (h : BkAt w g b st ys) (ok : BkOk M st) (hk : k.length ≤ 1000000) {x : Int} {out : List Pl} {er : Int} (eq : freeB st k x = (st', out, er)) :
    Calls Try.prog 13 #[.pointer (some ⟨g, 0, none⟩), nm k, .int .u64 x] w fun e w' => ∃ (B : Option Addr) (d : Nat) (ys' : List Wh), e = .returned (.tuple #[.slice B out.length d, .int .i64 er]) ∧ PlO w.heap.size w' B d out ∧ Turn w w' g b ys st' ys' :=
  (free_any M g b st ys k x w h ok hk).mono fun e w' ⟨B, d, ys', h1, h2, h3⟩ => by
    rw [eq] at h1 h2 h3
    exact ⟨B, d, ys', h1, h2.row, h3⟩
theorem BkAt.ask (h : BkAt w g b st ys) (ok : BkOk M st) (hM : M + 1 ≤ 100000) (hk : k.length ≤ 1000000) {x1 x2 : Int} {held : Bool} {er : Int} (eq : askB st k (x1, x2) = (st', held, er)) :
    Calls Try.prog 12 #[.pointer (some ⟨g, 0, none⟩), nm k, .agg #[.int .u64 x1, .int .i64 x2]] w fun e w' => ∃ (ys' : List Wh), e = .returned (.tuple #[.bool held, .int .i64 er]) ∧ Turn w w' g b ys st' ys' :=
  (ask_any M g b st ys k x1 x2 w h ok hM hk).mono fun e w' ⟨ys', h1, h3⟩ => by
    rw [eq] at h1 h3
    exact ⟨ys', h1, h3⟩
theorem RfAt.set (h : RfZ w p r z) (ok : RbOk r) (hk : k.length ≤ 1000000) {x : Int} {L : List Int} {er : Int} (eq : setRb r k x = (r', L, er)) :
    Calls Try.prog 18 #[.pointer (some ⟨p, 0, none⟩), nm k, .int .i64 x] w fun e w' => ∃ (B : Option Addr) (d : Nat) (z' : Za), e = .returned (.tuple #[.slice B L.length d, .int .i64 er]) ∧ RkO enU 1 28 w.heap.size w' B d L ∧ RTurn w w' p z r' z' := by
  refine (refSet_any p r z k x w h ok hk).mono fun e w' hh => ?_
  rw [eq] at hh
  exact hh
theorem RfAt.free (h : RfZ w p r z) (ok : RbOk r) {x : Int} {L : List Int} {er : Int} (eq : freeRb r k x = (r', L, er)) :
    Calls Try.prog 22 #[.pointer (some ⟨p, 0, none⟩), nm k, .int .u64 x] w fun e w' => ∃ (B : Option Addr) (d : Nat) (z' : Za), e = .returned (.tuple #[.slice B L.length d, .int .i64 er]) ∧ RkO enU 1 28 w.heap.size w' B d L ∧ RTurn w w' p z r' z' := by
  refine (refFree_any p r z k x w h ok).mono fun e w' hh => ?_
  rw [eq] at hh
  exact hh
theorem RfAt.ask (h : RfZ w p r z) (ok : RbOk r) {x1 x2 : Int} {held : Bool} {er : Int} (eq : askRb r k (x1, x2) = (r', held, er)) :
    Calls Try.prog 21 #[.pointer (some ⟨p, 0, none⟩), nm k, .int .u64 x1, .int .i64 x2] w fun e w' => ∃ (z' : Za), e = .returned (.tuple #[.bool held, .int .i64 er]) ∧ RTurn w w' p z r' z' := by
  refine (refAsk_any p r z k x1 x2 w h ok).mono fun e w' hh => ?_
  rw [eq] at hh
  exact hh
end
theorem setRb_names (r : Rb) (k : Key) (n : Int) : ∀ x ∈ (setRb r k n).1.names, x ∈ r.names ∨ x.length ≤ 32 := by
  unfold setRb
  split
  · exact fun x hx => .inl hx
  split
  · exact fun x hx => .inl hx
  split
  · exact fun x hx => .inl hx
  rename_i h1 h2 h3
  intro x hx
  change x ∈ (addRb r k).names at hx
  unfold addRb at hx
  split at hx
  · rcases List.mem_append.1 hx with e | e
    · exact .inl e
    · rw [List.mem_singleton.1 e]
      exact .inr (by omega)
  · exact .inl hx
theorem askRb_names (r : Rb) (k : Key) (x : Pl) : (askRb r k x).1.names = r.names := by
  unfold askRb
  split
  · rfl
  split
  · rfl
  split
  · rfl
  split <;> rfl
theorem freeRb_names (r : Rb) (k : Key) (t : Int) : (freeRb r k t).1.names = r.names := by
  unfold freeRb
  split <;> rfl
/-- How the two stand to each other. -/
structure Both (M : Nat) (st : Bk) (r : Rb) : Prop where
  rel : Rel st r
  ok : BkOk M st
  rok : RbN M r
  nms : ∀ x ∈ r.names, x.length ≤ 32
theorem Both.nil : Both 0 [] ⟨[], [], []⟩ := ⟨Rel.nil, BkOk.nil 0, RbN.nil, fun x hx => by simp at hx⟩
theorem Both.mono {M M' : Nat} {st : Bk} {r : Rb} (h : Both M st r) (hm : M ≤ M') : Both M' st r := ⟨h.rel, h.ok.mono hm, h.rok.mono hm, h.nms⟩
theorem Both.set {M : Nat} {st : Bk} {r : Rb} (h : Both M st r) (k : Key) (n : Int) : ∃ st' r' out er, setB st k n = (st', out, er) ∧ setRb r k n = (r', out.map (·.1), er) ∧ Both M st' r' ∧ out.length ≤ 600 := by
  have h1 := h.rel.set k n
  have h2 := setRb_out r k n
  have h3 := setB_ok h.ok k n
  have h4 := h.rok.set k n
  have h7 : ∀ x ∈ (setRb r k n).1.names, x.length ≤ 32 := fun x hx => (setRb_names r k n x hx).elim (h.nms x) id
  have h5 := h.rok.1.ll
  generalize setB st k n = q1 at *
  generalize setRb r k n = q2 at *
  obtain ⟨st', out, er⟩ := q1
  obtain ⟨r', L, er'⟩ := q2
  dsimp only at h1 h2 h3 h4
  obtain ⟨rfl, rfl, h6⟩ := h1
  exact ⟨st', r', out, er, rfl, rfl, ⟨h6, h3, h4, h7⟩, by simp at h2; omega⟩
theorem Both.free {M : Nat} {st : Bk} {r : Rb} (h : Both M st r) (k : Key) (t : Int) : ∃ st' r' out er, freeB st k t = (st', out, er) ∧ freeRb r k t = (r', out.map (·.1), er) ∧ Both M st' r' ∧ out.length ≤ 600 := by
  have h1 := h.rel.free h.ok k t
  have h2 := freeRb_out r k t
  have h3 := freeB_ok h.ok k t
  have h4 := h.rok.free k t
  have h7 : ∀ x ∈ (freeRb r k t).1.names, x.length ≤ 32 := by rw [freeRb_names]; exact h.nms
  have h5 := h.rok.1.ll
  generalize freeB st k t = q1 at *
  generalize freeRb r k t = q2 at *
  obtain ⟨st', out, er⟩ := q1
  obtain ⟨r', L, er'⟩ := q2
  dsimp only at h1 h2 h3 h4
  obtain ⟨rfl, rfl, h6⟩ := h1
  exact ⟨st', r', out, er, rfl, rfl, ⟨h6, h3, h4, h7⟩, by simp at h2; omega⟩
theorem Both.ask {M : Nat} {st : Bk} {r : Rb} (h : Both M st r) (hM : M + 1 ≤ 600) (k : Key) (x1 x2 : Int) : ∃ st' r' held er, askB st k (x1, x2) = (st', held, er) ∧ askRb r k (x1, x2) = (r', held, er) ∧ Both (M + 1) st' r' := by
  have h1 := h.rel.ask h.ok k (x1, x2)
  have h3 := askB_ok h.ok (by omega) k (x1, x2)
  have h4 := h.rok.ask hM k (x1, x2)
  have h7 : ∀ x ∈ (askRb r k (x1, x2)).1.names, x.length ≤ 32 := by rw [askRb_names]; exact h.nms
  generalize askB st k (x1, x2) = q1 at *
  generalize askRb r k (x1, x2) = q2 at *
  obtain ⟨st', out, er⟩ := q1
  obtain ⟨r', L, er'⟩ := q2
  dsimp only at h1 h3 h4
  obtain ⟨rfl, rfl, h6⟩ := h1
  exact ⟨st', r', out, er, rfl, rfl, ⟨h6, h3, h4, h7⟩⟩
theorem Both.few {M : Nat} {st : Bk} {r : Rb} (h : Both M st r) : st.length ≤ 64 := by
  have := h.rel.cnt
  have := h.rok.1.nl
  omega
theorem But.grow {F : Nat → Prop} {a b c : World} {row : Option Nat} (h : But F a b) (hg : b.grownBy c row) (hr : ∀ r, row = some r → a.heap.size ≤ r) : But F a c :=
  h.next (But.of_grown (F := fun j => row = some j) hg fun q e => e) fun j e => .inr (hr j e)
end Go.Proofs.Ytaikjobebbighaa
