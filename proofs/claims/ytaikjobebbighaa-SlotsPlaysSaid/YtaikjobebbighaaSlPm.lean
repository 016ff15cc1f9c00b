/- Slots: who waits is served at last: plain laws; a row that grows beside a book. -/
import Derived.Test.YtaikjobebbighaaSlPl
import Derived.Test.YtaikjobebbighaaSlAt
namespace Go.Proofs.Ytaikjobebbighaa
set_option linter.unusedVariables false
set_option maxRecDepth 100000
open Go.RowKit
theorem freeR_hold {s : Pst} {t : Int} (h : ∃ x ∈ s.h, x.1 = t) : (freeR s t).2.2 = 0 ∧ s.l = (freeR s t).2.1 ++ (freeR s t).1.l ∧ (freeR s t).1.h.length + (freeR s t).1.l.length + 1 = s.h.length + s.l.length := by
  have h0 : 0 ≤ placeV s.h t := by
    obtain ⟨x, hx, e⟩ := h
    by_cases h1 : placeV s.h t < 0
    · exact absurd e (placeV_neg.1 h1 x hx)
    · omega
  have hi := (placeV_nat h0).2
  unfold freeR
  rw [if_pos h0]
  refine ⟨rfl, servesF_line _ _, ?_⟩
  show (servesF _ _ _).1.length + (servesF _ _ _).2.1.length + 1 = _
  rw [servesF_len, wo1_len hi]
  omega
/-- Nobody waits for more than there is. -/
def Fits (s : Pst) : Prop := ∀ x ∈ s.l, x.2 ≤ s.size
theorem serveP_fits {size : Int} {h l : List Pl} (k : ∀ x ∈ l, x.2 ≤ size) : Fits (serveP size h l) := fun x hx => k x (by
  rw [servesF_line (size := size) l h]
  exact List.mem_append_right _ hx)
theorem freeR_fits {s : Pst} (h : Fits s) (t : Int) : Fits (freeR s t).1 := by
  unfold freeR
  split
  · exact serveP_fits h
  split
  · exact serveP_fits fun x hx => h x ((wo1_sub _ _).subset hx)
  · exact h
theorem askR_fits {s : Pst} (h : Fits s) (x : Pl) : Fits (askR s x).1 := by
  unfold askR
  split
  · exact h
  split
  · exact h
  split
  · exact h
  · rename_i h1 h2 h3
    refine serveP_fits fun z hz => ?_
    rcases List.mem_append.1 hz with hz | hz
    · exact h z hz
    · rw [List.mem_singleton] at hz
      subst hz
      omega
theorem Good.done {s : Pst} (h : Good s) (hf : Fits s) (he : s.h = []) : s.l = [] := by
  rcases hl : s.l with _ | ⟨x, t⟩
  · rfl
  · have h1 := h.head x t hl
    have h2 := hf x (by rw [hl]; simp)
    rw [he] at h1
    unfold leftI at h1
    rw [sumM_nil] at h1
    omega
section
variable {α : Type} {en : α → List Value} {k : Nat} {e : TypeId} {base : Nat} {w w' : World} {B : Option Addr} {d : Nat} {ts : List α}
/-- append(row, src...): src reads as ys, nil let in; where the new row lies. -/
theorem appSN {P : Program} {ops : Array Oper} {rest : List Oper} {o : Oper} {a : Act} {Q : Exit → Act → World → Prop} {st : TypeId} {z : Value} {bytes : Nat} (hgd : o.guard = none) (s x : Operand)
    (ho : o.op = .call { callee := .builtin .append, args := #[s, x], argTypes := #[st, st] }) (ht : P.underlying st = some (.slice e)) (hinfo : (P.info? e).map (fun i => (i.zero, i.size, i.bytes)) = some (some z, k, bytes)) (hz : z.cells.size = k) (hk0 : 0 < k) (hby : bytes ≤ 1000)
    (hk : ∀ x, (en x).length = k) (h1 : ∀ x, ∀ v ∈ en x, v.oneCell' = true) (hs : a.eval s = .slice B ts.length d) (hown : RkO en k e base w B d ts)
    (A : Option Addr) (c : Nat) (ys : List α) (hx : a.eval x = .slice A ys.length c) (hsl : RkS en k w A ys) (hA : A = none → c = 0) (hbase : base ≤ w.heap.size) (hlen : ts.length + ys.length ≤ 100000000)
    (h : ∀ B' d' w', RkO en k e base w' B' d' (ts ++ ys) → w.grownBy w' (Value.ownBlock (.slice B ts.length d)) → NearB w.heap.size B B' → wpList P ops Q rest (a.put o.dst (.slice B' (ts.length + ys.length) d')) w') :
    wpList P ops Q (o :: rest) a w := by
  cases A with
  | none =>
    have ey : ys = [] := by
      rcases ys with _ | ⟨y, ys⟩
      · rfl
      · obtain ⟨ad, e', _⟩ := hsl 0 (by simp)
        cases e'
    subst ey
    obtain rfl := hA rfl
    obtain ⟨i0, hi, hz0, hz1, hz2⟩ := info_parts hinfo
    refine wpList_append_own_none hgd s x _ ho base e i0 k ht hi _ ts.length _ hs hown (by simpa using hx) ?_
    have := h B d w (by simpa using hown) (World.grownBy.refl w _) (NearB.same _ _)
    simpa using this
  | some ad =>
    obtain ⟨B', d', w', hr, ho2, hg, hn⟩ := run_appK (P := P) (st := st) (ty := o.type) ht hinfo hz hk0 hby hk h1 hown ad c ys hsl hbase hlen
    exact Lib.wpList_append_run w hgd s x st st ho _ _ hs hx _ _ hr (h B' d' w' ho2 hg hn)
end
theorem ownB {B : Option Addr} {d n : Nat} {l : List Pl} {w : World} (h : PlO 0 w B d l) {q : Nat} (e : Value.ownBlock (.slice B n d) = some q) : B = some ⟨q, 0, none⟩ := by
  rcases h.form with ⟨rfl, -, -⟩ | ⟨g', rfl, -, -, -⟩
  · simp [Value.ownBlock] at e
  · simp [Value.ownBlock] at e; rw [e]
theorem BkAt.but {F : Nat → Prop} {w w' : World} {g b : Nat} {st : Bk} {ys : List Wh} (h : BkAt w g b st ys) (hb : But F w w') (hn : ∀ j, Mine g b ys j → ¬ F j) : BkAt w' g b st ys := by
  obtain ⟨es, hm, he⟩ := h.map
  exact ⟨h.row.but hb (hn g (.inl rfl)), ⟨es, ownsMap_but hm hb (hn b (.inr (.inl rfl))), he.but hb fun y hy j hj => hn j (.inr (.inr ⟨y, hy, hj⟩))⟩, h.apart⟩
theorem At.but {F : Nat → Prop} {n : Nat} {w0 w w' : World} {g b : Nat} {st : Bk} {ys : List Wh} (h : At n w0 w g b st ys) (hn : n ≤ w0.heap.size) (hb : But F w w') (hm : ∀ j, Mine g b ys j → ¬ F j) (hF : ∀ j, F j → n ≤ j) : At n w0 w' g b st ys := by
  have hz := h.low.size
  exact ⟨h.bk.but hb hm, h.mine, h.low.trans (hb.below hF (by omega))⟩
/-- A row of the law's own that grows beside a book, and beside a row BL. -/
structure Grows (n : Nat) (w : World) (g b : Nat) (ys : List Wh) (BL B : Option Addr) (d : Nat) (l : List Pl) : Prop where
  side : Side w g b ys B d l
  low : ∀ q, B = some ⟨q, 0, none⟩ → n ≤ q
  apt : Apt BL B
theorem Grows.turn {n : Nat} {w w' : World} {g b : Nat} {st' : Bk} {ys ys' : List Wh} {BL B : Option Addr} {d : Nat} {l : List Pl} (h : Grows n w g b ys BL B d l) (t : Turn w w' g b ys st' ys') : Grows n w' g b ys' BL B d l := ⟨h.side.turn t, h.low, h.apt⟩
theorem Grows.over {n : Nat} {w w' : World} {g b : Nat} {ys : List Wh} {BL B : Option Addr} {d : Nat} {l : List Pl} (h : Grows n w g b ys BL B d l) (hb : Below w.heap.size w w') : Grows n w' g b ys BL B d l := ⟨h.side.over hb, h.low, h.apt⟩
theorem Grows.nil (n : Nat) (w : World) (g b : Nat) (ys : List Wh) (BL : Option Addr) : Grows n w g b ys BL none 0 [] where
  side := ⟨RkO.nil _ _, fun q e => by cases e⟩
  low := fun q e => by cases e
  apt := fun q h => by intro e; cases e
/-- What an append to it leaves. -/
theorem Grows.app {n : Nat} {w0 w w' : World} {g b : Nat} {st : Bk} {ys : List Wh} {BL B B' : Option Addr} {d d' dL : Nat} {l l' lL : List Pl} (h : Grows n w g b ys BL B d l) (hA : At n w0 w g b st ys) (hn : n ≤ w0.heap.size) (hL : Side w g b ys BL dL lL)
    (ho : PlO 0 w' B' d' l') (hg : w.grownBy w' (Value.ownBlock (.slice B l.length d))) (hN : NearB w.heap.size B B') : Grows n w' g b ys BL B' d' l' ∧ At n w0 w' g b st ys ∧ Side w' g b ys BL dL lL := by
  have hz := hA.low.size
  have hb : But (fun j => B = some ⟨j, 0, none⟩) w w' := But.of_grown hg fun j e => ownB h.side.row e
  refine ⟨⟨⟨ho, fun q e hm => ?_⟩, fun q e => ?_, fun q e e2 => ?_⟩, hA.but hn hb (fun j hm e => h.side.off j e hm) (fun j e => h.low j e), ⟨hL.row.but hb (fun q e e2 => h.apt q e e2), hL.off⟩⟩
  · rcases hN q e with h1 | h1
    · exact h.side.off q h1 hm
    · have := hA.bk.mine_lt hm; omega
  · rcases hN q e with h1 | h1
    · exact h.low q h1
    · omega
  · rcases hN q e2 with h1 | h1
    · exact h.apt q e h1
    · have := hL.row.lt_ e; omega
end Go.Proofs.Ytaikjobebbighaa
