/- Slots: what lies beside a book; the tokens of a pool. -/
import Derived.Test.YtaikjobebbighaaSlMp
namespace Go.Proofs.Ytaikjobebbighaa
set_option linter.unusedVariables false
set_option maxRecDepth 100000
open Go.RowKit
/-- Another's block, beside a book. -/
structure RSide (w : World) (g b : Nat) (ys : List Wh) (p : Nat) (t : TypeId) (cs : Array Value) : Prop where
  row : Row w p t cs
  off : ¬ Mine g b ys p
theorem RSide.turn {w w' : World} {g b : Nat} {st' : Bk} {ys ys' : List Wh} {p : Nat} {t : TypeId} {cs : Array Value} (h : RSide w g b ys p t cs) (k : Turn w w' g b ys st' ys') : RSide w' g b ys' p t cs :=
  ⟨h.row.but k.but h.off, fun hm => by
    rcases k.mine p hm with h1 | h1
    · exact h.off h1
    · have := h.row.lt; omega⟩
theorem RSide.over {w w' : World} {g b : Nat} {ys : List Wh} {p : Nat} {t : TypeId} {cs : Array Value} (h : RSide w g b ys p t cs) (hb : Below w.heap.size w w') : RSide w' g b ys p t cs := ⟨h.row.over hb, h.off⟩
theorem RSide.but {F : Nat → Prop} {w w' : World} {g b : Nat} {ys : List Wh} {p : Nat} {t : TypeId} {cs : Array Value} (h : RSide w g b ys p t cs) (hb : But F w w') (hn : ¬ F p) : RSide w' g b ys p t cs := ⟨h.row.but hb hn, h.off⟩
structure MSide (w : World) (g b : Nat) (ys : List Wh) (m n : Nat) (f : Key → Int) : Prop where
  map : SzAt w m n f
  off : ¬ Mine g b ys m
theorem MSide.turn {w w' : World} {g b : Nat} {st' : Bk} {ys ys' : List Wh} {m n : Nat} {f : Key → Int} (h : MSide w g b ys m n f) (k : Turn w w' g b ys st' ys') : MSide w' g b ys' m n f :=
  ⟨h.map.but k.but h.off, fun hm => by
    rcases k.mine m hm with h1 | h1
    · exact h.off h1
    · have := h.map.lt; omega⟩
theorem MSide.over {w w' : World} {g b : Nat} {ys : List Wh} {m n : Nat} {f : Key → Int} (h : MSide w g b ys m n f) (hb : Below w.heap.size w w') : MSide w' g b ys m n f := ⟨h.map.over hb, h.off⟩
theorem MSide.but {F : Nat → Prop} {w w' : World} {g b : Nat} {ys : List Wh} {m n : Nat} {f : Key → Int} (h : MSide w g b ys m n f) (hb : But F w w') (hn : ¬ F m) : MSide w' g b ys m n f := ⟨h.map.but hb hn, h.off⟩
theorem SzAt.not_row {w : World} {m n : Nat} {f : Key → Int} (h : SzAt w m n f) {p : Nat} {t : TypeId} {cs : Array Value} (hr : Row w p t cs) : p ≠ m := by
  rintro rfl
  obtain ⟨D, ⟨es, clock, h1, _⟩, _⟩ := h
  unfold Row at hr
  rw [h1] at hr
  cases hr
/-- The tokens of a pool. -/
def toks (s : Pst) : List Int := (s.h ++ s.l).map (·.1)
theorem toks_h {s : Pst} {k : Nat} (h : k < s.h.length) : (toks s)[k]? = some (s.h[k]).1 := by
  unfold toks
  rw [List.getElem?_map, List.getElem?_append_left h, List.getElem?_eq_getElem h]
  rfl
theorem toks_l {s : Pst} {k : Nat} (h : k < s.l.length) : (toks s)[s.h.length + k]? = some (s.l[k]).1 := by
  unfold toks
  rw [List.getElem?_map, List.getElem?_append_right (by omega), Nat.add_sub_cancel_left, List.getElem?_eq_getElem h]
  rfl
theorem toks_len (s : Pst) : (toks s).length = s.h.length + s.l.length := by unfold toks; rw [List.length_map, List.length_append]
theorem toks_nodup {s : Pst} (h : PoolOk s.size s.h s.l) : (toks s).Nodup := by
  unfold toks List.Nodup
  rw [List.pairwise_map, List.pairwise_append]
  exact ⟨h.rise.imp fun e => by omega, h.dist, fun x hx y hy => h.apart y hy x hx⟩
theorem nodup_take {A : List Int} (h : A.Nodup) {i : Nat} {y : Int} (hy : A[i]? = some y) : y ∉ (A.take i).reverse := fun hm => by
  rw [List.mem_reverse] at hm
  have e := (List.take_append_drop i A)
  rw [← e] at h
  have hd : y ∈ A.drop i := by
    have h1 := (List.getElem?_eq_some_iff.1 hy)
    obtain ⟨hl, h2⟩ := h1
    rw [List.drop_eq_getElem_cons hl, h2]
    simp
  exact (List.nodup_append.1 h).2.2 y hm y hd rfl
theorem rev_take {A : List Int} {i : Nat} {y : Int} (hy : A[i]? = some y) : (A.take (i + 1)).reverse = y :: (A.take i).reverse := by
  rw [List.take_add_one, hy]
  simp
end Go.Proofs.Ytaikjobebbighaa
