/- Slots: the plain model of a pool: set, ask, free; what stays true. No program. -/
import Derived.Test.YtaikjobebbighaaSlM
namespace Go.Proofs.Ytaikjobebbighaa
set_option linter.unusedVariables false
/-- A pool. -/
structure Pst where
  size : Int
  h : List Pl
  l : List Pl
/-- A pool that may be, whose line is served. -/
structure Good (s : Pst) : Prop where
  ok : PoolOk s.size s.h s.l
  head : ∀ x t, s.l = x :: t → leftI s.size s.h < x.2
def serveP (size : Int) (h l : List Pl) : Pst := ⟨size, (servesF size h l).1, (servesF size h l).2.1⟩
theorem serveP_good {size : Int} {h l : List Pl} (k : PoolOk size h l) : Good (serveP size h l) := ⟨servesF_ok k, fun x t e => servesF_head e⟩
theorem PoolOk.resize {size n : Int} {h l : List Pl} (k : PoolOk size h l) (h0 : 0 ≤ n) (h1 : n ≤ 1048576) : PoolOk n h l := ⟨k.rise, k.apart, k.dist, k.few, k.hs, k.ls, h0, h1⟩
theorem PoolOk.ask {size : Int} {h l : List Pl} {x : Pl} (k : PoolOk size h l) (hf : h.length + l.length + 1 ≤ 100000) (hh : ∀ y ∈ h, y.1 ≠ x.1) (hl : ∀ y ∈ l, y.1 ≠ x.1) (h1 : 1 ≤ x.2) (h2 : x.2 ≤ size) : PoolOk size h (l ++ [x]) := by
  refine ⟨k.rise, fun z hz y hy => ?_, ?_, by rw [List.length_append, List.length_singleton]; omega, k.hs, fun z hz => ?_, k.s0, k.s1⟩
  · rcases List.mem_append.1 hz with hz | hz
    · exact k.apart z hz y hy
    · rw [List.mem_singleton] at hz; subst hz; exact hh y hy
  · exact List.pairwise_append.2 ⟨k.dist, List.pairwise_singleton _ _, fun y hy z hz => by rw [List.mem_singleton] at hz; subst hz; exact hl y hy⟩
  · rcases List.mem_append.1 hz with hz | hz
    · exact k.ls z hz
    · rw [List.mem_singleton] at hz; subst hz
      have := k.s1
      omega
theorem wo1_sub (l : List Pl) (i : Nat) : (wo1 l i).Sublist l := by
  unfold wo1
  have h1 : (l.drop (i + 1)).Sublist (l.drop i) := by rw [← List.drop_drop]; exact List.drop_sublist _ _
  have := (List.Sublist.refl (l.take i)).append h1
  rwa [List.take_append_drop] at this
theorem PoolOk.less {size : Int} {h l h2 l2 : List Pl} (k : PoolOk size h l) (hh : h2.Sublist h) (hl : l2.Sublist l) : PoolOk size h2 l2 :=
  ⟨k.rise.sublist hh, fun x hx y hy => k.apart x (hl.subset hx) y (hh.subset hy), k.dist.sublist hl, by have := hh.length_le; have := hl.length_le; have := k.few; omega, fun x hx => k.hs x (hh.subset hx), fun x hx => k.ls x (hl.subset hx), k.s0, k.s1⟩
/-- Behind somebody in line an asker is not served alone: the line stands. -/
theorem servesF_stands {size : Int} {h l : List Pl} (hh : ∀ x t, l = x :: t → leftI size h < x.2) : servesF size h l = (h, l, []) := by
  rcases l with _ | ⟨x, t⟩
  · rfl
  · exact servesF_no (by have := hh x t rfl; omega)
theorem servesF_snoc {size : Int} {h l : List Pl} (x : Pl) (hne : l ≠ []) (hh : ∀ x t, l = x :: t → leftI size h < x.2) : servesF size h (l ++ [x]) = (h, l ++ [x], []) := servesF_stands fun y t e => by
  rcases l with _ | ⟨z, t2⟩
  · exact absurd rfl hne
  · simp only [List.cons_append, List.cons.injEq] at e
    rw [← e.1]
    exact hh z t2 rfl
end Go.Proofs.Ytaikjobebbighaa
