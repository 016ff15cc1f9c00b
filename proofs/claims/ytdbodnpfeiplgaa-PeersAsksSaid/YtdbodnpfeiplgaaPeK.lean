/- Contract of peers.Mark. -/
import Derived.Test.YtdbodnpfeiplgaaPeS
import Derived.Test.YtdbodnpfeiplgaaPeB
import Derived.Outline
import Derived.Maps.AppendAt
import Derived.Deep.AppendLies
import Derived.Deep.RegionHeldLaw
import Derived.BigQuiet
import Derived.Deep.QuietTactic
import Derived.Deep.RegionHeld3
namespace Go.Proofs.Ytdbodnpfeiplgaa
set_option linter.unusedVariables false
open Go.RowKit
/-- append(row, y): its run. -/
theorem app1U_run (base : Nat) (B : Option Addr) (d : Nat) (xs : List Int) (y : Int) (w : World) (hown : OwnU base w B d xs) (hbase : base ≤ w.heap.size) (hlen : xs.length ≤ 1000000) :
    ∃ B' d' w', (Builtin.append_ #[22, 22] 22 #[.slice B xs.length d, .slice (some ⟨w.heap.size, 0, none⟩) 1 1]).run Try.prog (w.alloc (.cells #[.int .u64 y] 23)) = .ok (.slice B' (xs.length + 1) d') w' ∧
      OwnU base w' B' d' (xs ++ [y]) ∧ Below base w w' := by
  obtain ⟨i0, hi, hz0, hz1, hz2⟩ := info_parts infoU
  obtain ⟨v', w', hrun, hown', hgrow, -, -⟩ := run_append_own_at (w.alloc (.cells #[.int .u64 y] 23)) base 22 22 23 i0 (.int .u64 0) 1 8 Try.underlying22 hi hz0 hz1 hz2 rfl (by decide)
    (.slice B xs.length d) xs.length (xs.map (.int .u64)) (hown.alloc _) ⟨w.heap.size, 0, none⟩ 1 1 [.int .u64 y] rfl
    (fun j u hu => by
      rcases j with _ | j
      · simp at hu; subst hu; simp [Addr.add]
      · simp at hu)
    (fun u hu => by rw [List.mem_singleton] at hu; subst hu; rfl) (by unfold maxLen; omega) (by omega) (by simp; omega)
  obtain ⟨B', d', rfl, -, -⟩ := own_form hown'
  refine ⟨B', d', w', hrun, ?_, ?_⟩
  · unfold OwnU
    have hn : (xs ++ [y]).length = xs.length + 1 := by simp
    rw [hn]
    simpa using hown'
  · exact ((Below.refl base w).alloc hbase _).trans ((Below.refl base _).grown hgrow (by simp; omega) (fun g hg => OwnU.base_ hown hg))
/-- append(row, y) at a step of a region that draws. -/
theorem step1U {ops : Array Oper} {o : Oper} {a : Act} {w : World} {K : Act → World → Prop} {Q : Exit → Act → World → Prop} {E : Prop} (hgd : o.guard = none) (D : Nat) (hD : o.dst = some D) (s x : Operand)
    (ho : o.op = .call { callee := .builtin .append, args := #[s, x], argTypes := #[22, 22] }) (base : Nat) (B : Option Addr) (n d : Nat) (xs : List Int) (y : Int) (hn : n = xs.length) (hs : a.eval s = .slice B n d) (hown : OwnU base w B d xs)
    (g : Nat) (hx : a.eval x = .slice (some ⟨g, 0, none⟩) 1 1) (hc : w.cell? ⟨g, 0, none⟩ = some (.int .u64 y)) (hbase : base ≤ w.heap.size) (hlen : xs.length ≤ 1000000)
    (h : ∀ B' d' w', OwnU base w' B' d' (xs ++ [y]) → Below base w w' → K (a.put (some D) (.slice B' (n + 1) d')) w') :
    if Region.wanted o (yielded ops a.tmps) = true then Oper.wp Try.prog o a w K Q else E := by
  obtain ⟨i0, hi, hz0, hz1, hz2⟩ := info_parts infoU
  subst hn
  rw [← hD] at h
  refine step_append_lies w hgd s x _ ho base 23 i0 (.int .u64 0) 1 8 Try.underlying22 hi hz0 hz1 hz2 rfl (by decide) _ _ _ hs hown ⟨g, 0, none⟩ 1 1 [.int .u64 y] hx rfl
    (fun j u hu => by
      rcases j with _ | j
      · simp at hu; subst hu; simpa [Addr.add] using hc
      · simp at hu)
    (fun u hu => by rw [List.mem_singleton] at hu; subst hu; rfl) (by decide) (by unfold maxLen; omega) (by omega) hbase _ rfl ?_
  intro g' cap w' hown' hgrow hat hlt
  refine h (some ⟨g', 0, none⟩) cap w' ?_ ((Below.refl base w).grown hgrow hbase (fun k hk => OwnU.base_ hown hk))
  unfold OwnU
  have hn : (xs ++ [y]).length = xs.length + 1 := by simp
  rw [hn]
  simpa using hown'
/-- What a callback answers, from w on. -/
def AtOk (G : Nat) (caps : Array Value) (g : Int → Int) (l : List Int) (w : World) : Prop := ∀ id ∈ l, ∀ W, Below w.heap.size w W → Calls Try.prog G (#[.int .u64 id] ++ caps) W fun e w' => e = .returned (.int .u64 (g id)) ∧ ∃ q, w' = W.drewN q
/-- What the note's worlds have. -/
structure NoteS (w0 : World) (v1 v2 : Value) (v : World) : Prop where
  below : Below w0.heap.size w0 v
  size : w0.heap.size + 2 ≤ v.heap.size
  c1 : v.cell? ⟨w0.heap.size, 0, none⟩ = some v1
  c2 : v.cell? ⟨w0.heap.size + 1, 0, none⟩ = some v2
  f2 : v.frozen? ⟨w0.heap.size + 1, 0, none⟩ = false
theorem NoteS.drewN {w0 v : World} {v1 v2 : Value} (h : NoteS w0 v1 v2 v) (q : Nat) : NoteS w0 v1 v2 (v.drewN q) := ⟨below_drewN h.1 q, h.2, h.3, h.4, h.5⟩
theorem NoteS.drew {w0 v : World} {v1 v2 : Value} (h : NoteS w0 v1 v2 v) : NoteS w0 v1 v2 v.drew := ⟨below_drewN h.1 1, h.2, h.3, h.4, h.5⟩
theorem NoteS.some_drew {w0 v w1 : World} {v1 v2 : Value} (hq : ∃ q, w1 = v.drewN q) (h : NoteS w0 v1 v2 v) : NoteS w0 v1 v2 w1 := by
  obtain ⟨q, rfl⟩ := hq
  exact h.drewN q
theorem NoteS.allocC {w0 v : World} {v1 v2 : Value} (h : NoteS w0 v1 v2 v) (cs : Array Value) (T : TypeId) : NoteS w0 v1 v2 (v.alloc (.cells cs T)) :=
  ⟨h.below.alloc (by have := h.size; omega) _, by have := h.size; simp; omega, (World.cell?_alloc_lt v _ _ (show w0.heap.size < _ by have := h.size; omega)).trans h.c1,
    (World.cell?_alloc_lt v _ _ (show w0.heap.size + 1 < _ by have := h.size; omega)).trans h.c2, by rw [frozen?_alloc_cells]; exact h.f2⟩
theorem NoteS.far {w0 v w3 : World} {v1 v2 : Value} (h : NoteS w0 v1 v2 v) (hb : Below (w0.heap.size + 2) v w3) : NoteS w0 v1 v2 w3 :=
  ⟨h.below.trans (hb.mono (by omega)), Nat.le_trans h.size hb.size, (hb.cell (show w0.heap.size < _ by omega)).trans h.c1, (hb.cell (show w0.heap.size + 1 < _ by omega)).trans h.c2, (hb.frozen (show w0.heap.size + 1 < _ by omega)).trans h.f2⟩
theorem NoteS.store {w0 v : World} {v1 v2 : Value} (h : NoteS w0 v1 v2 v) (u : Value) : NoteS w0 v1 u (v.setCell ⟨w0.heap.size + 1, 0, none⟩ u) :=
  ⟨h.below.setCell (Nat.le_succ _) u, by rw [World.size_setCell]; exact h.size, (World.cell?_setCell_other (a := ⟨w0.heap.size + 1, 0, none⟩) (w := v) _ u (by simp)).trans h.c1, World.cell?_setCell_same (w := v) _ u h.c2, by rw [World.frozen?_setCell]; exact h.f2⟩
theorem note_own {base : Nat} {v w1 : World} {B : Option Addr} {d : Nat} {o : List Int} (hq : ∃ q, w1 = v.drewN q) (h : OwnU base v B d o) : OwnU base w1 B d o := by
  obtain ⟨q, rfl⟩ := hq
  exact h.drewN q
set_option maxHeartbeats 1000000 in
set_option maxRecDepth 100000 in
theorem note_any (G : Nat) (caps : Array Value) (hG : ∀ args W, (callFunc G args).run Try.prog W = .ok (.enter G args) W) (g : Int → Int) (w0 w : World) (id : Int) (B : Option Addr) (d : Nat) (o : List Int) (hol : o.length ≤ 1000) (l : List Int) (hid : id ∈ l) (hat : AtOk G caps g l w0)
    (hs : NoteS w0 (.func (.func G) #[] caps) (.slice B o.length d) w) (hown : OwnU (w0.heap.size + 2) w B d o) :
    Calls Try.prog 28 #[.int .u64 id, .pointer (some ⟨w0.heap.size + 1, 0, none⟩), .pointer (some ⟨w0.heap.size, 0, none⟩)] w fun e w' =>
      e = .returned (.tuple #[]) ∧ ∃ B' d', NoteS w0 (.func (.func G) #[] caps) (.slice B' (o.length + 1) d') w' ∧ OwnU (w0.heap.size + 2) w' B' d' (o ++ [g id]) := by
  have HA := Lib.hid (hat id hid)
  have HO := Lib.hid hown
  have HS := Lib.hid hs
  obtain ⟨-, -, hp1, hp2, hpf⟩ := hs
  clear hat hown
  go_enter Try.func28, Try.ntmps28
  go_wp2_with fail
  go_region_law
    (first | (go_simp; (with_reducible refine (HA.out _ HS.out.drew.below).mono ?_); rintro e w1 ⟨rfl, hq⟩; dsimp only; have hs1 := Lib.hid (HS.out.drew.some_drew hq); have ho1 := note_own (v := w.drew) hq HO.out.drew; clear hq; obtain ⟨-, -, hc1, hc2, hf2⟩ := hs1.out; obtain ⟨-, -, hd1, hd2, he2⟩ := hs1.out.allocC #[.int .u64 (g id)] 23)
           | (refine step1U rfl 9 rfl (.tmp 4) (.tmp 8) rfl (w0.heap.size + 2) B _ d o (g id) rfl (by rfl) (ho1.alloc _) _ (by rfl) (by simp) (hs1.out.allocC _ _).size (by omega) ?_; intro B2 d2 w3 hown3 hb3; have hs3 := Lib.hid ((hs1.out.allocC _ _).far hb3); clear hb3; obtain ⟨-, -, hg1, hg2, hi2⟩ := hs3.out; simp only [Act.put, List.setIfInBounds_toArray, List.set_cons_zero, List.set_cons_succ]))
  all_goals go_wp2_with fail
  all_goals (refine bodyPost_end (results_none rfl _ _ _) rfl ?_; refine ⟨rfl, ?_⟩; refine ⟨B2, d2, hs3.out.store _, ?_⟩; exact ownsRow_setCell_below hown3 (by show w0.heap.size + 1 < w0.heap.size + 2; omega) _)
end Go.Proofs.Ytdbodnpfeiplgaa
