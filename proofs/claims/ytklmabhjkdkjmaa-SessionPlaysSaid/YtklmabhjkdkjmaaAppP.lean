/- append at a row while another row of the call's own stands beside it. -/
import Derived.Test.YtklmabhjkdkjmaaApp
import Derived.Deep.AppendLies
namespace Go.Proofs.Ytklmabhjkdkjmaa
set_option linter.unusedVariables false
open Go.RowKit
/-- The block of a row. -/
def ob (B : Option Addr) : Option Nat := Value.ownBlock (.slice B 0 0)
theorem ob_eq (B : Option Addr) (n d : Nat) : Value.ownBlock (.slice B n d) = ob B := by cases B <;> rfl
theorem OwnU.ob_lt {base : Nat} {w : World} {B : Option Addr} {d : Nat} {xs : List Int} (h : OwnU base w B d xs) {g : Nat} (hg : ob B = some g) : g < w.heap.size := by
  rcases h.2 with ⟨e, _⟩ | ⟨g', cap, cur, e, _, h2, _⟩
  · injection e with e1 e2 e3; subst e1; cases hg
  · injection e with e1 e2 e3; subst e1
    have : g' = g := by simpa [ob, Value.ownBlock] using hg
    subst this
    exact (Array.getElem?_eq_some_iff.1 h2).1
theorem app1P {ops : Array Oper} {rest : List Oper} {o : Oper} {a : Act} {Q : Exit → Act → World → Prop} {w : World} (hgd : o.guard = none) (D : Nat) (hD : o.dst = some D) (s x : Operand)
    (ho : o.op = .call { callee := .builtin .append, args := #[s, x], argTypes := #[52, 52] }) (base : Nat) (B : Option Addr) (n d : Nat) (xs : List Int) (y : Int) (hn : n = xs.length) (hs : a.eval s = .slice B n d) (hown : OwnU base w B d xs)
    (B2 : Option Addr) (d2 : Nat) (xs2 : List Int) (hown2 : OwnU base w B2 d2 xs2) (hap : ob B2 = none ∨ ob B2 ≠ ob B)
    (hx : a.eval x = .slice (some ⟨w.heap.size, 0, none⟩) 1 1) (hbase : base ≤ w.heap.size) (hlen : xs.length ≤ 1000000)
    (h : ∀ B' d' w', OwnU base w' B' d' (xs ++ [y]) → OwnU base w' B2 d2 xs2 → (ob B2 = none ∨ ob B2 ≠ ob B') → Below base w w' → wpList Try.prog ops Q rest (a.put (some D) (.slice B' (n + 1) d')) w') :
    wpList Try.prog ops Q (o :: rest) a (w.alloc (.cells #[.int .u64 y] 28)) := by
  obtain ⟨i0, hi, hz0, hz1, hz2⟩ := info_parts infoU
  subst hn
  rw [← hD] at h
  refine wpList_append_lies (w.alloc (.cells #[.int .u64 y] 28)) hgd s x _ ho base 28 i0 (.int .u64 0) 1 8 Try.underlying52 hi hz0 hz1 hz2 rfl (by decide) _ _ _ hs (hown.alloc _) ⟨w.heap.size, 0, none⟩ 1 1 [.int .u64 y] hx rfl
    (fun j u hu => by
      rcases j with _ | j
      · simp at hu; subst hu; simp [Addr.add]
      · simp at hu)
    (fun u hu => by rw [List.mem_singleton] at hu; subst hu; rfl) (by decide) (by unfold maxLen; omega) (by omega) (by simp; omega) _ rfl ?_
  intro g' cap w' hown' hgrow hat hlt
  refine h (some ⟨g', 0, none⟩) cap w' ?_ ?_ ?_ ?_
  · unfold OwnU
    have hn : (xs ++ [y]).length = xs.length + 1 := by simp
    rw [hn]
    simpa using hown'
  · exact World.ownsRow.kept (World.ownsRow.alloc hown2 _) hgrow (by rw [ob_eq, ob_eq]; exact hap)
  · rcases hap with hap | hap
    · exact .inl hap
    · rcases hat with hat | hat
      · rw [ob_eq] at hat
        right
        rw [hat] at hap
        exact hap
      · right
        intro e
        have := hown2.ob_lt (g := g') (by rw [e]; rfl)
        simp at hat
        omega
  · exact ((Below.refl base w).alloc hbase _).trans ((Below.refl base _).grown hgrow (by simp; omega) (fun k hk => OwnU.base_ hown hk))
end Go.Proofs.Ytklmabhjkdkjmaa
