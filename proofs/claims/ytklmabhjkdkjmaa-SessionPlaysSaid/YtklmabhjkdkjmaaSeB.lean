/- Contract: the closure of clients. -/
import Derived.Test.YtklmabhjkdkjmaaSeA
import Derived.BigQuiet
namespace Go.Proofs.Ytklmabhjkdkjmaa
set_option linter.unusedVariables false
open Go.RowKit
/-- When a client was told, of what lies there. -/
theorem atC_used {L : List Tk} {us : Int → Int} {u : Int} (h : Uses L us u) (c : Int) : ∃ s e n, atC L us c = tkV s e n (us c) := by
  unfold atC
  rcases hf : findT L c with _ | t
  · exact ⟨0, 0, 0, by simp only; rw [h.none_ c (findT_none.1 hf)]⟩
  · exact ⟨t.sq, t.e, t.n, rfl⟩
theorem uses_range {L : List Tk} {us : Int → Int} {u : Int} (h : Uses L us u) (h0 : 0 ≤ u) (c : Int) : 0 ≤ us c ∧ us c ≤ u := by
  by_cases hc : c ∈ cls L
  · obtain ⟨t, ht, rfl⟩ := List.mem_map.1 hc
    have := h.pos t ht
    omega
  · rw [h.none_ c hc]; omega
theorem fld2 (W : World) (s e n v : Int) : (Instr.field 51 (.agg #[.int .u64 s, .int .i64 e, .int .u64 n, .int .i64 v]) 2).run Try.prog W = .ok (.int .i64 v) W := rfl
set_option maxHeartbeats 1000000 in
theorem used_any (g b m bx : Nat) (L : List Tk) (us : Int → Int) (u : Int) (w : World) (hbx : w.cell? ⟨bx, 0, none⟩ = some (.pointer (some ⟨g, 0, none⟩))) (hr : Row w g 48 #[.map (some b), .int .i64 u]) (hm : MpS w b m (cls L) (atC L us)) (hu : Uses L us u) (h0 : 0 ≤ u) (h1 : u ≤ 1000000)
    (x y : Int) (hx : (Lit.int .u64 x).wf = true) (hy : (Lit.int .u64 y).wf = true) :
    Calls Try.prog 23 #[.int .u64 x, .int .u64 y, .pointer (some ⟨bx, 0, none⟩)] w fun e w' => e = .returned (.int .i64 (us x - us y)) ∧ ∃ q, w' = w.drewN q := by
  have c0 := hr.cell 0
  simp at c0
  obtain ⟨s1, e1, n1, hx1⟩ := atC_used hu x
  obtain ⟨s2, e2, n2, hy1⟩ := atC_used hu y
  have hmq : ∀ q, MpS (w.drewN q) b m (cls L) (atC L us) := fun q => hm
  have hl1 : ∀ q, (Instr.lookup 46 (.map (some b)) (.int .u64 x) false).run Try.prog (w.drewN q) = .ok (.agg #[.int .u64 s1, .int .i64 e1, .int .u64 n1, .int .i64 (us x)]) (w.drewN q) := fun q => by
    have := (hmq q).look hx
    rwa [hx1] at this
  have hl2 : ∀ q, (Instr.lookup 46 (.map (some b)) (.int .u64 y) false).run Try.prog (w.drewN q) = .ok (.agg #[.int .u64 s2, .int .i64 e2, .int .u64 n2, .int .i64 (us y)]) (w.drewN q) := fun q => by
    have := (hmq q).look hy
    rwa [hy1] at this
  obtain ⟨a1, a2⟩ := uses_range hu h0 x
  obtain ⟨a3, a4⟩ := uses_range hu h0 y
  generalize us x = p at *
  generalize us y = r at *
  have e1 : IntKind.i64.wrap (p - r) = p - r := IntWalk.i64_in _ (by omega)
  have hf := fld2
  clear hm hu hr hmq hx1 hy1
  go_enter Try.func23, Try.ntmps23
  go_wp2_with fail
  go_big_quiet (fail)
  go_wp2_with fail
  go_ret
  exact ⟨rfl, nq, rfl⟩
end Go.Proofs.Ytklmabhjkdkjmaa
