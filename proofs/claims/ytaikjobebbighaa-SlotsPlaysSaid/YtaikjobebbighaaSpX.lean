/- Slots: stands: a pool stands as the document's. -/
import Derived.Test.YtaikjobebbighaaSpV
import Derived.Test.YtaikjobebbighaaSpW
import Derived.Shelf.Small.Bits
import Derived.Deep.DeepCutAuto
namespace Go.Proofs.Ytaikjobebbighaa
set_option linter.unusedVariables false
set_option maxRecDepth 100000
open Go.RowKit Go.Sort
theorem ins_nil (v : Value) (w : World) : Calls Try.prog 58 #[.slice none 0 0, .int .i64 0, .int .i64 0, v] w fun e w' => e = .returned (.tuple #[]) ∧ w' = w := by
  go_enter Try.func58, Try.ntmps58
  go_wp2_with fail
  go_loop [8] (fun i => i = .int .i64 1) (fun _ => 0)
  case atStart => rfl
  case round =>
    subst hrel
    go_wp2_with fail
    go_end0
    exact ⟨rfl, rfl⟩
theorem pdq_nil (x : Int) (v : Value) (w : World) : Calls Try.prog 50 #[.slice none 0 0, .int .i64 0, .int .i64 0, .int .i64 x, v] w fun e w' => e = .returned (.tuple #[]) ∧ w' = w := by
  have C1 := Lib.hid (ins_nil v w)
  go_enter Try.func50, Try.ntmps50
  go_wp2_with fail
  go_loop [1, 2] (fun a b => a = .int .i64 0 ∧ b = .int .i64 0) (fun _ _ => 0)
  case atStart => exact ⟨rfl, rfl⟩
  case round =>
    obtain ⟨rfl, rfl⟩ := hrel
    go_wp2_with fail
    refine C1.out.mono ?_
    rintro e w2 ⟨rfl, rfl⟩
    go_wp2_with fail
    (try simp only [Exit.inBlock, Exit.then]); refine bodyPost_ret (results_none rfl _ _ _) rfl ?_
    exact ⟨rfl, rfl⟩
theorem sortFunc_nil (v : Value) (w : World) : Calls Try.prog 36 #[.slice none 0 0, v] w fun e w' => e = .returned (.tuple #[]) ∧ w' = w := by
  have C1 := Lib.hid (fun x => pdq_nil x v w)
  have hb0 : Calls Try.prog 51 #[.int .u64 0] w fun e w' => e = .returned (.int .i64 (Lib.bitLen 0 : Nat)) ∧ w' = w := Any.bits_Len (SlLaysF0.n15.bits (P := Try.prog) (ρ := Try.sortK_ren) { Try.sortK with }) 0 w (by omega) (by omega)
  have C2 := Lib.hid hb0
  go_enter Try.func36, Try.ntmps36
  go_wp2_with fail
  refine C2.out.mono ?_
  rintro e w2 ⟨rfl, rfl⟩
  go_wp2_with fail
  refine (C1.out _).mono ?_
  rintro e w3 ⟨rfl, rfl⟩
  go_wp2_with fail
  go_end0
  exact ⟨rfl, rfl⟩
theorem rising_unique : ∀ {a b : List Pl}, Rising a → Rising b → a.Perm b → a = b
  | [], b, _, _, hp => (List.Perm.nil_eq hp)
  | x :: t, [], _, _, hp => absurd hp.length_eq (by simp)
  | x :: t, y :: u, ha, hb, hp => by
    have ha' := List.pairwise_cons.1 ha
    have hb' := List.pairwise_cons.1 hb
    have e : x = y := by
      have h1 : x ∈ y :: u := hp.mem_iff.1 (by simp)
      have h2 : y ∈ x :: t := hp.mem_iff.2 (by simp)
      rcases List.mem_cons.1 h1 with h1 | h1
      · exact h1
      · rcases List.mem_cons.1 h2 with h2 | h2
        · exact h2.symm
        · have := hb'.1 x h1
          have := ha'.1 y h2
          omega
    subst e
    rw [rising_unique ha'.2 hb'.2 hp.cons_inv]
theorem rising_of {a b : List Pl} (ha : Rising a) (hp : b.Perm a) (hs : b.Pairwise (fun x y => x.1 ≤ y.1)) : b = a := by
  refine rising_unique ?_ ha hp
  have hd : b.Pairwise (fun x y => x.1 ≠ y.1) := (List.Perm.pairwise_iff (fun {x y} h e => h e.symm) hp).2 (ha.imp fun h => by omega)
  have := hs.and hd
  exact this.imp fun ⟨h1, h2⟩ => by omega
/-- A name's pool in both books. -/
theorem Rel.pool {st : Bk} {r : Rb} (h : Rel st r) (k : Key) : (getZ st k).l = lineE r.L (poolOf r k) ∧ (getZ st k).h.Perm (holdE r.L (poolOf r k)) ∧ leftI (getZ st k).size (getZ st k).h = leftP r (poolOf r k) := by
  rcases hs : stGet st k with _ | s
  · have e := h.none_ hs
    have ez : getZ st k = zeroP := by unfold getZ; rw [hs]; rfl
    have h1 : lineE r.L (-1) = [] := by
      unfold lineE
      rw [List.map_eq_nil_iff, List.filter_eq_nil_iff]
      intro x hx
      have := h.in_ x hx
      simp only [Bool.and_eq_true, beq_iff_eq]
      intro hh
      omega
    have h2 : holdE r.L (-1) = [] := by
      unfold holdE
      rw [List.map_eq_nil_iff, List.filter_eq_nil_iff]
      intro x hx
      have := h.in_ x hx
      simp only [Bool.and_eq_true, beq_iff_eq]
      intro hh
      omega
    rw [ez, e, h1, h2]
    exact ⟨rfl, List.Perm.refl _, rfl⟩
  · obtain ⟨i, hi, e, hk, hz, hl, hp⟩ := h.some_ hs
    rw [getZ_some hs, e]
    refine ⟨hl, hp, ?_⟩
    unfold leftP
    rw [if_neg (by omega), sizeP_at hz, leftE_perm hp]
end Go.Proofs.Ytaikjobebbighaa
