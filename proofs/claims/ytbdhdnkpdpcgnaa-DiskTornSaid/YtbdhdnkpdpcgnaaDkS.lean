/- Contract of disk.settle. -/
import Derived.Test.YtbdhdnkpdpcgnaaDkP
namespace Go.Proofs.Ytbdhdnkpdpcgnaa
set_option linter.unusedVariables false
open Go.RowKit
variable {FR : Nat → Prop}
theorem DiskAt.drop {w : World} {g b : Nat} {st : Files} (h : DiskAt FR w g b st) (k : Key) (hk : k.length ≤ 1000000) (ty : TypeId) :
    ∃ w', (Builtin.delete_ #[37, 9] ty #[.map (some b), nm k]).run Try.prog w = .ok (.tuple #[]) w' ∧ DiskAt FR w' g b (stDel st k) ∧ w.grownBy w' (some b) := by
  obtain ⟨es, hm, hd⟩ := h.map
  obtain ⟨w', hrun, hown, ht⟩ := hm.drop (Maps.string_keyed Try.underlying9) Try.underlying37 (key_nm k hk) ty
  have hg := ht.grown
  obtain ⟨es0, clock, hb0, -⟩ := hm
  have hd' := hd.del k
  refine ⟨w', hrun, ⟨?_, ⟨_, ownsMap_size hown, hd'.stays (Stays.grown hb0 hg)⟩, fun x hx => Nat.lt_of_lt_of_le (h.far x hx) hg.size⟩, hg⟩
  have hne : g ≠ b := by
    intro e
    subst e
    have := h.row.symm.trans hb0
    simp at this
  exact (hg.block g h.ltg (fun e => hne (by injection e))).trans h.row
/-- delete(m, k), for the walk. -/
theorem wpList_drop {ops : Array Oper} {rest : List Oper} {o : Oper} {a : Act} {Q : Exit → Act → World → Prop} {w : World} (hgd : o.guard = none) (m x : Operand) (hop : o.op = Op.call { callee := Callee.builtin Builtin.delete, args := #[m, x], argTypes := #[37, 9] })
    (g b : Nat) (st : Files) (k : Key) (hm : a.eval m = .map (some b)) (hx : a.eval x = nm k) (h : DiskAt FR w g b st) (hk : k.length ≤ 1000000)
    (hK : ∀ w', DiskAt FR w' g b (stDel st k) → w.grownBy w' (some b) → wpList Try.prog ops Q rest (a.put o.dst (.tuple #[])) w') : wpList Try.prog ops Q (o :: rest) a w := by
  refine wpList_plain hgd fun K' hK' => ?_
  obtain ⟨w', hrun, r1, r2⟩ := h.drop k hk o.type
  unfold Oper.wp
  simp [execOp, hop, resolve, invoke, builtin, hm, hx, hrun, Result.andThen]
  exact hK' _ _ (hK w' r1 r2)
set_option maxHeartbeats 1000000 in
set_option maxRecDepth 100000 in
theorem settle_any (g b : Nat) (st : Files) (k : Key) (A : Option Addr) (cA : Nat) (B : Option Addr) (dn : Nat) (L : Option Addr) (e : Nat) (s n : List Int) (isS isN : Bool) (lo : Nat) (w : World) (h : DiskAt FR w g b st) (hb : BSl FR w B dn n) (hk : k.length ≤ 1000000) (hst : st.length ≤ 1000000) :
    Calls Try.prog 21 #[.pointer (some ⟨g, 0, none⟩), nm k, .agg #[.slice A s.length cA, .slice B n.length dn, .bool isS, .bool isN, .slice L lo e]] w fun x w' =>
      x = .returned (.tuple #[]) ∧ DiskAt FR w' g b (settleS st k n isN) ∧ w.grownBy w' (some b) := by
  obtain ⟨W1, hW1⟩ : ∃ W1, w.alloc (.cells #[.slice A s.length cA, .slice B n.length dn, .bool isS, .bool isN, .slice L lo e] 44) = W1 := ⟨_, rfl⟩
  have rF : Row W1 w.heap.size 44 #[.slice A s.length cA, .slice B n.length dn, .bool isS, .bool isN, .slice L lo e] := by rw [← hW1]; exact Row.new w _ _
  have hb1 : Below w.heap.size w W1 := by rw [← hW1]; exact (Below.refl _ w).alloc (Nat.le_refl _) _
  have h1 := h.below hb1
  have cg := h1.row.cell 0
  have k1 := rF.cell 1
  have k3 := rF.cell 3
  simp at cg k1 k3
  have HB := Lib.hid (hb.stays (Stays.below hb1))
  have H1 := Lib.hid h1
  have B1 := Lib.hid hb1
  have HW := Lib.hid hW1
  clear h1 rF hb1 hb hW1 h
  rcases isN with _ | _
  · go_enter Try.func21, Try.ntmps21
    go_upto_region 1 with fail
    rw [HW.out]
    clear HW
    go_wp2_with (at_delete; refine wpList_drop rfl _ _ rfl g b st k rfl (by rfl) H1.out hk ?_; intro w2 hd2 hg2)
    refine bodyPost_ret (results_none rfl _ _ _) rfl ?_
    exact ⟨rfl, hd2, (kp_below b B1.out).trans hg2⟩
  · obtain ⟨w', hrunU, hD', hg'⟩ := (H1.out.below (Below.refl _ _).drew).store k hk hst B dn B dn none 0 ⟨n, n, true, true, []⟩ ⟨HB.out.stays (Stays.drew W1), HB.out.stays (Stays.drew W1), SlC.nil _ _, fun _ => rfl, Nat.le_refl _, by decide⟩
    unfold filVal at hrunU
    simp only [List.length_nil] at hrunU
    have HD := Lib.hid hD'
    have HG := Lib.hid ((kp_below b B1.out.drew).trans hg')
    clear hD' hg'
    go_enter Try.func21, Try.ntmps21
    go_upto_region 1 with fail
    rw [HW.out]
    clear HW
    go_wp2_with fail
    go_region_law fail
    all_goals
      go_wp2_with fail
      refine bodyPost_end (results_none rfl _ _ _) rfl ?_
      exact ⟨rfl, HD.out, HG.out⟩
end Go.Proofs.Ytbdhdnkpdpcgnaa
