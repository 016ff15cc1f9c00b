/- Slots: slices.Clone, slices.Delete at places. -/
import Derived.Test.YtaikjobebbighaaSlA
import Derived.Test.YtaikjobebbighaaRl
import Derived.Deep.RegionHeldLaw
namespace Go.Proofs.Ytaikjobebbighaa
set_option linter.unusedVariables false
set_option maxRecDepth 100000
open Go.RowKit
theorem infoP : (Try.prog.info? 38).map (fun i => (i.zero, i.size, i.bytes)) = some (some (.agg #[.int .u64 0, .int .i64 0]), 2, 16) := by kernel_rfl
/-- Places of the call's own. -/
abbrev PlO (base : Nat) (w : World) (B : Option Addr) (d : Nat) (l : List Pl) : Prop := RkO enP 2 38 base w B d l
theorem RkO.made0 {α : Type} (en : α → List Value) (k : Nat) (e : TypeId) (w : World) : RkO en k e w.heap.size (w.alloc (.cells #[] e)) (some ⟨w.heap.size, 0, none⟩) 0 ([] : List α) :=
  ⟨by simp [rkCs], .inr ⟨w.heap.size, 0, #[], rfl, Nat.le_refl _, heap_alloc_new w _, Nat.le_refl _, by unfold maxLen; omega, by simp, by simp [rkCs]⟩⟩
set_option maxHeartbeats 1000000 in
theorem clone_any (A : Option Addr) (c : Nat) (l : List Pl) (w : World) (h : PlS w A l) (hA : A = none → c = 0) (hl : l.length ≤ 1000000) :
    Calls Try.prog 30 #[.slice A l.length c] w fun e w' => (∃ B d, e = .returned (.slice B l.length d) ∧ PlO w.heap.size w' B d l) ∧ Below w.heap.size w w' := by
  have q22 : ∀ (w : World) (a : Option Addr) (n c n' c' : Nat), (binOp .eql 31 (.slice a n c) (.slice none n' c')).run Try.prog w = .ok (.bool a.isNone) w := fun w a n c n' c' => Lib.run_eql_slice_nil w _ _ a n c n' c' Try.underlying31
  cases A with
  | none =>
    have e : l = [] := by
      rcases l with _ | ⟨x, l⟩
      · rfl
      · obtain ⟨ad, e, _⟩ := h 0 (by simp)
        cases e
    subst e
    obtain rfl := hA rfl
    go_enter Try.func30, Try.ntmps30
    go_wp2_with fail
    go_ret
    exact ⟨⟨none, 0, rfl, RkO.nil _ _⟩, Below.refl _ _⟩
  | some ad =>
    have H := Lib.hid (RkS.alloc h (.cells #[] 38))
    have O0 := Lib.hid (RkO.made0 enP 2 38 w)
    clear h hA
    go_enter Try.func30, Try.ntmps30
    go_wp2_with (first | (at_builtin; refine appSK rfl _ _ rfl Try.underlying31 infoP rfl (by decide) (by decide) enP_len enP_one _ rfl rfl O0.out (some ad) c l rfl H.out (by simp) (by simp) (by simp; omega) ?_; intro B d w2 ho hg hb))
    go_ret
    refine ⟨⟨B, d, by simp, ho⟩, ?_⟩
    exact ((Below.refl _ w).alloc (Nat.le_refl _) _).trans (hb.mono (by simp))
/-- Without one. -/
def wo1 (l : List Pl) (i : Nat) : List Pl := l.take i ++ l.drop (i + 1)
theorem wo1_len {l : List Pl} {i : Nat} (hi : i < l.length) : (wo1 l i).length = l.length - 1 := by unfold wo1; simp; omega
set_option maxHeartbeats 2000000 in
theorem delete_any (base g d : Nat) (l : List Pl) (i : Nat) (w : World) (h : PlO base w (some ⟨g, 0, none⟩) d l) (hi : i < l.length) (hl : l.length ≤ 1000000) :
    Calls Try.prog 29 #[.slice (some ⟨g, 0, none⟩) l.length d, .int .i64 i, .int .i64 ((i : Int) + 1)] w fun e w' => e = .returned (.slice (some ⟨g, 0, none⟩) (l.length - 1) d) ∧ PlO base w' (some ⟨g, 0, none⟩) d (wo1 l i) ∧ w.grownBy w' (some g) := by
  obtain ⟨i0, hi0, hz0, hz1, hz2⟩ := info_parts infoP
  obtain ⟨cur, hr, hb, hld, hdm, hsz, htk⟩ := h.open_
  have hmax : d ≤ 9223372036854775807 := by unfold maxLen at hdm; omega
  -- the beginning, as a row of its own
  have ho1 : PlO base w.drew (some ⟨g, 0, none⟩) d (l.take i) := RkO.make enP_len (cur := cur) hr hb (by rw [List.length_take]; omega) hdm hsz fun j hj => by
    rw [List.length_take, Nat.min_eq_left (by omega)] at hj
    rw [RkO.at_ enP_len htk (j := j) (by omega)]
    have e : l = l.take i ++ l.drop i := (List.take_append_drop i l).symm
    have hlen : (rkCs enP (l.take i)).length = i * 2 := by rw [rkCs_len enP_len, List.length_take, Nat.min_eq_left (by omega)]
    rw [e, rkCs_append, List.getElem?_append_left (by omega), List.take_left' (by rw [List.length_take, Nat.min_eq_left (by omega)])]
  have hs : PlS w (some ⟨g, 0, none⟩) l := RkO.rks enP_len h
  obtain ⟨news, hnews⟩ : ∃ news, news = rkCs enP (l.drop (i + 1)) := ⟨_, rfl⟩
  obtain ⟨A, hA, hsrc⟩ : ∃ A : Addr, (if d = i + 1 then some (⟨g, 0, none⟩ : Addr) else some ⟨g, (i + 1) * 2, none⟩) = some A ∧ Hid (∀ j u, news[j]? = some u → w.drew.cell? (A.add j) = some u) := by
    by_cases hd : d = i + 1
    · refine ⟨_, by rw [if_pos hd], Lib.hid fun j u hu => ?_⟩
      rw [hnews, List.drop_eq_nil_of_le (by omega)] at hu
      simp [rkCs] at hu
    · refine ⟨_, by rw [if_neg hd], Lib.hid fun j u hu => ?_⟩
      have hc := RkS.cut hs (n := i + 1) (cap := d) hld
      rw [if_neg hd] at hc
      rw [hnews] at hu
      have := RkS.cells enP_len (ad := (⟨g, 0, none⟩ : Addr).add ((i + 1) * 2)) hc j u hu
      rw [show (⟨g, 0, none⟩ : Addr).add ((i + 1) * 2) = ⟨g, (i + 1) * 2, none⟩ by unfold Addr.add; split <;> simp_all] at this
      exact this
  obtain ⟨w1, hrun, ho2, hg2⟩ := run_append_fits (P := Try.prog) w.drew base 31 31 38 i0 2 Try.underlying31 hi0 hz1 g i d (rkCs enP (l.take i)) (by have := ho1; unfold PlO RkO at this; rw [List.length_take, Nat.min_eq_left (by omega)] at this; exact this) A (l.length - (i + 1)) (d - (i + 1)) news
    (by rw [hnews, rkCs_len enP_len, List.length_drop]) hsrc.out (fun u hu => rkCs_one enP_one _ u (by rw [← hnews]; exact hu)) (by omega)
  rw [show i + (l.length - (i + 1)) = l.length - 1 by omega] at hrun ho2
  have ho3 : PlO base w1 (some ⟨g, 0, none⟩) d (wo1 l i) := by
    unfold PlO RkO
    rw [wo1_len hi]
    unfold wo1
    rw [rkCs_append, ← hnews]
    exact ho2
  obtain ⟨cur1, hr1, -, -, -, hsz1, htk1⟩ := ho3.open_
  have hin : (l.length - 1) * 2 + 2 ≤ cur1.size := by rw [hsz1]; omega
  have hcl : ∀ ty, (Builtin.clear_ #[31] ty #[.slice (some ⟨g, (l.length - 1) * 2, none⟩) 1 (d - (l.length - 1))]).run Try.prog w1 = .ok (.tuple #[]) (w1.setCells g ((l.length - 1) * 2) [.int .u64 0, .int .i64 0]) := fun ty =>
    run_clear2 w1 _ _ ty (.int .u64 0) (.int .i64 0) Try.underlying31 Try.zeroValue38 rfl rfl g _ _ (by rw [hr1.cell, Array.getElem?_eq_getElem (by omega)]; rfl) (by rw [hr1.cell, Array.getElem?_eq_getElem (by omega)]; rfl) (hr1.free _) (hr1.free _)
  have hrow2 := Row.puts [.int .u64 0, .int .i64 0] ((l.length - 1) * 2) hr1
  have hfin : PlO base (w1.setCells g ((l.length - 1) * 2) [.int .u64 0, .int .i64 0]) (some ⟨g, 0, none⟩) d (wo1 l i) := RkO.make enP_len hrow2 hb (by rw [wo1_len hi]; omega) hdm (by rw [layC_size, hsz1]) fun j hj => by
    rw [wo1_len hi] at hj
    rw [layC_get _ _ _ _ (by simpa using hin), if_neg (by omega), RkO.at_ enP_len htk1 (j := j) (by rw [wo1_len hi]; exact hj)]
  have hgr : w.grownBy (w1.setCells g ((l.length - 1) * 2) [.int .u64 0, .int .i64 0]) (some g) := by
    have k2 := grown_setCells g [.int .u64 0, .int .i64 0] ((l.length - 1) * 2) w1
    exact ⟨k2.os.trans hg2.os, k2.tape.trans hg2.tape, k2.output.trans hg2.output, Nat.le_trans hg2.size k2.size, fun k hk hne => (k2.block k (Nat.lt_of_lt_of_le hk hg2.size) hne).trans (hg2.block k hk hne)⟩
  have HF := Lib.hid hfin
  have HG := Lib.hid hgr
  generalize hW2 : w1.setCells g ((l.length - 1) * 2) [.int .u64 0, .int .i64 0] = W2 at *
  clear hfin hgr hrow2 htk1 hsz1 hr1 ho3 ho2 hg2 hnews hs ho1 htk hsz hr hW2 hin
  have hdi : i ≤ d := by omega
  have hdi1 : i + 1 ≤ d := by omega
  have hbi0 : (0 : Int) ≤ (i : Int) + 1 := by omega
  have hbi1 : (i : Int) + 1 ≤ (l.length : Int) := by omega
  go_enter Try.func29, Try.ntmps29
  go_upto_region 5 with fail
  go_region_law (refine step_append_run rfl (.tmp 22) (.tmp 25) 31 31 rfl _ _ (by simp [Act.eval, Act.put]) (by simp [Act.eval, Act.put]) hrun ?_)
  have hl1 : 1 ≤ l.length := by omega
  have hsub : ((l.length - 1 : Nat) : Int) = (l.length : Int) - 1 := by omega
  have hdl : l.length - 1 ≤ d := by omega
  have hll : l.length - (l.length - 1) = 1 := by omega
  have hne : ¬ d = l.length - 1 := by omega
  go_wp2_with (at_builtin; refine wpList_clear_run _ rfl _ _ rfl _ (by simp [Act.eval, Act.put]) (hcl _) ?_)
  go_ret
  exact ⟨rfl, HF.out, HG.out⟩
end Go.Proofs.Ytaikjobebbighaa
