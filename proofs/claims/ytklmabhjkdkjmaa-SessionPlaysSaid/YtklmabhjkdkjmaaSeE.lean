/- Contract: List. -/
import Derived.Test.YtklmabhjkdkjmaaSeT
namespace Go.Proofs.Ytklmabhjkdkjmaa
set_option linter.unusedVariables false
open Go.RowKit
theorem take_tk {L : List Tk} {k : Nat} (hk : k < L.length) : L.take (k + 1) = L.take k ++ [L[k]] := List.take_succ_eq_append_getElem hk
theorem cls_get {L : List Tk} {k : Nat} (h : k < (cls L).length) (h2 : k < L.length) : (cls L)[k] = L[k].cl := by simp [cls]
set_option maxHeartbeats 1000000 in
set_option maxRecDepth 100000 in
theorem list_any (g b m : Nat) (L : List Tk) (w : World) (h : ClAt w g b m L) (hm1 : m ≤ 1000000) :
    Calls Try.prog 10 #[.pointer (some ⟨g, 0, none⟩)] w fun e w' => ∃ B d, e = .returned (.slice B L.length d) ∧ OwnT w.heap.size w' B d L ∧ Below w.heap.size w w' := by
  obtain ⟨u, us, hr, hm, hu, hu0, hu1⟩ := h.w_.ex
  have C1 := Lib.hid (there_any g w _ b hr)
  have C2 := Lib.hid (clients_any g b m L w h.w_ hm1)
  have hl16 := h.good.few
  have HH := Lib.hid h
  have HR := Lib.hid hr
  have HM := Lib.hid hm
  clear h hr hm
  go_enter Try.func10, Try.ntmps10
  go_wp2_with fail
  refine C1.out.mono ?_
  rintro e w1 ⟨rfl, rfl⟩
  go_wp2_with fail
  refine C2.out.mono ?_
  rintro e w2 ⟨B2, d2, rfl, ho2, hb2⟩
  have O2 := Lib.hid ho2
  have K2 := Lib.hid hb2
  clear ho2 hb2 C1 C2
  go_wp2_with fail
  go_loopw [3, 13] (fun v i wr => ∃ (k : Nat) (B : Option Addr) (d : Nat), k ≤ L.length ∧ i = .int .i64 k ∧ v = .slice B (L.take k).length d ∧ OwnT w2.heap.size wr B d (L.take k) ∧ Below w2.heap.size w2 wr) (fun _ i _ => L.length - (intOf i).toNat)
  case atStart => exact ⟨0, none, 0, by omega, rfl, rfl, OwnT.nil _ _, Below.refl _ _⟩
  case round =>
    obtain ⟨k, B, d, hk, rfl, rfl, hown, hnx⟩ := hrel
    have HO := Lib.hid hown
    have HN := Lib.hid hnx
    clear hown hnx
    by_cases hlt : k < L.length
    · have hcl : k < (cls L).length := by unfold cls; rw [List.length_map]; exact hlt
      obtain ⟨sd, rfl, hsb, hsc⟩ := (O2.out.sl.over HN.out) k hcl
      have hce : (cls L)[k] = L[k].cl := cls_get hcl hlt
      rw [hce] at hsc
      have hbel := nextC K2.out HN.out
      have c0 := (HR.out.over hbel).cell 0
      simp at c0
      have hwf := HH.out.w_.wf L[k] (List.getElem_mem _)
      have hlk := (HM.out.below hbel).look hwf
      have hat : atC L us L[k].cl = tkV L[k].sq L[k].e L[k].n (us L[k].cl) := by unfold atC; rw [findT_of HH.out.good.once (List.getElem_mem _)]
      rw [hat] at hlk
      unfold tkV at hlk
      have htk := take_tk hlt
      have htl : (L.take k).length = k := by rw [List.length_take]; omega
      obtain ⟨t, ht⟩ : ∃ t, L[k] = t := ⟨_, rfl⟩
      rw [ht] at hsc hlk htk
      generalize us t.cl = uu at hlk
      have HTK := Lib.hid htk
      have HTL := Lib.hid htl
      clear hce hbel hwf hat htk htl ht hcl
      generalize L.take k = o at *
      go_upto_region 8 with fail
      obtain ⟨W3, hW3⟩ : ∃ W3, wr.alloc (.cells #[.int .u64 t.sq, .int .i64 t.e, .int .u64 t.n, .int .i64 uu] 51) = W3 := ⟨_, rfl⟩
      have rC : Row W3 wr.heap.size 51 #[.int .u64 t.sq, .int .i64 t.e, .int .u64 t.n, .int .i64 uu] := by rw [← hW3]; exact Row.new wr _ _
      have b3 : Below wr.heap.size wr W3 := by rw [← hW3]; exact (Below.refl _ wr).alloc (Nat.le_refl _) _
      rw [hW3]
      have z0 := rC.cell 0
      have z1 := rC.cell 1
      have z2 := rC.cell 2
      simp at z0 z1 z2
      have HO3 := Lib.hid (HO.out.over b3)
      have HN3 := Lib.hid (nextC HN.out b3)
      have hz3 := HN3.out.size
      clear hW3 rC b3 HO HN hsc hlk c0 hsb
      go_wp2_with (at_builtin; refine app1T rfl _ _ rfl w2.heap.size B _ d o t rfl rfl HO3.out rfl hz3 (by have := HTL.out; omega) ?_)
      intro B' d' w5 hown5 hb5
      have HO5 := Lib.hid hown5
      have HN5 := Lib.hid (HN3.out.trans hb5)
      clear hown5 hb5
      go_wp2_with fail
      go_roundw
      case rel => exact ⟨k + 1, B', d', by omega, by go_num, by rw [HTK.out, List.length_append]; rfl, by rw [HTK.out]; exact HO5.out, HN5.out⟩
      case measure => simp [intOf]; omega
    · obtain rfl : k = L.length := by omega
      rw [List.take_length] at HO
      rw [List.take_length]
      go_wp2_with fail
      go_ret
      exact ⟨B, d, rfl, HO.out.low K2.out.size, nextC K2.out HN.out⟩
end Go.Proofs.Ytklmabhjkdkjmaa
