/- Contract: clients. -/
import Derived.Test.YtklmabhjkdkjmaaSeB
import Derived.Test.YtklmabhjkdkjmaaSfA
import Derived.Test.YtklmabhjkdkjmaaSfN
import Derived.Test.YtklmabhjkdkjmaaItT
namespace Go.Proofs.Ytklmabhjkdkjmaa
set_option linter.unusedVariables false
open Go.RowKit Go.Sort
theorem keysT_any (mb : Option Nat) (w : World) :
    Calls Try.prog 22 #[.map mb] w fun e w' => e = .returned (.func (.func 27) #[] #[.pointer (some ⟨w.heap.size, 0, none⟩)]) ∧ w' = w.alloc (.cells #[.map mb] 46) := it_keys mb w
set_option maxHeartbeats 1000000 in
theorem sorted_clients (g b m bx Bm : Nat) (L : List Tk) (us : Int → Int) (u : Int) (w : World) (hwf : ∀ x ∈ cls L, (Lit.int .u64 x).wf = true) (hn : (cls L).Nodup) (hl16 : L.length ≤ 1000) (hBm : Bm < w.heap.size) (hBc : w.cell? ⟨Bm, 0, none⟩ = some (.map (some b)))
    (hbx : w.cell? ⟨bx, 0, none⟩ = some (.pointer (some ⟨g, 0, none⟩))) (hr : Row w g 48 #[.map (some b), .int .i64 u]) (hm : MpS w b m (cls L) (atC L us)) (hu : Uses L us u) (h0 : 0 ≤ u) (h1 : u ≤ 1000000) :
    Calls Try.prog 21 #[.func (.func 27) #[] #[.pointer (some ⟨Bm, 0, none⟩)], .func (.func 23) #[] #[.pointer (some ⟨bx, 0, none⟩)]] w fun e w' =>
      ∃ B d, e = .returned (.slice B L.length d) ∧ OwnU w.heap.size w' B d (cls L) ∧ Below w.heap.size w w' := by
  obtain ⟨n, D, hown, hsz, hperm⟩ := hm.keys hn hwf
  have hll : (cls L).length = L.length := by unfold cls; rw [List.length_map]
  have C1 := Lib.hid (collected_keys b n D Bm w hBm hBc hown (by omega))
  have hbl := hown.lt
  have hgl := hr.lt
  have hbxl := World.block_lt_of_cell? _ _ hbx
  have HA := Lib.hid (And.intro hr (And.intro hm (And.intro hu hbx)))
  have HP := Lib.hid hperm
  clear hown hperm hr hm hu hbx hBc hBm hsz
  go_enter Try.func21, Try.ntmps21
  go_wp2_with fail
  refine C1.out.mono ?_
  rintro e w1 ⟨B, d, ss, rfl, hp, hown, hb1⟩
  have hpl : ss.Perm (cls L) := hp.trans HP.out.symm
  have hsl : ss.length = L.length := by rw [hpl.length_eq, hll]
  have K1 := Lib.hid hb1
  have C2 : Calls Try.prog 26 #[.slice B ss.length d, .func (.func 23) #[] #[.pointer (some ⟨bx, 0, none⟩)]] w1 fun e w' =>
      e = .returned (.tuple #[]) ∧ OwnU w.heap.size w' B d (cls L) ∧ Below w.heap.size w w' := by
    obtain ⟨hr, hm, hu, hbx⟩ := HA.out
    rcases hown.2 with ⟨hv, h0'⟩ | ⟨gb, cap', cur, hv, hbase, hgb, r1, r2, r3, r4⟩
    · injection hv with v1 v2 v3
      subst v1 v3
      have hs0 : ss = [] := List.length_eq_zero_iff.1 h0'
      subst hs0
      have hL0 : cls L = [] := by
        have := hpl.length_eq
        exact List.length_eq_zero_iff.1 (by simpa using this.symm)
      refine (sortFunc_nil _ w1).mono ?_
      rintro e w' ⟨rfl, rfl⟩
      exact ⟨rfl, by rw [hL0]; exact OwnU.nil _ _, K1.out⟩
    · injection hv with v1 v2 v3
      subst v1 v3
      obtain ⟨ls, hls⟩ := u64_list ss (fun x hx => hwf x (hpl.mem_iff.1 hx))
      have hlsl : ls.length = ss.length := by rw [← hls, List.length_map]
      have hgw1 : gb < w1.heap.size := (Array.getElem?_eq_some_iff.1 hgb).1
      have h4 : cur.toList.take ls.length = ls.map encS := by
        rw [hlsl, ← Nat.mul_one ss.length, r4, ← hls, List.map_map]
        rfl
      have hbs := hb1.size
      have key := sortFunc_some w.heap.size gb d ls 23 #[.pointer (some ⟨bx, 0, none⟩)] (enters_of Try.func23 (by kernel_rfl) rfl) us w1 cur hbase hgb (by omega) r2 r3 h4 (by omega)
        (fun W hW x y => used_any g b m bx L us u W (by
            rw [hW.cell ((hb1.cell (p := ⟨bx, 0, none⟩) hbxl).trans hbx) (by simp; have : bx < w.heap.size := hbxl; omega)])
          ((hW.block g (by omega) (by simp; omega)).trans (hr.over hb1)) ((hm.below hb1).grown hW (by simp; omega)) hu h0 h1 x.1 y.1 x.2 y.2)
      rw [hlsl, hls] at key
      refine key.mono ?_
      rintro e w' ⟨rfl, l', hp', hs', ho', hg'⟩
      have e1 : l' = cls L := by
        have hsc : (cls L).Pairwise (fun a b => us a < us b) := by unfold cls; rw [List.pairwise_map]; exact hu.up
        refine List.Perm.eq_of_pairwise (le := fun a b => us a ≤ us b) ?_ hs' (hsc.imp fun h => by omega) (hp'.trans hpl)
        intro a b' ha hb' hab hba
        have ha' : a ∈ cls L := (hp'.trans hpl).mem_iff.1 ha
        obtain ⟨i, hi, rfl⟩ := List.mem_iff_getElem.1 ha'
        obtain ⟨j, hj, rfl⟩ := List.mem_iff_getElem.1 hb'
        have hpw := List.pairwise_iff_getElem.1 hsc
        rcases Nat.lt_trichotomy i j with h | h | h
        · have := hpw i j hi hj h; omega
        · subst h; rfl
        · have := hpw j i hj hi h; omega
      subst e1
      refine ⟨rfl, ?_, hb1.grown hg' hb1.size (fun k hk => by cases hk; exact hbase)⟩
      unfold OwnU
      rw [hll, ← hsl]
      exact ho'
  have C2 := Lib.hid C2
  have HSL := Lib.hid hsl
  clear hown hp hpl hsl hb1
  go_wp2_with fail
  refine C2.out.mono ?_
  rintro e w2 ⟨rfl, ho2, hb2⟩
  have O2 := Lib.hid ho2
  have K2 := Lib.hid hb2
  clear ho2 hb2 C2
  go_wp2_with fail
  go_ret
  exact ⟨B, d, by first | rfl | (rw [HSL.out]; rfl), O2.out, K2.out⟩
set_option maxHeartbeats 1000000 in
theorem clients_any (g b m : Nat) (L : List Tk) (w : World) (h : ClW w g b m L) (hm1 : m ≤ 1000000) :
    Calls Try.prog 17 #[.pointer (some ⟨g, 0, none⟩)] w fun e w' => ∃ B d, e = .returned (.slice B L.length d) ∧ OwnU w.heap.size w' B d (cls L) ∧ Below w.heap.size w w' := by
  obtain ⟨u, us, hr, hm, hu, hu0, hu1⟩ := h.ex
  have hwf : ∀ x ∈ cls L, (Lit.int .u64 x).wf = true := fun x hx => by
    obtain ⟨t, ht, rfl⟩ := List.mem_map.1 hx
    exact h.wf t ht
  obtain ⟨W1, hW1⟩ : ∃ W1, w.alloc (.cells #[.pointer (some ⟨g, 0, none⟩)] 24) = W1 := ⟨_, rfl⟩
  have hb1 : Below w.heap.size w W1 := by rw [← hW1]; exact (Below.refl _ w).alloc (Nat.le_refl _) _
  have r1 : Row W1 w.heap.size 24 #[.pointer (some ⟨g, 0, none⟩)] := by rw [← hW1]; exact Row.new w _ _
  have hz1 : W1.heap.size = w.heap.size + 1 := by rw [← hW1]; simp
  have k0 := r1.cell 0
  have hr1 := hr.over hb1
  have c0 := hr1.cell 0
  simp at k0 c0
  obtain ⟨W2, hW2⟩ : ∃ W2, W1.alloc (.cells #[.map (some b)] 46) = W2 := ⟨_, rfl⟩
  have hb2 : Below W1.heap.size W1 W2 := by rw [← hW2]; exact (Below.refl _ W1).alloc (Nat.le_refl _) _
  have r2 : Row W2 W1.heap.size 46 #[.map (some b)] := by rw [← hW2]; exact Row.new W1 _ _
  have j0 := r2.cell 0
  have k2 := (r1.over hb2).cell 0
  simp at j0 k2
  have C1 := Lib.hid (keysT_any (some b) W1)
  have C2 := Lib.hid (sorted_clients g b m w.heap.size W1.heap.size L us u W2 hwf h.once (by have := h.len17; omega) r2.lt j0 k2 (hr1.over hb2) ((hm.below hb1).below hb2) hu hu0 (by omega))
  have HB := Lib.hid (nextC hb1 hb2)
  have HW2 := Lib.hid hW2
  clear hr hm hu hb1 r1 hr1 hb2 r2 j0 k2 h hwf hz1 hW2
  go_enter Try.func17, Try.ntmps17
  go_wp2_with fail
  refine C1.out.mono ?_
  rintro e w3 ⟨rfl, rfl⟩
  rw [HW2.out]
  go_wp2_with fail
  refine C2.out.mono ?_
  rintro e w4 ⟨B, d, rfl, ho, hb4⟩
  have K4 := Lib.hid (nextC HB.out hb4)
  have O4 := Lib.hid (ho.low HB.out.size)
  clear ho hb4 C2
  go_wp2_with fail
  go_ret
  exact ⟨B, d, rfl, O4.out, K4.out⟩
end Go.Proofs.Ytklmabhjkdkjmaa
