/- Contracts of peers.Remove and of the reference's Remove. -/
import Derived.Test.YtdbodnpfeiplgaaPeG
namespace Go.Proofs.Ytdbodnpfeiplgaa
set_option linter.unusedVariables false
open Go.RowKit

theorem still_tail_drew {P : Program} {id : Nat} {Q : Exit → Act → World → Prop} {a : Act} {w : World} {l : List Oper} (n : Nat) (hm : P.follows .mixedOrders = true) (hB : Region.lexTailB .any l.toArray n = true)
    (h : wpStill P l.toArray w.drew (fun a' => wpList P l.toArray Q (l.drop n) a' w.drew) (l.take n) a) : (Code.region id l.toArray true).wp P Q a w :=
  wp_region_still_tail n hm hB h

theorem two_parts {w : World} {A1 A2 : Option Addr} {c1 c2 n1 n2 : Nat} {xs ys : List Int} (h1 : Sl w .u64 A1 xs) (h2 : Sl w .u64 A2 ys) (e1 : xs.length = n1) (e2 : ys.length = n2) (k1 : A1 = none → c1 = 0) (k2 : A2 = none → c2 = 0) :
    SlS (w.alloc (.cells #[.slice A1 n1 c1, .slice A2 n2 c2] 22)).drew (some ⟨w.heap.size, 0, none⟩) [⟨A1, c1, xs⟩, ⟨A2, c2, ys⟩] := fun j hj => by
  subst e1 e2
  refine ⟨_, rfl, by simp, ?_⟩
  have hR := (Row.new w 22 #[.slice A1 xs.length c1, .slice A2 ys.length c2]).drew
  match j, hj with
  | 0, _ => exact ⟨by have := hR.cell 0; simp [Addr.add], (h1.alloc _).drew, k1⟩
  | 1, _ => exact ⟨by have := hR.cell 1; simp [Addr.add], (h2.alloc _).drew, k2⟩

theorem remove_bad (A : Option Addr) (c : Nat) (l : List Int) (id : Int) (w : World) (h : Sl w .u64 A l) (hl : l.length ≤ 1000000) (hb : ¬ (mayP l = true ∧ id ≠ 0)) :
    Calls Try.prog 15 #[.slice A l.length c, .int .u64 id] w fun e w' => e = .returned (.tuple #[.slice none 0 0, .int .i64 2]) ∧ w = w' := by
  have C := may_any A c l w h (by omega)
  by_cases hm : mayP l = true
  · have hid : id = 0 := Classical.byContradiction fun hne => hb ⟨hm, hne⟩
    subst hid
    rw [hm] at C
    have C := Lib.hid C
    clear hb hm
    go_enter Try.func15, Try.ntmps15
    go_wp2_with fail
    refine C.out.mono ?_
    rintro e w1 ⟨rfl, rfl⟩
    go_wp2_with fail
    go_ret2
    exact ⟨rfl, rfl⟩
  · rw [Bool.not_eq_true] at hm
    rw [hm] at C
    have C := Lib.hid C
    clear hb hm
    go_enter Try.func15, Try.ntmps15
    go_wp2_with fail
    refine C.out.mono ?_
    rintro e w1 ⟨rfl, rfl⟩
    go_wp2_with fail
    go_ret2
    exact ⟨rfl, rfl⟩

theorem remove_none (A : Option Addr) (c : Nat) (l : List Int) (id : Int) (w : World) (h : Sl w .u64 A l) (hl : l.length ≤ 1000000) (hm : mayP l = true) (h0 : id ≠ 0) (hh : hasL l id = false) :
    Calls Try.prog 15 #[.slice A l.length c, .int .u64 id] w fun e w' => e = .returned (.tuple #[.slice none 0 0, .int .i64 5]) ∧ w = w' := by
  have C := may_any A c l w h (by omega)
  have D := index_any A c l id w h (by omega)
  unfold idxL at D
  rw [hm] at C
  rw [hh, if_neg (by simp)] at D
  have C := Lib.hid C
  have D := Lib.hid D
  have b0 : (id == 0) = false := beq_eq_false_iff_ne.2 h0
  clear hm hh h0
  go_enter Try.func15, Try.ntmps15
  go_wp2_with fail
  refine C.out.mono ?_
  rintro e w1 ⟨rfl, rfl⟩
  go_wp2_with fail
  refine D.out.mono ?_
  rintro e w1 ⟨rfl, rfl⟩
  go_wp2_with fail
  go_ret2
  exact ⟨rfl, rfl⟩

theorem remove_one (A : Option Addr) (c : Nat) (l : List Int) (id : Int) (w : World) (h : Sl w .u64 A l) (hl : l.length ≤ 1000000) (hm : mayP l = true) (h0 : id ≠ 0) (hh : hasL l id = true) (h1 : l.length = 1) :
    Calls Try.prog 15 #[.slice A l.length c, .int .u64 id] w fun e w' => e = .returned (.tuple #[.slice none 0 0, .int .i64 2]) ∧ w = w' := by
  have C := may_any A c l w h (by omega)
  have D := index_any A c l id w h (by omega)
  unfold idxL at D
  rw [hm] at C
  rw [hh, if_pos rfl] at D
  have hi := idxN_le l id
  generalize idxN l id = i at *
  have C := Lib.hid C
  have D := Lib.hid D
  have b0 : (id == 0) = false := beq_eq_false_iff_ne.2 h0
  have b1 : ((l.length : Int) == 1) = true := by rw [h1]; rfl
  have H1 := Lib.hid h1
  have hl1 : l.length ≤ 1 := by omega
  clear hm hh h0 h1
  go_enter Try.func15, Try.ntmps15
  go_wp2_with fail
  refine C.out.mono ?_
  rintro e w1 ⟨rfl, rfl⟩
  go_wp2_with fail
  refine D.out.mono ?_
  rintro e w1 ⟨rfl, rfl⟩
  go_wp2_with fail
  go_ret2
  exact ⟨rfl, rfl⟩

set_option maxHeartbeats 1000000 in
theorem remove_ok (A : Option Addr) (c : Nat) (l : List Int) (id : Int) (w : World) (h : Sl w .u64 A l) (hcap : l.length ≤ c) (hc63 : c ≤ maxLen) (hm : mayP l = true) (h0 : id ≠ 0) (hh : hasL l id = true) (h1 : l.length ≠ 1) :
    Calls Try.prog 15 #[.slice A l.length c, .int .u64 id] w fun e w' => ∃ B d, e = .returned (.tuple #[.slice B (wo l id).length d, .int .i64 0]) ∧ OwnU w.heap.size w' B d (wo l id) ∧ Below w.heap.size w w' := by
  obtain ⟨hr, -, h8⟩ := mayP_iff.1 hm
  have hmem := hasL_iff.1 hh
  have hcut := wo_cut (rise_nodup hr) hmem
  have hi := idxN_lt hmem
  obtain ⟨ad, rfl⟩ := h.some_ (by intro e; rw [e] at hi; simp at hi)
  have C := may_any (some ad) c l w h (by omega)
  have D := index_any (some ad) c l id w h (by omega)
  unfold idxL at D
  rw [hm] at C
  rw [hh, if_pos rfl] at D
  generalize idxN l id = i at *
  unfold maxLen at hc63
  have C := Lib.hid C
  have D := Lib.hid D
  have HC := Lib.hid hcut
  have H := Lib.hid h
  have b0 : (id == 0) = false := beq_eq_false_iff_ne.2 h0
  have b1 : ((l.length : Int) == 1) = false := by rw [beq_eq_false_iff_ne]; omega
  clear hm hh h0 hcut hmem hr h h1
  have e1 : IntKind.i64.wrap ((i : Int) + 1) = (i : Int) + 1 := IntWalk.i64_in _ (by omega)
  have e2 : (0 : Int) ≤ (i : Int) + 1 := by omega
  have e3 : (0 : Int) ≤ (i : Int) := by omega
  have e4 : (i : Int) ≤ (c : Int) := by omega
  have e5 : (i : Int) + 1 ≤ (l.length : Int) := by omega
  have e6 : (l.length : Int) ≤ (c : Int) := by omega
  by_cases hci : c = i + 1
  · subst hci
    have hnil := Lib.hid (List.drop_of_length_le (by omega) : l.drop (i + 1) = [])
    have hsz : ∀ W, (sizeOf (Try.prog.elem 22)).run Try.prog W = .ok 1 W := fun W => by kernel_rfl
    have hut : Try.prog.underlying 22 = some (.slice (Try.prog.elem 22)) := by kernel_rfl
    have hs1 : ∀ W, (Instr.slice 22 (.slice (some ad) l.length (i + 1)) none (some (.int .i64 (i : Int))) none).run Try.prog W = .ok (.slice (some ad) i (i + 1)) W := fun W => by
      rw [run_slice_h W _ _ _ _ hut .i64 (i : Int) (by omega) (by omega), hsz]
      simp [Result.andThen, sliced, Addr.add]
    have hs2 : ∀ W, (Instr.slice 22 (.slice (some ad) l.length (i + 1)) (some (.int .i64 ((i : Int) + 1))) none none).run Try.prog W = .ok (.slice (some ad) 0 0) W := fun W => by
      rw [run_slice_l W _ _ _ _ hut .i64 ((i : Int) + 1) (by omega) (by omega), hsz]
      simp only [Result.andThen, sliced]
      rw [show ((i : Int) + 1).toNat = i + 1 by omega, if_pos rfl, show l.length - (i + 1) = 0 by omega, Nat.sub_self]
    clear hsz hut e1 e2 e4
    have e1 : IntKind.i64.wrap ((i : Int) + 1) = (i : Int) + 1 := IntWalk.i64_in _ (by omega)
    go_enter Try.func15, Try.ntmps15
    go_wp2_with fail
    refine C.out.mono ?_
    rintro e w1 ⟨rfl, rfl⟩
    go_wp2_with fail
    refine D.out.mono ?_
    rintro e w1 ⟨rfl, rfl⟩
    go_wp2_with fail
    refine still_tail_drew 7 (by kernel_rfl) (by kernel_rfl) ?_
    simp only [List.take_succ_cons, List.take_zero, List.drop_succ_cons, List.drop_zero]
    repeat still_step
    refine wpStill_nil ?_
    have HS := two_parts (w := w) (c1 := i + 1) (c2 := 0) (n1 := i) (n2 := 0) (H.out.take i) (Sl.nil w .u64 (some ad)) (by rw [List.length_take]; omega) rfl (fun e => by cases e) (fun e => by cases e)
    have HK := Lib.hid (concat_any _ 2 _ _ HS (by simp) (by simp [catP]; omega))
    clear HS
    go_wp2_with fail
    refine HK.out.mono ?_
    rintro e w2 ⟨B, d, rfl, hown, hb2⟩
    have hw : catP [⟨some ad, i + 1, l.take i⟩, ⟨some ad, 0, []⟩] = wo l id := by rw [← HC.out, hnil.out]; simp [catP]
    rw [hw] at hown ⊢
    have q2 := ((Below.refl w.heap.size w).alloc (Nat.le_refl _) (.cells #[.slice (some ad) i (i + 1), .slice (some ad) 0 0] 22)).drew.trans (hb2.mono (by simp))
    go_wp2_with fail
    go_ret2
    exact ⟨B, d, rfl, hown.low (by simp), q2⟩
  · go_enter Try.func15, Try.ntmps15
    go_wp2_with fail
    refine C.out.mono ?_
    rintro e w1 ⟨rfl, rfl⟩
    go_wp2_with fail
    refine D.out.mono ?_
    rintro e w1 ⟨rfl, rfl⟩
    go_wp2_with fail
    refine still_tail_drew 7 (by kernel_rfl) (by kernel_rfl) ?_
    simp only [List.take_succ_cons, List.take_zero, List.drop_succ_cons, List.drop_zero]
    repeat still_step
    refine wpStill_nil ?_
    have H2 : Sl w .u64 (some ⟨ad.block, ad.off + (i + 1), none⟩) (l.drop (i + 1)) := by
      have := H.out.cut (n := i + 1) hcap
      rw [if_neg hci] at this
      simpa [Addr.add] using this
    have HS := two_parts (c1 := c) (c2 := c - (i + 1)) (n1 := i) (n2 := l.length - (i + 1)) (H.out.take i) H2 (by rw [List.length_take]; omega) (by rw [List.length_drop]) (fun e => by cases e) (fun e => by cases e)
    have HK := Lib.hid (concat_any _ 2 _ _ HS (by simp) (by simp [catP]; omega))
    clear H2 HS
    go_wp2_with fail
    refine HK.out.mono ?_
    rintro e w2 ⟨B, d, rfl, hown, hb2⟩
    have hw : catP [⟨some ad, c, l.take i⟩, ⟨some ⟨ad.block, ad.off + (i + 1), none⟩, c - (i + 1), l.drop (i + 1)⟩] = wo l id := by rw [← HC.out]; simp [catP]
    rw [hw] at hown ⊢
    have q2 := ((Below.refl w.heap.size w).alloc (Nat.le_refl _) (.cells #[.slice (some ad) i c, .slice (some ⟨ad.block, ad.off + (i + 1), none⟩) (l.length - (i + 1)) (c - (i + 1))] 22)).drew.trans (hb2.mono (by simp))
    go_wp2_with fail
    go_ret2
    exact ⟨B, d, rfl, hown.low (by simp), q2⟩

theorem remove_any (A : Option Addr) (c : Nat) (l : List Int) (id : Int) (w : World) (h : Sl w .u64 A l) (hl : l.length ≤ 1000000) (hcap : l.length ≤ c) (hc63 : c ≤ maxLen) :
    Calls Try.prog 15 #[.slice A l.length c, .int .u64 id] w fun e w' => ∃ B d, e = .returned (.tuple #[.slice B (remL l id).length d, .int .i64 (remE l id)]) ∧ OwnU w.heap.size w' B d (remL l id) ∧ Below w.heap.size w w' := by
  by_cases hb : mayP l = true ∧ id ≠ 0
  · obtain ⟨hm, h0⟩ := hb
    by_cases hh : hasL l id = true
    · by_cases h1 : l.length = 1
      · have e1 : remE l id = 2 := by unfold remE; rw [if_pos ⟨hm, h0⟩, if_pos hh, if_pos h1]
        have e2 : remL l id = [] := by unfold remL; rw [e1]; rfl
        rw [e1, e2]
        exact (remove_one A c l id w h hl hm h0 hh h1).mono fun e w' ⟨he, hw⟩ => ⟨none, 0, he, .nil _ _, hw ▸ Below.refl _ _⟩
      · have e1 : remE l id = 0 := by unfold remE; rw [if_pos ⟨hm, h0⟩, if_pos hh, if_neg h1]
        have e2 : remL l id = wo l id := by unfold remL; rw [e1]; rfl
        rw [e1, e2]
        exact remove_ok A c l id w h hcap hc63 hm h0 hh h1
    · have e1 : remE l id = 5 := by unfold remE; rw [if_pos ⟨hm, h0⟩, if_neg hh]
      have e2 : remL l id = [] := by unfold remL; rw [e1]; rfl
      rw [e1, e2]
      exact (remove_none A c l id w h hl hm h0 (by simpa using hh)).mono fun e w' ⟨he, hw⟩ => ⟨none, 0, he, .nil _ _, hw ▸ Below.refl _ _⟩
  · have e1 : remE l id = 2 := by unfold remE; rw [if_neg hb]
    have e2 : remL l id = [] := by unfold remL; rw [e1]; rfl
    rw [e1, e2]
    exact (remove_bad A c l id w h hl hb).mono fun e w' ⟨he, hw⟩ => ⟨none, 0, he, .nil _ _, hw ▸ Below.refl _ _⟩
end Go.Proofs.Ytdbodnpfeiplgaa
