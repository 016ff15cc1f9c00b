/- The plain laws of PeersReach and PeersAsks, and contracts in one form. -/
import Derived.Test.YtdbodnpfeiplgaaPeV
import Derived.Test.YtdbodnpfeiplgaaPeLM
import Derived.Test.YtdbodnpfeiplgaaPeR
import Derived.Test.YtdbodnpfeiplgaaPkD
import Derived.Test.YtdbodnpfeiplgaaPkE
import Derived.Test.YtdbodnpfeiplgaaPkG
namespace Go.Proofs.Ytdbodnpfeiplgaa
set_option linter.unusedVariables false
open Go.RowKit
theorem look_map {l r : List Int} (hnd : l.Nodup) (hle : l.length ≤ r.length) : l.map (lookF l r) = r.take l.length := by
  apply List.ext_getElem
  · simp; omega
  · intro i h1 h2
    have hi : i < l.length := by simpa using h1
    rw [List.getElem_map, List.getElem_take, lookF_at l r l[i] i hi (fun j hj => ?_) (getD_at hi), getD_at (by omega)]
    rw [getD_at (by omega)]
    exact List.pairwise_iff_getElem.1 hnd j i _ hi hj
theorem mark_look {l r : List Int} (hm : mayP l = true) (hle : l.length ≤ r.length) (hr : ∀ x ∈ r, 0 ≤ x) : markF (lookF l r) l = bestF (r.take l.length) := by
  have hl := mayP_iff.1 hm
  unfold markF
  rw [if_pos hm, look_map (rise_nodup hl.1) hle, best_srt (r.take l.length) (by rw [List.length_take]; omega) fun x hx => hr x (List.mem_of_mem_take hx)]
  rw [List.length_take, Nat.min_eq_left hle]
/-- The best, as a bound. -/
theorem best_iff {a : List Int} (h0 : 1 ≤ a.length) (hp : ∀ x ∈ a, 0 ≤ x) (x : Int) : a.length / 2 + 1 ≤ geC a x ↔ x ≤ bestF a := by
  have h := geC_ge_iff (srt_sorted a) (m := a.length / 2 + 1) (by omega) (by rw [srt_len]; omega) x
  rw [srt_len, geC_perm (srt_perm a), ← best_srt a h0 hp] at h
  exact h
/-- Those of l whose number in a fits. -/
def selL (p : Int → Bool) : List Int → List Int → List Int
  | x :: l, y :: a => if p y = true then x :: selL p l a else selL p l a
  | _, _ => []
theorem selL_snoc (p : Int → Bool) : ∀ (l a : List Int) (x y : Int), l.length = a.length → selL p (l ++ [x]) (a ++ [y]) = if p y = true then selL p l a ++ [x] else selL p l a
  | [], [], x, y, _ => by simp [selL]
  | [], _ :: _, _, _, h => by simp at h
  | _ :: _, [], _, _, h => by simp at h
  | u :: l, v :: a, x, y, h => by
    simp only [List.cons_append, selL]
    rw [selL_snoc p l a x y (by simpa using h)]
    by_cases h1 : p v = true <;> by_cases h2 : p y = true <;> simp [h1, h2]
theorem selL_len (p : Int → Bool) : ∀ (l a : List Int), (selL p l a).length ≤ l.length
  | [], _ => by simp [selL]
  | _ :: _, [] => by simp [selL]
  | u :: l, v :: a => by
    have := selL_len p l a
    simp only [selL]
    split <;> simp <;> omega
theorem selL_mem (p : Int → Bool) : ∀ (l a : List Int), ∀ x ∈ selL p l a, x ∈ l
  | [], _, x, h => by simp [selL] at h
  | _ :: _, [], x, h => by simp [selL] at h
  | u :: l, v :: a, x, h => by
    simp only [selL] at h
    split at h
    · rcases List.mem_cons.1 h with rfl | h
      · simp
      · simp [selL_mem p l a x h]
    · simp [selL_mem p l a x h]
theorem cnt_cons_not {l y : List Int} {x : Int} (h : x ∉ l) : cnt l (x :: y) = cnt l y := by
  unfold cnt
  congr 1
  apply List.filter_congr
  intro z hz
  have : z ≠ x := fun e => h (e ▸ hz)
  unfold hasL
  simp [this]
theorem cnt_sel (p : Int → Bool) : ∀ (l a : List Int), l.Nodup → l.length = a.length → cnt l (selL p l a) = a.countP p
  | [], [], _, _ => rfl
  | [], _ :: _, _, h => by simp at h
  | _ :: _, [], _, h => by simp at h
  | x :: l, y :: a, hnd, h => by
    have hx := (List.nodup_cons.1 hnd).1
    have ih := cnt_sel p l a (List.nodup_cons.1 hnd).2 (by simpa using h)
    simp only [selL]
    by_cases hy : p y = true
    · rw [if_pos hy, List.countP_cons_of_pos hy, ← ih]
      have e := cnt_cons_not (y := selL p l a) hx
      unfold cnt at e ⊢
      rw [List.filter_cons, if_pos (by unfold hasL; simp), List.length_cons, e]
    · rw [if_neg hy, List.countP_cons_of_neg hy, ← ih]
      have hn : x ∉ selL p l a := fun h => hx (selL_mem p l a x h)
      unfold cnt
      rw [List.filter_cons, if_neg (by rw [hasL_iff]; exact hn)]
theorem reach_wins {l a : List Int} (hm : mayP l = true) (hla : l.length = a.length) (hp : ∀ x ∈ a, 0 ≤ x) : winsP l (selL (fun y => decide (bestF a ≤ y)) l a) = true := by
  have hl := mayP_iff.1 hm
  rw [winsP_iff, cnt_sel _ l a (rise_nodup hl.1) hla]
  have := (best_iff (by omega) hp (bestF a)).2 (Int.le_refl _)
  unfold geC at this
  exact ⟨hm, by omega⟩
theorem above_not {l a : List Int} (hm : mayP l = true) (hla : l.length = a.length) (hp : ∀ x ∈ a, 0 ≤ x) : winsP l (selL (fun y => decide (bestF a < y)) l a) = false := by
  have hl := mayP_iff.1 hm
  rw [Bool.eq_false_iff, Ne, winsP_iff, cnt_sel _ l a (rise_nodup hl.1) hla]
  rintro ⟨-, h⟩
  have h2 := mt (best_iff (by omega) hp (bestF a + 1)).1 (by omega)
  unfold geC at h2
  rw [show (fun y => decide (bestF a + 1 ≤ y)) = (fun y => decide (bestF a < y)) from rfl] at h2
  omega
theorem geC_set {x : Int} : ∀ (a : List Int) (i : Nat) (m : Int), a.getD i 0 ≤ m → geC a x ≤ geC (a.set i m) x
  | [], i, m, _ => by simp [geC]
  | y :: a, 0, m, h => by
    simp only [List.set_cons_zero]
    unfold geC
    simp at h
    by_cases h1 : x ≤ y
    · rw [List.countP_cons_of_pos (by simpa using h1), List.countP_cons_of_pos (by simp; omega)]
      exact Nat.le_refl _
    · rw [List.countP_cons_of_neg (by simpa using h1)]
      rw [List.countP_cons]
      omega
  | y :: a, i + 1, m, h => by
    simp only [List.set_cons_succ]
    have := geC_set (x := x) a i m (by simpa using h)
    unfold geC at this ⊢
    rw [List.countP_cons, List.countP_cons]
    omega
theorem best_up {a : List Int} {i : Nat} {m : Int} (h0 : 1 ≤ a.length) (hp : ∀ x ∈ a, 0 ≤ x) (hm : 0 ≤ m) (h : a.getD i 0 ≤ m) : bestF a ≤ bestF (a.set i m) := by
  have h1 := (best_iff h0 hp (bestF a)).2 (Int.le_refl _)
  have h2 := geC_set (x := bestF a) a i m h
  refine (best_iff (a := a.set i m) (by simpa using h0) (fun x hx => ?_) _).1 (by rw [List.length_set]; omega)
  rcases List.mem_or_eq_of_mem_set hx with hx | rfl
  · exact hp x hx
  · exact hm
/-! ### contracts in one form -/
def putX (l : List Int) : List Int := if mayP l = true then putL l else []
def putE (l : List Int) : Int := if mayP l = true then 0 else 2
theorem pput_any (A : Option Addr) (c : Nat) (l : List Int) (w : World) (h : Sl w .u64 A l) (hl : l.length ≤ 1000000) (hp : ∀ x ∈ l, 0 ≤ x ∧ x < 18446744073709551616) :
    Calls Try.prog 11 #[.slice A l.length c] w fun e w' => ∃ B d, e = .returned (.tuple #[.slice B (putX l).length d, .int .i64 (putE l)]) ∧ Sl w' .u8 B (putX l) ∧ Below w.heap.size w w' := by
  unfold putX putE
  rcases hm : mayP l with _ | _
  · refine (pput_bad A c l w h hl (fun x hx => (hp x hx).1) hm).mono ?_
    rintro e w' ⟨rfl, rfl⟩
    exact ⟨none, 0, rfl, Sl.nil _ _ _, Below.refl _ _⟩
  · refine (pput_ok A c l w h hl hp hm).mono ?_
    rintro e w' ⟨B, d, rfl, ho, hb⟩
    exact ⟨B, d, rfl, ho.sl, hb⟩
theorem rput_any (A : Option Addr) (c : Nat) (l : List Int) (w : World) (h : Sl w .u64 A l) (hl : l.length ≤ 1000000) (hp : ∀ x ∈ l, 0 ≤ x ∧ x < 18446744073709551616) :
    Calls Try.prog 17 #[.slice A l.length c] w fun e w' => ∃ B d, e = .returned (.tuple #[.slice B (putX l).length d, .int .i64 (putE l)]) ∧ Sl w' .u8 B (putX l) ∧ Below w.heap.size w w' := by
  unfold putX putE
  rcases hm : mayP l with _ | _
  · refine (rput_bad A c l w h hl (fun x hx => (hp x hx).1) hm).mono ?_
    rintro e w' ⟨rfl, hb⟩
    exact ⟨none, 0, rfl, Sl.nil _ _ _, hb⟩
  · refine (rput_ok A c l w h hl hp hm).mono ?_
    rintro e w' ⟨B, d, rfl, ho, hb⟩
    exact ⟨B, d, rfl, ho.sl, hb⟩
def prsL (b : List Int) : List Int := (prsP b).getD []
def prsE (b : List Int) : Int := if (prsP b).isSome then 0 else 4
theorem prs_form {b : List Int} {w : World} {e : Ending} {w' : World} (h : PrsOut (prsP b) w e w') : ∃ B d, e = .returned (.tuple #[.slice B (prsL b).length d, .int .i64 (prsE b)]) ∧ Sl w' .u64 B (prsL b) ∧ Below w.heap.size w w' := by
  unfold PrsOut at h
  unfold prsL prsE
  rcases hr : prsP b with _ | l
  · rw [hr] at h
    obtain ⟨rfl, hb⟩ := h
    exact ⟨none, 0, rfl, Sl.nil _ _ _, hb⟩
  · rw [hr] at h
    obtain ⟨B, d, rfl, ho, hb⟩ := h
    exact ⟨B, d, rfl, ho.sl, hb⟩
theorem pparse_any (A : Option Addr) (c : Nat) (b : List Int) (w : World) (h : Sl w .u8 A b) (hc : b.length ≤ c) (hm : c ≤ maxLen) (hb : ∀ x ∈ b, 0 ≤ x ∧ x < 256) :
    Calls Try.prog 18 #[.slice A b.length c] w fun e w' => ∃ B d, e = .returned (.tuple #[.slice B (prsL b).length d, .int .i64 (prsE b)]) ∧ Sl w' .u64 B (prsL b) ∧ Below w.heap.size w w' :=
  (parse_any A c b w h hc hm hb).mono fun e w' hh => prs_form hh
set_option maxRecDepth 100000 in
theorem rparse_any (A : Option Addr) (c : Nat) (b : List Int) (w : World) (h : Sl w .u8 A b) (hc : b.length ≤ c) (hm : c ≤ maxLen) (hb : ∀ x ∈ b, 0 ≤ x ∧ x < 256) (hbl : b.length ≤ 1000000) :
    Calls Try.prog 19 #[.slice A b.length c] w fun e w' => ∃ B d, e = .returned (.tuple #[.slice B (prsL b).length d, .int .i64 (prsE b)]) ∧ Sl w' .u64 B (prsL b) ∧ Below w.heap.size w w' := by
  by_cases hx : b = [] ∨ 7 < b.headD 0
  · refine (rparse_none A c b w h hbl hx).mono ?_
    rintro e w' ⟨rfl, hbw⟩
    have hr : prsP b = none := by
      rw [← prs_same hb]
      rcases b with _ | ⟨x, t⟩
      · rfl
      · rcases hx with hx | hx
        · cases hx
        · simp at hx
          unfold prsR
          simp
          omega
    refine prs_form (b := b) ?_
    rw [hr]
    exact ⟨rfl, hbw⟩
  · rcases b with _ | ⟨x, t⟩
    · exact absurd (.inl rfl) hx
    · have h0 := (hb x (by simp)).1
      have h7 : x ≤ 7 := by
        have := mt Or.inr hx
        simp at this
        omega
      obtain ⟨n, rfl⟩ : ∃ n : Nat, x = (n : Int) := ⟨x.toNat, by omega⟩
      have := rparse_go A c n t (n :: t) rfl w h hc hm hb hbl (by omega)
      rw [prs_same hb] at this
      exact this.mono fun e w' hh => prs_form hh
end Go.Proofs.Ytdbodnpfeiplgaa
