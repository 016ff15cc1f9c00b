/- Slots: the chapter's rows (known). -/
import Derived.Test.YtaikjobebbighaaSlAt
import Derived.RangeFuncFrom
import Derived.RangeFuncCalls
import Derived.RangeFuncLeaves
import Derived.OwnWalkIn
import Derived.TacticsInMore
import Derived.LoopNIn
import Derived.LoopIn
namespace Go.Proofs.Ytaikjobebbighaa
set_option linter.unusedVariables false
set_option maxRecDepth 100000
open Go.RowKit
theorem names_nil (w : World) : Calls Try.prog 26 #[.pointer none] w fun e w' => e = .returned (.func (.func 42) #[] #[.pointer (some ⟨w.heap.size, 0, none⟩)]) ∧ w' = w.alloc (.cells #[.pointer none] 25) := by
  go_enter Try.func26, Try.ntmps26
  go_wp2_with fail
  go_ret
  exact ⟨rfl, rfl⟩
theorem names1_nil (v : Value) (b : Nat) (w : World) (hb : w.cell? ⟨b, 0, none⟩ = some (.pointer none)) : Calls Try.prog 42 #[v, .pointer (some ⟨b, 0, none⟩)] w fun e w' => e = .returned (.tuple #[]) ∧ w' = w := by
  go_enter Try.func42, Try.ntmps42
  go_wp2_with fail
  refine bodyPost_ret (results_none rfl _ _ _) rfl ?_
  exact ⟨rfl, rfl⟩
theorem names_stops (n : Nat) (b : Nat) (w : World) (hl : b < w.heap.size) (hb : w.cell? ⟨b, 0, none⟩ = some (.pointer none)) :
    SeqStopsK Fence.wide n Try.prog 42 #[.pointer (some ⟨b, 0, none⟩)] (fun k : Key => #[nm k]) (fun _ _ => True) (fun xs => xs = []) (fun _ => False) 0 w := by
  intro l J Jx W hW _ _ _ h0
  refine callsIn_wide.2 ((names1_nil _ b W ((hW.cell (p := ⟨b, 0, none⟩) hl).trans hb)).mono ?_)
  rintro e w' ⟨rfl, rfl⟩
  exact ⟨⟨_, rfl⟩, .inl ⟨[], rfl, h0⟩⟩
abbrev nA : Key := [97]
abbrev nB : Key := [98]
def k0 : Bk := []
def k1 : Bk := [(nA, ⟨3, [], []⟩)]
def k2 : Bk := [(nA, ⟨3, [(1, 2)], []⟩)]
def k3 : Bk := [(nA, ⟨3, [(1, 2)], [(2, 2)]⟩)]
def k4 : Bk := [(nA, ⟨3, [(1, 2)], [(2, 2), (3, 1)]⟩)]
def k5 : Bk := [(nA, ⟨3, [(2, 2), (3, 1)], []⟩)]
theorem kn1 : setB k0 nA 3 = (k1, [], 0) := by rfl
theorem kn2 : askB k1 nA (1, 2) = (k2, true, 0) := by rfl
theorem kn3 : askB k2 nA (2, 2) = (k3, false, 0) := by rfl
theorem kn4 : askB k3 nA (3, 1) = (k4, false, 0) := by rfl
theorem kn5 : freeB k4 nA 1 = (k5, [(2, 2), (3, 1)], 0) := by rfl
theorem kn6 : askB k5 nA (4, 4) = (k5, false, 2) := by rfl
theorem kn7 : askB k5 nB (1, 1) = (k5, false, 5) := by rfl
theorem ko0 : BkOk 0 k0 := BkOk.nil 0
theorem ko1 : BkOk 0 k1 := by have := setB_ok ko0 nA 3; rwa [kn1] at this
theorem ko2 : BkOk 1 k2 := by have := askB_ok ko1 (by omega) nA (1, 2); rwa [kn2] at this
theorem ko3 : BkOk 2 k3 := by have := askB_ok ko2 (by omega) nA (2, 2); rwa [kn3] at this
theorem ko4 : BkOk 3 k4 := by have := askB_ok ko3 (by omega) nA (3, 1); rwa [kn4] at this
theorem ko5 : BkOk 3 k5 := by have := freeB_ok ko4 nA 1; rwa [kn5] at this
theorem range_none {g : Operand} {p : Tmp} {body : Code} {Q : Exit → Act → World → Prop} {a : Act} {w : World} {gf : Nat} {lb : Array Value} (hg : a.eval g = .func (.func gf) #[] lb) (eg : ∀ args w, (callFunc gf args).run Try.prog w = .ok (.enter gf args) w)
    (hseq : SeqStopsK Fence.wide 4 Try.prog gf lb (fun k : Key => #[nm k]) (fun _ _ => True) (fun xs => xs = []) (fun _ => False) 0 w)
    (hdone : ∀ (D : Nat) (W : World), w.heap.size ≤ D → Below w.heap.size w W → W.heap[D]? = some (.deferred (some [])) → Q .normal { a with defers := { target := .collected D, args := #[] } :: a.defers } W) :
    (Code.rangeFunc g #[p] .skip body).wp Try.prog Q a w := by
  refine (wpIn_wide (n := 5)).1 ?_
  refine wpIn_rangeFunc_ownF (α := Key) rfl (by omega) hg trivial eg hseq (fun _ _ => trivial) (fun _ _ _ _ _ _ _ _ => trivial) (Below.refl _ _) (fun _ => rfl)
    (fun _ W => Below w.heap.size w W) (fun _ _ _ => False) (ownFrom_below (Nat.le_refl _) (Nat.le_refl _)) (fun _ _ _ _ _ hs _ _ => hs) (Below.refl _ _)
    (fun x => { tmps := ((#[p] : Array Tmp).zip (#[nm x] : Array Value)).foldl (fun t (p, v) => t.setIfInBounds p v) a.tmps, defers := [] }) ?assign ?body ?done ?stop
  case assign =>
    intro l x W K hK
    have hK2 := hK
    simp at hK2
    gi_wp2
    first | exact hK | exact hK2
  case body =>
    intro l pre x W _ h
    exact absurd h (by omega)
  case done =>
    rintro D xs W hD - hb hK
    exact hdone D W hD hb hK
  case stop =>
    rintro D c pre W _ h _
    exact h.elim
set_option maxHeartbeats 8000000 in
theorem known_true (w : World) : Calls Try.prog 8 #[] w fun e w' => e = .returned (.bool true) ∧ Below w.heap.size w w' := by
  obtain ⟨W1, hW1⟩ : ∃ W1, w.alloc (.cells #[.bool false] 4) = W1 := ⟨_, rfl⟩
  obtain ⟨r, hr⟩ : ∃ r, w.heap.size = r := ⟨_, rfl⟩
  have r1 : Row W1 r 4 #[.bool false] := by rw [← hW1, ← hr]; exact Row.new w _ _
  have b1 : Below r w W1 := by rw [← hW1, ← hr]; exact (Below.refl _ w).alloc (Nat.le_refl _) _
  have z1 : W1.heap.size = r + 1 := by rw [← hW1, ← hr]; simp
  have NW := Lib.hid (new_at (r + 1) W1 W1 (Below.refl _ _) (by omega))
  have hz1 : r + 1 ≤ W1.heap.size := by omega
  have HW := Lib.hid hW1
  have HR := Lib.hid hr
  clear hW1 hr
  refine (callsIn_wide (n := 5)).1 ?_
  refine callsIn_of_wp_marks Try.func8 rfl trivial ?_ rfl
  simp only [Try.ntmps8, List.size_toArray, List.length_nil, Nat.reduceSub, Array.replicate_succ, Array.replicate_zero, List.push_toArray, List.append_toArray, List.nil_append, List.cons_append]
  refine wpIn_wide.2 ?_
  obtain ⟨Q', hQ⟩ : ∃ Q', bodyPostM Fence.wide 5 Try.prog Try.f8 (fun e w' => e = .returned (.bool true) ∧ Below w.heap.size w w') = Q' := ⟨_, rfl⟩
  rw [hQ]
  have HQ := Lib.hid hQ
  clear hQ
  go_upto_region 1 with fail
  rw [HW.out, HR.out]
  go_wp2_with fail
  refine NW.out.mono ?_
  rintro e w2 ⟨g, b, rfl, -, -, ha, -⟩
  have C1 := Lib.hid (ha.set (k := nA) hz1 ko0 (by decide) kn1)
  clear NW ha
  go_wp2_with fail
  refine C1.out.mono ?_
  rintro e w3 ⟨B1, e1, ys1, rfl, -, -, ha⟩
  have C2 := Lib.hid (ha.ask (k := nA) hz1 ko1 (by omega) (by decide) kn2)
  clear C1 ha
  go_wp2_with fail
  refine C2.out.mono ?_
  rintro e w4 ⟨ys2, rfl, -, ha⟩
  have C3 := Lib.hid (ha.ask (k := nA) hz1 ko2 (by omega) (by decide) kn3)
  clear C2 ha
  go_wp2_with fail
  refine C3.out.mono ?_
  rintro e w5 ⟨ys3, rfl, -, ha⟩
  have C4 := Lib.hid (ha.ask (k := nA) hz1 ko3 (by omega) (by decide) kn4)
  clear C3 ha
  go_wp2_with fail
  refine C4.out.mono ?_
  rintro e w6 ⟨ys4, rfl, -, ha⟩
  have C5 := Lib.hid (ha.left (k := nA) hz1 ko4 (by decide) (q := 1) rfl)
  have HA := Lib.hid ha
  clear C4 ha
  go_wp2_with fail
  refine C5.out.mono ?_
  rintro e w7 ⟨rfl, hb⟩
  have ha := HA.out.over hz1 hb
  have C6 := Lib.hid (ha.free (k := nA) hz1 ko4 (by decide) kn5)
  clear C5 ha HA
  go_wp2_with fail
  refine C6.out.mono ?_
  rintro e w8 ⟨B, d, ys5, rfl, hs, -, ha⟩
  have C7 := Lib.hid (ha.ask (k := nA) hz1 ko5 (by omega) (by decide) kn6)
  have HS := Lib.hid hs
  clear C6 ha hs
  go_wp2_with fail
  refine C7.out.mono ?_
  rintro e w9 ⟨ys6, rfl, ht, ha⟩
  have C8 := Lib.hid (ha.ask (k := nB) hz1 (ko5.mono (by omega : 3 ≤ 4)) (by omega) (by decide) kn7)
  have HS1 := Lib.hid (HS.out.turn ht)
  clear C7 ha HS ht
  go_wp2_with fail
  refine C8.out.mono ?_
  rintro e wa ⟨ys7, rfl, ht, ha⟩
  have HS2 := Lib.hid (HS1.out.turn ht)
  have C9 := Lib.hid (ask_nil nA (0, 0) wa)
  have HA := Lib.hid ha
  clear C8 ha HS1 ht
  go_wp2_with fail
  refine C9.out.mono ?_
  rintro e wb ⟨rfl, hb⟩
  have HS3 := Lib.hid (HS2.out.over hb)
  have HA2 := Lib.hid (HA.out.over hz1 hb)
  have CA := Lib.hid (set_nil nA 1 wb)
  clear C9 hb HA HS2
  go_wp2_with fail
  refine CA.out.mono ?_
  rintro e wb' ⟨rfl, rfl⟩
  have CB := Lib.hid (free_nil nA 1 wb')
  clear CA
  go_wp2_with fail
  refine CB.out.mono ?_
  rintro e wb ⟨rfl, rfl⟩
  have CC := Lib.hid (names_nil wb)
  clear CB
  go_wp2_with fail
  refine CC.out.mono ?_
  rintro e wc ⟨rfl, hwc⟩
  obtain ⟨bx, hbx⟩ : ∃ bx, wb.heap.size = bx := ⟨_, rfl⟩
  have hbc : Below wb.heap.size wb wc := by rw [hwc]; exact (Below.refl _ _).alloc (Nat.le_refl _) _
  have HS4 := Lib.hid (HS3.out.over hbc)
  have HA3 := Lib.hid (HA2.out.over hz1 hbc)
  have rbx : Row wc bx 25 #[.pointer none] := by rw [hwc, ← hbx]; exact Row.new wb _ _
  rw [hbx]
  clear CC hwc hbc HS3 HA2 hbx
  go_wp2_with fail
  refine range_none rfl (enter_of Try.func42 (by kernel_rfl) rfl) (names_stops 4 bx wc rbx.lt (by have := rbx.cell 0; simpa using this)) ?_
  intro D wd hD hbd hK
  have HS5 := Lib.hid (HS4.out.over hbd)
  have HA4 := Lib.hid (HA3.out.over hz1 hbd)
  have hDl : D < wd.heap.size := by
    have := (Array.getElem?_eq_some_iff.1 hK).1
    exact this
  have HK := Lib.hid hK
  have hwcz : r + 1 ≤ wc.heap.size := by have := HA3.out.low.size; omega
  clear hbd hK rbx HS4 HA3
  obtain ⟨W5, hW5⟩ : ∃ W5, wd.alloc (.cells #[.int .u64 2, .int .i64 2, .int .u64 3, .int .i64 1] 38) = W5 := ⟨_, rfl⟩
  obtain ⟨M, hM⟩ : ∃ M, wd.heap.size = M := ⟨_, rfl⟩
  have hb5 : Below wd.heap.size wd W5 := by rw [← hW5]; exact (Below.refl _ _).alloc (Nat.le_refl _) _
  have hv5 : PlS W5 (some ⟨M, 0, none⟩) [(2, 2), (3, 1)] := by
    have := Row.new wd 38 #[.int .u64 2, .int .i64 2, .int .u64 3, .int .i64 1]
    rw [hW5, hM] at this
    exact RkS.of_row (t := 38) enP_len this
  have C1 := Lib.hid ((equal_any B d [(2, 2), (3, 1)] (some ⟨M, 0, none⟩) 2 [(2, 2), (3, 1)] W5 (RkO.rks enP_len (HS5.out.over hb5).row) hv5 (by decide) (by decide)).mono (R' := fun e w' => e = .returned (.bool true) ∧ Below W5.heap.size W5 w') fun e w' h => ⟨h.1.trans rfl, h.2⟩)
  have HA5 := Lib.hid (HA4.out.over hz1 hb5)
  have HB5 := Lib.hid hb5
  clear HA4 HS5 hb5 hv5
  go_wp2_with fail
  refine C1.out.mono ?_
  rintro e v1 ⟨rfl, hb1⟩
  have hq1 := nextC HB5.out hb1
  have ha := HA5.out.over hz1 hb1
  have C2 := Lib.hid (ha.line (k := nA) hz1 ko5 (by decide) (s := ⟨3, [(2, 2), (3, 1)], []⟩) rfl)
  have HA6 := Lib.hid ha
  have HQ1 := Lib.hid hq1
  clear C1 hb1 hq1 ha HA5 HB5
  go_wp2_with fail
  refine C2.out.mono ?_
  rintro e v2 ⟨B2, e2, rfl, -, hb1⟩
  have hq1 := nextC HQ1.out hb1
  have ha := HA6.out.over hz1 hb1
  have C3 := Lib.hid (ha.holders (k := nA) hz1 ko5 (by decide) (s := ⟨3, [(2, 2), (3, 1)], []⟩) rfl)
  have HA7 := Lib.hid ha
  have HQ2 := Lib.hid hq1
  clear C2 hb1 hq1 ha HA6 HQ1
  go_wp2_with fail
  refine C3.out.mono ?_
  rintro e v3 ⟨B3, e3, rfl, -, hb1⟩
  have hq1 := nextC HQ2.out hb1
  have ha := HA7.out.over hz1 hb1
  have C4 := Lib.hid (ha.left (k := nA) hz1 ko5 (by decide) (q := 0) rfl)
  have HA8 := Lib.hid ha
  have HQ3 := Lib.hid hq1
  clear C3 hb1 hq1 ha HA7 HQ2
  go_wp2_with fail
  refine C4.out.mono ?_
  rintro e v4 ⟨rfl, hb1⟩
  have hq1 := nextC HQ3.out hb1
  have ha := HA8.out.over hz1 hb1
  have C5 := Lib.hid (left_nil nA v4)
  have HA9 := Lib.hid ha
  have HQ4 := Lib.hid hq1
  clear C4 hb1 hq1 ha HA8 HQ3
  go_wp2_with fail
  refine C5.out.mono ?_
  rintro e v5 ⟨rfl, hb1⟩
  have hq1 := nextC HQ4.out hb1
  have ha := HA9.out.over hz1 hb1
  have C6 := Lib.hid (line_nil nA v5)
  have HAa := Lib.hid ha
  have HQ5 := Lib.hid hq1
  clear C5 hb1 hq1 ha HA9 HQ4
  go_wp2_with fail
  refine C6.out.mono ?_
  rintro e v6 ⟨⟨B6, e6, rfl, -⟩, hb1⟩
  have hq1 := nextC HQ5.out hb1
  have ha := HAa.out.over hz1 hb1
  have C7 := Lib.hid (holders_nil nA v6)
  have HAb := Lib.hid ha
  have HQ6 := Lib.hid hq1
  clear C6 hb1 hq1 ha HAa HQ5
  go_wp2_with fail
  refine C7.out.mono ?_
  rintro e v7 ⟨⟨B7, e7, rfl, -⟩, hb1⟩
  have hq1 := nextC HQ6.out hb1
  have ha := HAb.out.over hz1 hb1
  have r7 : Row v7 r 4 #[.bool false] := r1.below ha.low (by omega)
  have p0 := r7.cell 0
  have p1 := r7.free 0
  simp at p0
  have HAc := Lib.hid ha
  have HQ7 := Lib.hid hq1
  have HR7 := Lib.hid r7
  clear C7 hb1 hq1 ha HAb HQ6 r1 r7
  go_wp2_with fail
  rw [← HQ.out]
  have hK7 : (v7.setCell ⟨r, 0, none⟩ (.bool true)).heap[D]? = some (.deferred (some [])) := by
    have h1 := HQ7.out.block D hDl
    have hrD : D ≠ r := by
      rintro rfl
      have h2 := HR7.out
      unfold Row at h2
      rw [h1, HK.out] at h2
      cases h2
    exact (Below.heap_setCell v7 ⟨r, 0, none⟩ _ D hrD).trans (h1.trans HK.out)
  refine ⟨by simp, .inl ⟨_, _, rfl, run_takeDeferred hK7, ?_⟩⟩
  have hr7 := HR7.out.put 0 (.bool true)
  have hg := grownBy_putObj' (v7.setCell ⟨r, 0, none⟩ (.bool true)) D (.deferred none)
  have hrz : r < v7.heap.size := HR7.out.lt
  have hDr : D ≠ r := by
    rintro rfl
    unfold Row at hr7
    rw [hK7] at hr7
    cases hr7
  have hrf := (hg.block r (by simpa using hrz) (fun e => hDr (by injection e with e; exact e.symm))).trans hr7
  have hcell : ((v7.setCell ⟨r, 0, none⟩ (.bool true)).putObj D (.deferred none)).cell? ⟨r, 0, none⟩ = some (.bool true) := by
    have h3 := Row.cell (w := (v7.setCell ⟨r, 0, none⟩ (.bool true)).putObj D (.deferred none)) hrf 0
    exact h3.trans rfl
  have hlow : Below r w v7 := b1.trans (HAc.out.low.mono (by omega))
  have hlow2 : Below r w ((v7.setCell ⟨r, 0, none⟩ (.bool true)).putObj D (.deferred none)) := (hlow.setCell (p := ⟨r, 0, none⟩) (Nat.le_refl _) _).grown hg (by rw [World.size_setCell]; omega) (fun q e => by injection e with e; omega)
  refine ⟨.bool true, ?_, rfl, by rw [HR.out]; exact hlow2⟩
  simp [results, Try.f8]
  go_simp
end Go.Proofs.Ytaikjobebbighaa
