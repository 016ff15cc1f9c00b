/- The chapter's rows: known. -/
import Derived.Test.YtbdhdnkpdpcgnaaDkC
import Derived.Lib.SlBytesConst
namespace Go.Proofs.Ytbdhdnkpdpcgnaa
set_option linter.unusedVariables false
open Go.RowKit
variable {FR : Nat → Prop}
theorem stNames_sorted (p : Fil → Bool) (st : Files) (h : (st.map (·.1)).Pairwise (fun x y => decide (x ≤ y) = true)) : stNames p st = (st.map (·.1)).filter fun k => p (stGet st k) := by
  unfold stNames
  rw [List.mergeSort_of_pairwise h]
theorem crashS_one (stay : List Int) (k : Key) (f : Fil) : crashS stay [(k, f)] = if looseF f = true then settleS [(k, f)] k (crashF f (bud stay 0)).1 (crashF f (bud stay 0)).2 else [(k, f)] := by
  unfold crashS
  rw [stNames_sorted _ _ (by simp)]
  have e : stGet [(k, f)] k = f := by rw [stGet_cons]; simp
  simp only [List.map_cons, List.map_nil, List.filter_cons, List.filter_nil, e]
  by_cases h : looseF f = true
  · rw [if_pos h, if_pos h]
    simp only [List.foldl_cons, List.foldl_nil, crashSt, e]
  · rw [if_neg h, if_neg h]
    rfl
theorem conv23 (w : World) (C : Array Value) (n c : Nat) : (convert 23 23 (.slice (some ⟨w.heap.size, 0, none⟩) n c)).run Try.prog (w.alloc (.cells C 5)) = .ok (.slice (some ⟨w.heap.size, 0, none⟩) n c) (w.alloc (.cells C 5 (C.size, C.size + 1))) :=
  Lib.run_convert_bytes_const (P := Try.prog) w 23 5 C n c Try.underlying23 Try.underlying5
theorem bsl_new (W : World) (hf : ∀ x, FR x → x < W.heap.size) (xs : List Int) (cs : Array Value) (fr : Nat × Nat) (hc : cs = (xs.map (Value.int .u8)).toArray) (hl : xs.length ≤ 1000000) : BSl FR (W.alloc (.cells cs 5 fr)) (some ⟨W.heap.size, 0, none⟩) xs.length xs := by
  subst hc
  refine ⟨fun j hj => ?_, (fun e => by cases e), Nat.le_refl _, (by unfold maxLen; omega), fun _ ad e hx => ?_⟩
  rotate_left
  · injection e with e
    subst e
    exact absurd (hf _ hx) (Nat.lt_irrefl _)
  refine ⟨_, rfl, by simp, ?_⟩
  rw [show (⟨W.heap.size, 0, none⟩ : Addr).add j = ⟨W.heap.size, j, none⟩ by unfold Addr.add; split <;> simp_all]
  rw [World.cell?_alloc_mark]
  simp [hj]
theorem bsl_newN (W : World) (xs : List Int) (cs : Array Value) (fr : Nat × Nat) (hc : cs = (xs.map (Value.int .u8)).toArray) (hl : xs.length ≤ 1000000) : BSl Nobody (W.alloc (.cells cs 5 fr)) (some ⟨W.heap.size, 0, none⟩) xs.length xs := bsl_new W (fun _ h => h.elim) xs cs fr hc hl
def kst1 : Files := [([97], ⟨[], [120, 121], false, true, [⟨true, false, [120, 121]⟩]⟩)]
def kst2 : Files := [([97], ⟨[120, 121], [120, 121], true, true, []⟩)]
def kst3 : Files := [([97], ⟨[120, 121], [120, 121, 122, 119], true, true, [⟨false, false, [122, 119]⟩]⟩)]
def kst4 : Files := [([97], ⟨[120, 121, 122], [120, 121, 122], true, true, []⟩)]
def kst5 : Files := [([97], ⟨[120, 121, 122], [113], true, true, [⟨true, false, [113]⟩]⟩)]
def kst6 : Files := [([97], ⟨[120, 121, 122], [113, 114], true, true, [⟨true, false, [113]⟩, ⟨false, false, [114]⟩]⟩)]
theorem kcr3 : crashS [1] kst3 = kst4 := by unfold kst3; rw [crashS_one]; rfl
theorem kcr6 : crashS [] kst6 = kst4 := by unfold kst6; rw [crashS_one]; rfl
theorem kcr4 : crashS [9] kst4 = kst4 := by unfold kst4; rw [crashS_one]; rfl
theorem fits_one (f : Fil) (h : f.loose.length ≤ 1000) : Fits [([97], f)] [97] := ⟨by decide, by decide, by simp, fun q hq => by simp at hq; subst hq; show 1 ≤ 1000000; omega, by rw [stGet_cons]; simp; omega⟩
theorem small_one (f : Fil) (h : wt f ≤ 1000) (hl : f.loose.length ≤ 1000) : Small [([97], f)] := fun q hq => by simp at hq; subst hq; exact ⟨by show 1 ≤ 1000000; omega, by show wt f ≤ _; omega, by show f.loose.length ≤ _; omega⟩
/-! ### the walk -/
/-- A slice of bytes as a string. -/
def strB (l : List Int) : ByteArray := ⟨(l.map fun x => UInt8.ofNat x.toNat).toArray⟩
theorem conv_str {w : World} {A : Option Addr} {c : Nat} {l : List Int} (h : BSl FR w A c l) (hb : ∀ x ∈ l, 0 ≤ x ∧ x < 256) (hl : l ≠ []) : (convert 23 9 (.slice A l.length c)).run Try.prog w = .ok (.string (strB l)) w := by
  obtain ⟨ad, rfl⟩ := h.sl.some_ hl
  have := run_convert_bytes_back (P := Try.prog) w 23 9 5 ad c (l.map fun x => UInt8.ofNat x.toNat) Try.underlying23 Try.underlying5 Try.underlying9 (fun j hj => by
    have hj' : j < l.length := by simpa using hj
    rw [h.sl.at_ hj']
    have h1 := hb l[j] (List.getElem_mem _)
    rw [List.getElem_map, UInt8.toNat_ofNat']
    congr 2
    omega)
  rw [List.length_map] at this
  exact this
theorem kp_mark {W : World} {C : Array Value} {e : TypeId} {fr : Nat × Nat} : Below W.heap.size W (W.alloc (.cells C e fr)) := (Below.refl _ W).alloc (Nat.le_refl _) _
theorem sli_new (W : World) (x : Int) : Sl (W.alloc (.cells #[.int .i64 x] 3)) .i64 (some ⟨W.heap.size, 0, none⟩) [x] := fun j hj => by
  have e : j = 0 := by simp at hj; omega
  subst e
  exact ⟨⟨W.heap.size, 0, none⟩, rfl, by simp, by simp [Addr.add]⟩
set_option maxHeartbeats 8000000 in
set_option maxRecDepth 100000 in
theorem known_any (w : World) : Calls Try.prog 5 #[] w fun e w' => e = .returned (.bool true) ∧ Below w.heap.size w w' := by
  have NW := Lib.hid (new_any (FR := Nobody) w (fun _ h => h.elim))
  have cv := conv23
  go_enter Try.func5, Try.ntmps5
  go_wp2_with fail
  refine NW.out.mono ?_
  rintro e w1 ⟨g, b, rfl, hg, hb, hd, hb1⟩
  have D1 := Lib.hid hd
  have B1 := Lib.hid hb1
  clear hd hb1 NW
  go_wp2_with fail
  refine (append_any g b [] [97] [120, 121] (some ⟨w1.heap.size, 0, none⟩) 2 (w1.alloc (.cells #[.int .u8 120, .int .u8 121] 5 (2, 2 + 1))) (D1.out.below kp_mark) (bsl_newN w1 [120, 121] #[.int .u8 120, .int .u8 121] (2, 2 + 1) rfl (by decide)) ⟨by decide, by decide, by simp, fun q hq => by simp at hq, by decide⟩ (by decide) (.inr (by rw [stNames_sorted _ _ (by simp)]; simp))).mono ?_
  rintro e w2 ⟨rfl, hd, hg2⟩
  have ST := (Stays.below (kp_mark (W := w1) (C := _) (e := 5) (fr := (2, 2 + 1)))).trans ((D1.out.below kp_mark).stays hg2)
  have D2 := Lib.hid (show DiskAt Nobody w2 g b kst1 from hd)
  have B2 := Lib.hid (below_kp (nextC B1.out kp_mark) (nextC B1.out kp_mark).size hb hg2)
  clear hd hg2 ST
  go_wp2_with fail
  refine (sync_ok g b kst1 [97] w2 D2.out (fits_one _ (by decide)) rfl).mono ?_
  rintro e w3 ⟨rfl, hd, hg2⟩
  have D3 := Lib.hid (show DiskAt Nobody w3 g b kst2 from hd)
  have B3 := Lib.hid (below_kp B2.out B2.out.size hb hg2)
  clear hd hg2
  go_wp2_with fail
  refine (append_any g b kst2 [97] [122, 119] (some ⟨w3.heap.size, 0, none⟩) 2 (w3.alloc (.cells #[.int .u8 122, .int .u8 119] 5 (2, 2 + 1))) (D3.out.below kp_mark) (bsl_newN w3 [122, 119] #[.int .u8 122, .int .u8 119] (2, 2 + 1) rfl (by decide)) (fits_one _ (by decide)) (by decide) (.inl rfl)).mono ?_
  rintro e w4 ⟨rfl, hd, hg2⟩
  have ST := (Stays.below (kp_mark (W := w3) (C := _) (e := 5) (fr := (2, 2 + 1)))).trans ((D3.out.below kp_mark).stays hg2)
  have D4 := Lib.hid (show DiskAt Nobody w4 g b kst3 from hd)
  have B4 := Lib.hid (below_kp (nextC B3.out kp_mark) (nextC B3.out kp_mark).size hb hg2)
  clear hd hg2 ST
  go_wp2_with fail
  refine (crash_any g b kst3 (some ⟨w4.heap.size, 0, none⟩) 1 [1] (w4.alloc (.cells #[.int .i64 1] 3)) (D4.out.below (kp_mark (W := w4) (C := #[.int .i64 1]) (e := 3) (fr := (0, 0)))) (by decide) (small_one _ (by decide) (by decide)) (sli_new w4 1) (by decide) (by decide)).mono ?_
  rintro e w5 ⟨rfl, hd, hg2⟩
  have ST := (Stays.below (kp_mark (W := w4) (C := #[.int .i64 1]) (e := 3) (fr := (0, 0)))).trans ((D4.out.below (kp_mark (W := w4) (C := #[.int .i64 1]) (e := 3) (fr := (0, 0)))).stays hg2)
  rw [kcr3] at hd
  have D5 := Lib.hid hd
  have B5 := Lib.hid (below_kp (nextC B4.out (kp_mark (W := w4) (C := #[.int .i64 1]) (e := 3) (fr := (0, 0)))) (nextC B4.out (kp_mark (W := w4) (C := #[.int .i64 1]) (e := 3) (fr := (0, 0)))).size hb hg2)
  clear hd hg2 ST
  go_wp2_with fail
  refine (show Calls Try.prog 13 #[.pointer (some ⟨g, 0, none⟩), nm [97]] w5 fun e w' => ∃ B d, e = .returned (.tuple #[.slice B 3 d, .bool true]) ∧ OwnB w5.heap.size w' B d [120, 121, 122] ∧ Below w5.heap.size w5 w' from read_any g b kst4 [97] w5 D5.out (by decide) (by decide)).mono ?_
  rintro e w6 ⟨Px, dx, rfl, hown, hbr⟩
  have Rx := Lib.hid (show BSl Nobody w6 Px dx [120, 121, 122] from BSl.own (fun _ h => h.elim) hown)
  have D6 := Lib.hid (D5.out.below hbr)
  have B6 := Lib.hid (nextC B5.out hbr)
  clear hown hbr
  go_wp2_with fail
  refine (replace_any g b kst4 [97] [113] (some ⟨w6.heap.size, 0, none⟩) 1 (w6.alloc (.cells #[.int .u8 113] 5 (1, 1 + 1))) (D6.out.below kp_mark) (bsl_newN w6 [113] #[.int .u8 113] (1, 1 + 1) rfl (by decide)) (fits_one _ (by decide)) (by decide) (.inl rfl)).mono ?_
  rintro e w7 ⟨rfl, hd, hg2⟩
  have ST := (Stays.below (kp_mark (W := w6) (C := _) (e := 5) (fr := (1, 1 + 1)))).trans ((D6.out.below kp_mark).stays hg2)
  have D7 := Lib.hid (show DiskAt Nobody w7 g b kst5 from hd)
  have B7 := Lib.hid (below_kp (nextC B6.out kp_mark) (nextC B6.out kp_mark).size hb hg2)
  have Rx := Lib.hid (Rx.out.stays ST)
  clear hd hg2 ST
  go_wp2_with fail
  refine (append_any g b kst5 [97] [114] (some ⟨w7.heap.size, 0, none⟩) 1 (w7.alloc (.cells #[.int .u8 114] 5 (1, 1 + 1))) (D7.out.below kp_mark) (bsl_newN w7 [114] #[.int .u8 114] (1, 1 + 1) rfl (by decide)) (fits_one _ (by decide)) (by decide) (.inl rfl)).mono ?_
  rintro e w8 ⟨rfl, hd, hg2⟩
  have ST := (Stays.below (kp_mark (W := w7) (C := _) (e := 5) (fr := (1, 1 + 1)))).trans ((D7.out.below kp_mark).stays hg2)
  have D8 := Lib.hid (show DiskAt Nobody w8 g b kst6 from hd)
  have B8 := Lib.hid (below_kp (nextC B7.out kp_mark) (nextC B7.out kp_mark).size hb hg2)
  have Rx := Lib.hid (Rx.out.stays ST)
  clear hd hg2 ST
  go_wp2_with fail
  refine (crash_any g b kst6 none 0 [] w8 (D8.out.below (Below.refl w8.heap.size w8)) (by decide) (small_one _ (by decide) (by decide)) (Sl.nil _ _ _) (by decide) (by decide)).mono ?_
  rintro e w9 ⟨rfl, hd, hg2⟩
  have ST := (Stays.below (Below.refl w8.heap.size w8)).trans ((D8.out.below (Below.refl w8.heap.size w8)).stays hg2)
  rw [kcr6] at hd
  have D9 := Lib.hid hd
  have B9 := Lib.hid (below_kp (nextC B8.out (Below.refl w8.heap.size w8)) (nextC B8.out (Below.refl w8.heap.size w8)).size hb hg2)
  have Rx := Lib.hid (Rx.out.stays ST)
  clear hd hg2 ST
  go_wp2_with fail
  refine (show Calls Try.prog 13 #[.pointer (some ⟨g, 0, none⟩), nm [97]] w9 fun e w' => ∃ B d, e = .returned (.tuple #[.slice B 3 d, .bool true]) ∧ OwnB w9.heap.size w' B d [120, 121, 122] ∧ Below w9.heap.size w9 w' from read_any g b kst4 [97] w9 D9.out (by decide) (by decide)).mono ?_
  rintro e w10 ⟨Py, dy, rfl, hown, hbr⟩
  have Ry := Lib.hid (show BSl Nobody w10 Py dy [120, 121, 122] from BSl.own (fun _ h => h.elim) hown)
  have D10 := Lib.hid (D9.out.below hbr)
  have B10 := Lib.hid (nextC B9.out hbr)
  have Rx := Lib.hid (Rx.out.stays (Stays.below hbr))
  clear hown hbr
  go_wp2_with fail
  refine (crash_any g b kst4 (some ⟨w10.heap.size, 0, none⟩) 1 [9] (w10.alloc (.cells #[.int .i64 9] 3)) (D10.out.below (kp_mark (W := w10) (C := #[.int .i64 9]) (e := 3) (fr := (0, 0)))) (by decide) (small_one _ (by decide) (by decide)) (sli_new w10 9) (by decide) (by decide)).mono ?_
  rintro e w11 ⟨rfl, hd, hg2⟩
  have ST := (Stays.below (kp_mark (W := w10) (C := #[.int .i64 9]) (e := 3) (fr := (0, 0)))).trans ((D10.out.below (kp_mark (W := w10) (C := #[.int .i64 9]) (e := 3) (fr := (0, 0)))).stays hg2)
  rw [kcr4] at hd
  have D11 := Lib.hid hd
  have B11 := Lib.hid (below_kp (nextC B10.out (kp_mark (W := w10) (C := #[.int .i64 9]) (e := 3) (fr := (0, 0)))) (nextC B10.out (kp_mark (W := w10) (C := #[.int .i64 9]) (e := 3) (fr := (0, 0)))).size hb hg2)
  have Rx := Lib.hid (Rx.out.stays ST)
  have Ry := Lib.hid (Ry.out.stays ST)
  clear hd hg2 ST
  go_wp2_with fail
  refine (show Calls Try.prog 13 #[.pointer (some ⟨g, 0, none⟩), nm [97]] w11 fun e w' => ∃ B d, e = .returned (.tuple #[.slice B 3 d, .bool true]) ∧ OwnB w11.heap.size w' B d [120, 121, 122] ∧ Below w11.heap.size w11 w' from read_any g b kst4 [97] w11 D11.out (by decide) (by decide)).mono ?_
  rintro e w12 ⟨Pz, dz, rfl, hown, hbr⟩
  have Rz := Lib.hid (show BSl Nobody w12 Pz dz [120, 121, 122] from BSl.own (fun _ h => h.elim) hown)
  have D12 := Lib.hid (D11.out.below hbr)
  have B12 := Lib.hid (nextC B11.out hbr)
  have Rx := Lib.hid (Rx.out.stays (Stays.below hbr))
  have Ry := Lib.hid (Ry.out.stays (Stays.below hbr))
  clear hown hbr
  have V1 : (convert 23 9 (.slice Px 3 dx)).run Try.prog w12 = .ok (.string ⟨#[120, 121, 122]⟩) w12 := conv_str Rx.out (by decide) (by decide)
  have V2 : (convert 23 9 (.slice Py 3 dy)).run Try.prog w12 = .ok (.string ⟨#[120, 121, 122]⟩) w12 := conv_str Ry.out (by decide) (by decide)
  have V3 : (convert 23 9 (.slice Pz 3 dz)).run Try.prog w12 = .ok (.string ⟨#[120, 121, 122]⟩) w12 := conv_str Rz.out (by decide) (by decide)
  go_wp2_with fail
  go_ret
  exact ⟨rfl, B12.out⟩
end Go.Proofs.Ytbdhdnkpdpcgnaa
