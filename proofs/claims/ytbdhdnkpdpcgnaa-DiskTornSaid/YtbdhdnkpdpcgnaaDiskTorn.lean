/- DiskTorn: what a crash leaves of a file that was only appended to, of a replacement and of a removal. At most 20 rows of at most 60 bytes. -/
import Derived.Test.YtbdhdnkpdpcgnaaDkR
import Derived.Test.YtbdhdnkpdpcgnaaPost
import Derived.Test.YtbdhdnkpdpcgnaaOpenS
import Derived.Deep.DeepCutAuto
import Derived.BigQuiet
namespace Go.Proofs.Ytbdhdnkpdpcgnaa.diskTorn
open Go.ChangeShapes Go.WideShapes Go.ChangeAt Go.RowKit
set_option linter.unusedVariables false

theorem laidOut : laidOutB Try.prog = true := by kernel_rfl
theorem own : ownKnob Try.prog.godebug = none := by kernel_rfl
theorem cat_len (rows : List (List Int)) (h : ∀ r ∈ rows, r.length ≤ 60) : (cat rows).length ≤ 60 * rows.length := by
  induction rows with
  | nil => simp [cat]
  | cons r rows ih =>
    have h1 := h r (by simp)
    have h2 := ih fun x hx => h x (by simp [hx])
    have e : cat (r :: rows) = r ++ cat rows := by simp [cat]
    rw [e, List.length_append, List.length_cons]
    omega
theorem cat_take_len (rows : List (List Int)) (k : Nat) (hk : k ≤ 20) (h : ∀ r ∈ rows.take k, r.length ≤ 60) : (cat (rows.take k)).length ≤ 1200 := by
  have h1 := cat_len _ h
  rw [List.length_take] at h1
  have : min k rows.length ≤ 20 := by omega
  omega
theorem loose_len (rows : List (List Int)) (k m : Nat) : (looseL rows k m).length ≤ k := by
  unfold looseL
  rw [List.length_map, List.length_drop, List.length_range]
  omega
theorem fitsL (rows : List (List Int)) (k : Nat) (s : Int) (hk : k ≤ 20) : Fits (stL rows k s) lgk := by
  refine ⟨by decide, by decide, ?_, ?_, ?_⟩
  · rcases stL_cases rows k s with e | e <;> rw [e] <;> simp
  · intro q hq
    rcases stL_cases rows k s with e | e <;> rw [e] at hq <;> simp at hq
    subst hq
    show 3 ≤ 1000000
    omega
  · rw [getL]
    split
    · simp [noFil]
    · have := loose_len rows k (synN k s)
      show (looseL rows k (synN k s)).length ≤ _
      omega
theorem namesL (rows : List (List Int)) (k : Nat) (s : Int) : (stNames nowF (stL rows k s)).length < 64 := by
  have : (stNames nowF (stL rows k s)).length ≤ (stL rows k s).length := by
    unfold stNames
    refine Nat.le_trans (List.length_filter_le _ _) ?_
    rw [List.length_mergeSort, List.length_map]
    exact Nat.le_refl _
  have h2 : (stL rows k s).length ≤ 1 := by rcases stL_cases rows k s with e | e <;> rw [e] <;> simp
  omega
theorem nowL (rows : List (List Int)) (k : Nat) (s : Int) : (stGet (stL rows k s) lgk).now = cat (rows.take k) := by
  rw [getL]
  split
  · rename_i h; subst h; simp [noFil, cat]
  · rfl
/-- Behind the append the file may be synced. -/
theorem fits1 (rows : List (List Int)) (k : Nat) (s : Int) (hk : k < 20) (x : List Int) (p : Bool) : Fits (stPut (stL rows k s) lgk (putF (stGet (stL rows k s) lgk) ⟨p, false, x⟩)) lgk := by
  have e : ∃ f, stPut (stL rows k s) lgk (putF (stGet (stL rows k s) lgk) ⟨p, false, x⟩) = [(lgk, f)] ∧ f.loose.length ≤ 21 := by
    rw [getL]
    unfold stL
    have hl : ∀ f : Fil, f.loose.length ≤ 20 → (putF f ⟨p, false, x⟩).loose.length ≤ 21 := fun f hf => by
      unfold putF
      cases p <;> (simp; omega)
    split
    · rw [put_nil]; exact ⟨_, rfl, hl _ (by simp [noFil])⟩
    · rw [put_one]
      refine ⟨_, rfl, hl _ ?_⟩
      have := loose_len rows k (synN k s)
      show (looseL rows k (synN k s)).length ≤ _
      omega
  obtain ⟨f, e, hf⟩ := e
  rw [e]
  exact ⟨by decide, by decide, by simp, fun q hq => by simp at hq; subst hq; show 3 ≤ 1000000; omega, by rw [get_one]; omega⟩
theorem syn_yes {k : Nat} {s : Int} (h : (k : Int) ≤ s) : synN (k + 1) s = k + 1 := by unfold synN; rw [if_neg (by omega)]; omega
theorem syn_no {k : Nat} {s : Int} (h : s < (k : Int)) : synN (k + 1) s = synN k s := by unfold synN; split <;> omega
theorem wrap64_le (x : Int) : wrap64 x ≤ 9223372036854775807 := by rw [wrap64]; omega
theorem sli3_new (W : World) (x y z : Int) : Sl (W.alloc (.cells #[.int .i64 x, .int .i64 y, .int .i64 z] 3)) .i64 (some ⟨W.heap.size, 0, none⟩) [x, y, z] := fun j hj => by
  refine ⟨⟨W.heap.size, 0, none⟩, rfl, by simp, ?_⟩
  match j, hj with
  | 0, _ => simp [Addr.add]
  | 1, _ => simp [Addr.add]
  | 2, _ => simp [Addr.add]
/-- Few files, and small ones. -/
def Few (st : Files) : Prop := st.length ≤ 3 ∧ ∀ q ∈ st, q.1.length ≤ 64 ∧ q.2.loose.length ≤ 20 ∧ wt q.2 ≤ 3000 ∧ q.2.now.length ≤ 3000
theorem Few.get {st : Files} (h : Few st) (k : Key) : (stGet st k).loose.length ≤ 20 ∧ (stGet st k).now.length ≤ 3000 := by
  rcases stGet_mem (st := st) (k := k) with e | ⟨q, hq, e⟩
  · rw [e]; simp [noFil]
  · rw [e]; exact ⟨(h.2 q hq).2.1, (h.2 q hq).2.2.2⟩
theorem Few.fits {st : Files} (h : Few st) {k : Key} (h1 : 1 ≤ k.length) (h2 : k.length ≤ 64) : Fits st k := ⟨h1, h2, by have := h.1; omega, fun q hq => by have := (h.2 q hq).1; omega, by have := (h.get k).1; omega⟩
theorem Few.small {st : Files} (h : Few st) : Small st := fun q hq => by
  obtain ⟨a1, a2, a3, a4⟩ := h.2 q hq
  exact ⟨by omega, by omega, by omega⟩
theorem Few.names {st : Files} (h : Few st) (p : Fil → Bool) : (stNames p st).length ≤ 3 := by
  have h0 := h.1
  unfold stNames
  refine Nat.le_trans (List.length_filter_le _ _) ?_
  rw [List.length_mergeSort, List.length_map]
  exact h0
theorem Few.nil : Few [] := ⟨by simp, fun q hq => by simp at hq⟩
theorem Few.cons {st : Files} {k : Key} {f : Fil} (h : Few st) (hl : st.length ≤ 2) (hk : k.length ≤ 64) (h1 : f.loose.length ≤ 20) (h2 : wt f ≤ 3000) (h3 : f.now.length ≤ 3000) : Few ((k, f) :: st) := ⟨by simp; omega, fun q hq => by
  rcases List.mem_cons.1 hq with rfl | hq
  · exact ⟨hk, h1, h2, h3⟩
  · exact h.2 q hq⟩
theorem bytesC_cat (cs : List Chg) : bytesC cs = (cat (cs.map (·.b))).length := by
  unfold bytesC cat
  rw [List.length_flatten, List.map_map]
  rfl
theorem fewL (rows : List (List Int)) (s : Int) (hl : rows.length ≤ 20) (hc : (cat rows).length ≤ 1200) : Few (stL rows rows.length s) ∧ (stL rows rows.length s).length ≤ 1 := by
  rcases stL_cases rows rows.length s with e | e <;> rw [e]
  · exact ⟨Few.nil, by simp⟩
  · refine ⟨Few.nil.cons (by simp) (by decide) ?_ ?_ ?_, by simp⟩
    · exact Nat.le_trans (loose_len _ _ _) hl
    · have h1 := cat_take_le rows (synN rows.length s)
      have h2 : bytesC (looseL rows rows.length (synN rows.length s)) ≤ (cat rows).length := by
        rw [bytesC_cat, looseL_b]
        have := congrArg List.length (cat_split rows (synN rows.length s))
        rw [List.length_append] at this
        omega
      show (cat (rows.take (synN rows.length s))).length + bytesC (looseL rows rows.length (synN rows.length s)) ≤ 3000
      omega
    · have h1 := cat_take_le rows rows.length
      show (cat (rows.take rows.length)).length ≤ 3000
      omega
theorem fewE (k : Key) (r : List Int × Bool) (hk : k.length ≤ 64) (hr : r.1.length ≤ 1200) : ∀ q ∈ ent k r, q.1.length ≤ 64 ∧ q.2.loose.length ≤ 20 ∧ wt q.2 ≤ 3000 ∧ q.2.now.length ≤ 3000 := fun q hq => by
  unfold ent at hq
  split at hq
  · rw [List.mem_singleton] at hq
    subst hq
    exact ⟨hk, by simp, by simp [wt, bytesC]; omega, by show r.1.length ≤ _; omega⟩
  · simp at hq
theorem entlen (k : Key) (r : List Int × Bool) : (ent k r).length ≤ 1 := by unfold ent; split <;> simp
theorem fewF (ra rg rl : List Int × Bool) (ha : ra.1.length ≤ 1200) (hg : rg.1.length ≤ 1200) (hl : rl.1.length ≤ 1200) : Few (fin3 ra rg rl) := by
  refine ⟨?_, fun q hq => ?_⟩
  · have h1 := entlen ka ra
    have h2 := entlen kg rg
    have h3 := entlen lgk rl
    unfold fin3
    rw [List.length_append, List.length_append]
    omega
  · unfold fin3 at hq
    rcases List.mem_append.1 hq with hq | hq
    · rcases List.mem_append.1 hq with hq | hq
      · exact fewE ka ra (by decide) ha q hq
      · exact fewE kg rg (by decide) hg q hq
    · exact fewE lgk rl (by decide) hl q hq
set_option maxHeartbeats 4000000 in
set_option maxRecDepth 100000 in
theorem walk (A Bw_ : Option Addr) (c cw : Nat) (rows : List (List Int)) (whole : List Int) (s stay other : Int) (w : World) (hR : Rws w A rows) (hW : Bw w Bw_ cw whole) (hrb : ∀ l ∈ rows, ∀ x ∈ l, 0 ≤ x ∧ x < 256) (hwb : ∀ x ∈ whole, 0 ≤ x ∧ x < 256)
    (hl : rows.length ≤ 20) (hwl : whole.length ≤ 60) (hs : -9223372036854775808 ≤ s ∧ s ≤ 9223372036854775807) (hst : -9223372036854775808 ≤ stay ∧ stay ≤ 9223372036854775807) (ho : -9223372036854775808 ≤ other ∧ other ≤ 9223372036854775807) :
    Calls Try.prog 3 #[.slice A rows.length c, .int .i64 s, .slice Bw_ whole.length cw, .int .i64 stay, .int .i64 other] w fun e w' => e = .returned (.bool true) ∧ Below w.heap.size w w' := by
  have d1 : decide ((20 : Int) < (rows.length : Int)) = false := decide_eq_false (by omega)
  have d2 : decide ((60 : Int) < (whole.length : Int)) = false := decide_eq_false (by omega)
  have HR := Lib.hid hR
  have HW := Lib.hid hW
  clear hR hW
  go_enter Try.func3, Try.ntmps3
  go_wp2_with fail
  refine (known_any _).mono ?_
  rintro e w1 ⟨rfl, hb1⟩
  have B1 := Lib.hid hb1
  clear hb1
  go_wp2_with fail
  refine (new_any (FR := Nobody) w1 (fun _ h => h.elim)).mono ?_
  rintro e w2 ⟨g, b, rfl, hg, hb, hd, hb2⟩
  have hgb : w.heap.size ≤ b := Nat.le_trans B1.out.size hb
  have D2 := Lib.hid hd
  have B2 := Lib.hid (nextC B1.out hb2)
  clear hd hb2 hg hb
  go_wp2_with fail
  go_loopw [12, 13, 14] (fun v12 v13 v14 wr => ∃ (k : Nat) (B : Option Addr) (d : Nat), k ≤ rows.length ∧ v12 = .slice B (cat (rows.take k)).length d ∧ v13 = .int .i64 ((cat (rows.take (synN k s))).length : Nat) ∧ v14 = .int .i64 k ∧
    OwnB w.heap.size wr B d (cat (rows.take k)) ∧ DiskAt (FB B) wr g b (stL rows k s) ∧ Below w.heap.size w wr ∧ (∀ r ∈ rows.take k, r.length ≤ 60)) (fun _ _ v14 _ => 20 - (intOf v14).toNat)
  case atStart =>
    refine ⟨0, none, 0, by omega, rfl, ?_, rfl, OwnB.nil _ _, ?_, B2.out, fun r hr => by simp at hr⟩
    · have : synN 0 s = 0 := by unfold synN; split <;> omega
      rw [this]; rfl
    · rw [FB.none_]; exact D2.out
  case round =>
    obtain ⟨k, B, d, hk, rfl, rfl, rfl, how, hdk, hbk, h60⟩ := hrel
    have OW := Lib.hid how
    have DK := Lib.hid hdk
    have BK := Lib.hid hbk
    have H60 := Lib.hid h60
    have hcl := cat_take_len rows k (by omega) h60
    clear how hdk hbk h60
    by_cases hkn : k = rows.length
    · subst hkn
      rw [List.take_length] at OW hcl ⊢
      obtain ⟨su, hsu⟩ : ∃ su, (cat (rows.take (synN rows.length s))).length = su := ⟨_, rfl⟩
      rw [hsu]
      have FW := fewL rows s hl hcl
      have F1 : Few ((ka, fA1) :: stL rows rows.length s) := FW.1.cons (by have := FW.2; omega) (by decide) (by decide) (by decide) (by decide)
      have F2 : Few ((ka, fA2) :: stL rows rows.length s) := FW.1.cons (by have := FW.2; omega) (by decide) (by decide) (by decide) (by decide)
      have F3 : Few ((ka, fA3 whole) :: stL rows rows.length s) := FW.1.cons (by have := FW.2; omega) (by decide) (by show 1 ≤ 20; omega) (by simp [wt, fA3, fst5, bytesC]; omega) (by show whole.length ≤ 3000; omega)
      have FG : ∀ f : Fil, f.loose.length ≤ 20 → wt f ≤ 3000 → f.now.length ≤ 3000 → Few ((ka, fA3 whole) :: (kg, f) :: stL rows rows.length s) := fun f h1 h2 h3 =>
        (FW.1.cons (by have := FW.2; omega) (by decide) h1 h2 h3).cons (by have := FW.2; simp; omega) (by decide) (by show 1 ≤ 20; omega) (by simp [wt, fA3, fst5, bytesC]; omega) (by show whole.length ≤ 3000; omega)
      have F4 := FG (fG1 whole) (by show 1 ≤ 20; omega) (by simp [wt, fG1, bytesC]; omega) (by show whole.length ≤ 3000; omega)
      have F5 := FG (fG2 whole) (by show 0 ≤ 20; omega) (by simp [wt, fG2, bytesC]; omega) (by show whole.length ≤ 3000; omega)
      have F6 := FG (fG3 whole) (by show 1 ≤ 20; omega) (by simp [wt, fG3, bytesC]; omega) (by show 0 ≤ 3000; omega)
      have FF := Lib.hid (And.intro FW.1 (And.intro F1 (And.intro F2 (And.intro F3 (And.intro F4 (And.intro F5 F6))))))
      have HSU := Lib.hid hsu
      clear FW F1 F2 F3 F4 F5 F6 FG hsu H60
      have hfar : ∀ x, FB B x → w.heap.size ≤ x := fun x hx => (OW.out.at_ob hx).1
      have HFR := Lib.hid hfar
      have cv := conv23
      go_wp2_with fail
      refine (replace_any g b (stL rows rows.length s) ka fst5 (some ⟨wr.heap.size, 0, none⟩) 5 (wr.alloc (.cells #[.int .u8 102, .int .u8 105, .int .u8 114, .int .u8 115, .int .u8 116] 5 (5, 5 + 1))) (DK.out.below kp_mark) (bsl_new wr DK.out.far fst5 #[.int .u8 102, .int .u8 105, .int .u8 114, .int .u8 115, .int .u8 116] (5, 5 + 1) rfl (by decide)) (FF.out.1.fits (by decide) (by decide)) (by have := (FF.out.1.get ka).2; simp [fst5]; omega) (.inr (by have := FF.out.1.names nowF; omega))).mono ?_
      rintro e w3 ⟨rfl, hd, hg2⟩
      rw [sq1] at hd
      have O3 := Lib.hid ((OW.out.over kp_mark).beside (DK.out.below kp_mark) hg2)
      have D3 := Lib.hid hd
      have B3 := Lib.hid (below_kp (nextC BK.out kp_mark) (nextC BK.out kp_mark).size hgb hg2)
      clear hd hg2 OW BK DK cv
      go_wp2_with fail
      refine (sync_ok g b ((ka, fA1) :: stL rows rows.length s) ka w3 D3.out (FF.out.2.1.fits (by decide) (by decide)) rfl).mono ?_
      rintro e w4 ⟨rfl, hd, hg2⟩
      rw [sq2] at hd
      have O4 := Lib.hid (O3.out.beside D3.out hg2)
      have B4 := Lib.hid (below_kp B3.out B3.out.size hgb hg2)
      have D4 := Lib.hid hd
      clear hd hg2 O3 D3 B3
      go_wp2_with fail
      refine (replace_any g b ((ka, fA2) :: stL rows rows.length s) ka whole Bw_ cw w4 D4.out (HW.out.far B4.out HFR.out) (FF.out.2.2.1.fits (by decide) (by decide)) (by have := (FF.out.2.2.1.get ka).2; omega) (.inr (by have := FF.out.2.2.1.names nowF; omega))).mono ?_
      rintro e w5 ⟨rfl, hd, hg2⟩
      rw [sq3] at hd
      have O5 := Lib.hid (O4.out.beside D4.out hg2)
      have B5 := Lib.hid (below_kp B4.out B4.out.size hgb hg2)
      have D5 := Lib.hid hd
      clear hd hg2 O4 D4 B4
      go_wp2_with fail
      refine (replace_any g b ((ka, fA3 whole) :: stL rows rows.length s) kg whole Bw_ cw w5 D5.out (HW.out.far B5.out HFR.out) (FF.out.2.2.2.1.fits (by decide) (by decide)) (by have := (FF.out.2.2.2.1.get kg).2; omega) (.inr (by have := FF.out.2.2.2.1.names nowF; omega))).mono ?_
      rintro e w6 ⟨rfl, hd, hg2⟩
      rw [sq4] at hd
      have O6 := Lib.hid (O5.out.beside D5.out hg2)
      have B6 := Lib.hid (below_kp B5.out B5.out.size hgb hg2)
      have D6 := Lib.hid hd
      clear hd hg2 O5 D5 B5
      go_wp2_with fail
      refine (sync_ok g b ((ka, fA3 whole) :: (kg, fG1 whole) :: stL rows rows.length s) kg w6 D6.out (FF.out.2.2.2.2.1.fits (by decide) (by decide)) rfl).mono ?_
      rintro e w7 ⟨rfl, hd, hg2⟩
      rw [sq5] at hd
      have O7 := Lib.hid (O6.out.beside D6.out hg2)
      have B7 := Lib.hid (below_kp B6.out B6.out.size hgb hg2)
      have D7 := Lib.hid hd
      clear hd hg2 O6 D6 B6
      go_wp2_with fail
      refine (remove_ok g b ((ka, fA3 whole) :: (kg, fG2 whole) :: stL rows rows.length s) kg w7 D7.out (FF.out.2.2.2.2.2.1.fits (by decide) (by decide)) (by have := (FF.out.2.2.2.2.2.1.get kg).2; omega) rfl).mono ?_
      rintro e w8 ⟨rfl, hd, hg2⟩
      rw [sq6] at hd
      have O8 := Lib.hid (O7.out.beside D7.out hg2)
      have B8 := Lib.hid (below_kp B7.out B7.out.size hgb hg2)
      have D8 := Lib.hid hd
      clear hd hg2 O7 D7 B7
      go_wp2_with fail
      refine (Loose_any g b _ w8 D8.out (by have := FF.out.2.2.2.2.2.2.1; omega) (fun q hq => by have := (FF.out.2.2.2.2.2.2.2 q hq).1; omega)).mono ?_
      rintro e w9 ⟨LA, lc, rfl, hlo, hbl⟩
      obtain ⟨q2, hq2⟩ : ∃ q2, wrap64 (stay - wrap64 (stay.tdiv 2 * 2)) = q2 := ⟨_, rfl⟩
      have hq3 : q2 ≤ 9223372036854775807 := by rw [← hq2]; exact wrap64_le _
      obtain ⟨ra, rg, rl, hcr, HT⟩ := torn rows s whole stay other q2
      obtain ⟨lo, hlo2⟩ : ∃ lo, (stNames looseF ((ka, fA3 whole) :: (kg, fG3 whole) :: stL rows rows.length s)).length = lo := ⟨_, rfl⟩
      rw [hlo2] at HT ⊢
      have D9 := Lib.hid (D8.out.below hbl)
      have O9 := Lib.hid (O8.out.over hbl)
      have B9 := Lib.hid (nextC B8.out hbl)
      have hra : ra.1.length ≤ 60 := by
        rcases HT.ra_ with ⟨e, _⟩ | ⟨e, _⟩ <;> rw [e]
        · decide
        · exact hwl
      have hrg : rg.1.length ≤ 60 := by
        rcases HT.rg_ with e | e <;> rw [e]
        · exact hwl
        · decide
      have hrl : rl.1.length ≤ 1200 := by
        have := congrArg List.length HT.pre
        rw [List.length_take] at this
        omega
      have FN := Lib.hid (fewF ra rg rl (by omega) (by omega) hrl)
      have HT := Lib.hid HT
      clear hlo hbl D8 O8 B8 hlo2
      go_wp2_with fail
      rw [hq2]
      refine (crash_any g b ((ka, fA3 whole) :: (kg, fG3 whole) :: stL rows rows.length s) (some ⟨w9.heap.size, 0, none⟩) 3 [other, q2, stay] (w9.alloc (.cells #[.int .i64 other, .int .i64 q2, .int .i64 stay] 3)) (D9.out.below kp_mark) (by have := FF.out.2.2.2.2.2.2.1; omega) FF.out.2.2.2.2.2.2.small (sli3_new w9 other q2 stay) (by simp) (fun x hx => by simp at hx; omega)).mono ?_
      rintro e w10 ⟨rfl, hd, hg2⟩
      rw [hcr] at hd
      have O10 := Lib.hid ((O9.out.over kp_mark).beside (D9.out.below kp_mark) hg2)
      have D10 := Lib.hid hd
      have B10 := Lib.hid (below_kp (nextC B9.out kp_mark) (nextC B9.out kp_mark).size hgb hg2)
      obtain ⟨G1, G2, G3⟩ := fin3_get ra rg rl
      have E1 := ent_get ka ra (fun h => by rcases HT.out.ra_ with ⟨e, _⟩ | ⟨e, _⟩ <;> rw [e] at h <;> cases h)
      have E2 := ent_get kg rg (fun h => by
        rcases HT.out.rg_ with e | e
        · rw [e] at h; cases h
        · rw [e])
      have E3 := ent_get lgk rl HT.out.no
      rw [← G1] at E1
      rw [← G2] at E2
      rw [← G3] at E3
      clear hd hg2 O9 D9 B9 G1 G2 G3 hq2 hq3 hcr
      go_wp2_with fail
      refine (read_any g b (fin3 ra rg rl) lgk w10 D10.out (by decide) (by have := (FN.out.get lgk).2; omega)).mono ?_
      rw [E3.1, E3.2.1]
      rintro e w11 ⟨Pb, db, rfl, hown, hbr⟩
      have Rb := Lib.hid hown
      have D11 := Lib.hid (D10.out.below hbr)
      have O11 := Lib.hid (O10.out.over hbr)
      have B11 := Lib.hid (nextC B10.out hbr)
      clear hown hbr D10 O10 B10
      go_wp2_with fail
      refine (read_any g b (fin3 ra rg rl) ka w11 D11.out (by decide) (by have := (FN.out.get ka).2; omega)).mono ?_
      rw [E1.1, E1.2.1]
      rintro e w12 ⟨Px, dx, rfl, hown, hbr⟩
      have Rx := Lib.hid hown.sl
      have Rb := Lib.hid (Rb.out.over hbr)
      have D12 := Lib.hid (D11.out.below hbr)
      have O12 := Lib.hid (O11.out.over hbr)
      have B12 := Lib.hid (nextC B11.out hbr)
      clear hown hbr D11 O11 B11
      go_wp2_with fail
      refine (read_any g b (fin3 ra rg rl) kg w12 D12.out (by decide) (by have := (FN.out.get kg).2; omega)).mono ?_
      rw [E2.1, E2.2.1]
      rintro e w13 ⟨Py, dy, rfl, hown, hbr⟩
      have Ry := Lib.hid hown.sl
      have Rb := Lib.hid (Rb.out.over hbr)
      have Rx := Lib.hid (Rx.out.over hbr)
      have D13 := Lib.hid (D12.out.below hbr)
      have O13 := Lib.hid (O12.out.over hbr)
      have B13 := Lib.hid (nextC B12.out hbr)
      clear hown hbr D12 O12 B12
      have cvW : ∀ W, Below w13.heap.size w13 W → (convert 23 9 (.slice Bw_ whole.length cw)).run Try.prog W = .ok (.string (strB whole)) W := fun W hW => conv_all (HW.out.sl.over (nextC B13.out hW)) hwb
      have hrab : ∀ x ∈ ra.1, 0 ≤ x ∧ x < 256 := by
        rcases HT.out.ra_ with ⟨e, _⟩ | ⟨e, _⟩ <;> rw [e]
        · decide
        · exact hwb
      have hrgb : ∀ x ∈ rg.1, 0 ≤ x ∧ x < 256 := by
        rcases HT.out.rg_ with e | e <;> rw [e]
        · exact hwb
        · intro x hx; cases hx
      have cvX : ∀ W, Below w13.heap.size w13 W → (convert 23 9 (.slice Px ra.1.length dx)).run Try.prog W = .ok (.string (strB ra.1)) W := fun W hW => conv_all (Rx.out.over hW) hrab
      have cvY : ∀ W, Below w13.heap.size w13 W → (convert 23 9 (.slice Py rg.1.length dy)).run Try.prog W = .ok (.string (strB rg.1)) W := fun W hW => conv_all (Ry.out.over hW) hrgb
      have hlo2 : decide ((lo : Int) < 2) = false := decide_eq_false (by have := HT.out.lo2; omega)
      have CVW := Lib.hid cvW
      have CVX := Lib.hid cvX
      have CVY := Lib.hid cvY
      have LO := Lib.hid (fun (W : World) (h : DiskAt (FB B) W g b (fin3 ra rg rl)) => Loose_any g b (fin3 ra rg rl) W h (by have := FN.out.1; omega) (fun q hq => by have := (FN.out.2 q hq).1; omega))
      rw [fin3_none] at LO
      clear cvW cvX cvY hrab hrgb
      go_upto_region 31 with fail
      go_cut [21, 158] (fun v s wx => v = .bool rg.2 ∧ s = .bool false ∧ Below w13.heap.size w13 wx)
      case first =>
       as_aux_lemma =>
        go_wp2_with fail
        refine (LO.out w13 D13.out).mono ?_
        rintro e w14 ⟨LB, ld, rfl, -, hbl⟩
        have vW := CVW.out w14 hbl
        have vX := CVX.out w14 hbl
        have vY := CVY.out w14 hbl
        have h1 := HT.out.ra_
        have h2 := HT.out.rg_
        have HBL := Lib.hid hbl
        clear hbl CVW CVX CVY
        by_cases hws : strB whole = ⟨#[102, 105, 114, 115, 116]⟩
        · rw [hws] at vW
          rcases h1 with ⟨e, ho1⟩ | ⟨e, ho1⟩
          · rcases h2 with e2 | e2
            · have ho2 : decide ((0 : Int) < other) = false := decide_eq_false (by omega)
              rw [show strB ra.1 = ⟨#[102, 105, 114, 115, 116]⟩ by rw [e]; rfl] at vX
              have hr2 : rg.2 = true := by rw [e2]
              rw [show strB rg.1 = ⟨#[102, 105, 114, 115, 116]⟩ by rw [e2]; exact hws] at vY
              clear e e2
              go_wp2_with fail
              all_goals
                go_meet
                exact ⟨by rw [hr2], rfl, HBL.out⟩
            · have ho2 : decide ((0 : Int) < other) = false := decide_eq_false (by omega)
              rw [show strB ra.1 = ⟨#[102, 105, 114, 115, 116]⟩ by rw [e]; rfl] at vX
              have hr2 : rg.2 = false := by rw [e2]
              clear e e2
              go_wp2_with fail
              all_goals
                go_meet
                exact ⟨by rw [hr2], rfl, HBL.out⟩
          · rcases h2 with e2 | e2
            · rw [show strB ra.1 = ⟨#[102, 105, 114, 115, 116]⟩ by rw [e]; exact hws] at vX
              have hr2 : rg.2 = true := by rw [e2]
              rw [show strB rg.1 = ⟨#[102, 105, 114, 115, 116]⟩ by rw [e2]; exact hws] at vY
              clear e e2
              go_wp2_with fail
              all_goals
                go_meet
                exact ⟨by rw [hr2], rfl, HBL.out⟩
            · rw [show strB ra.1 = ⟨#[102, 105, 114, 115, 116]⟩ by rw [e]; exact hws] at vX
              have hr2 : rg.2 = false := by rw [e2]
              clear e e2
              go_wp2_with fail
              all_goals
                go_meet
                exact ⟨by rw [hr2], rfl, HBL.out⟩
        · have hws' : ¬ (⟨#[102, 105, 114, 115, 116]⟩ : ByteArray) = strB whole := fun e => hws e.symm
          rcases h1 with ⟨e, ho1⟩ | ⟨e, ho1⟩
          · rcases h2 with e2 | e2
            · have ho2 : decide ((0 : Int) < other) = false := decide_eq_false (by omega)
              rw [show strB ra.1 = ⟨#[102, 105, 114, 115, 116]⟩ by rw [e]; rfl] at vX
              have hr2 : rg.2 = true := by rw [e2]
              rw [show strB rg.1 = strB whole by rw [e2]] at vY
              clear e e2
              go_wp2_with fail
              all_goals
                go_meet
                exact ⟨by rw [hr2], rfl, HBL.out⟩
            · have ho2 : decide ((0 : Int) < other) = false := decide_eq_false (by omega)
              rw [show strB ra.1 = ⟨#[102, 105, 114, 115, 116]⟩ by rw [e]; rfl] at vX
              have hr2 : rg.2 = false := by rw [e2]
              clear e e2
              go_wp2_with fail
              all_goals
                go_meet
                exact ⟨by rw [hr2], rfl, HBL.out⟩
          · rcases h2 with e2 | e2
            · rw [show strB ra.1 = strB whole by rw [e]] at vX
              have hr2 : rg.2 = true := by rw [e2]
              rw [show strB rg.1 = strB whole by rw [e2]] at vY
              clear e e2
              go_wp2_with fail
              all_goals
                go_meet
                exact ⟨by rw [hr2], rfl, HBL.out⟩
            · rw [show strB ra.1 = strB whole by rw [e]] at vX
              have hr2 : rg.2 = false := by rw [e2]
              clear e e2
              go_wp2_with fail
              all_goals
                go_meet
                exact ⟨by rw [hr2], rfl, HBL.out⟩
      case rest =>
      obtain ⟨rfl, rfl, hbc⟩ := hcut
      have OC := Lib.hid (O13.out.over hbc)
      have DC := Lib.hid (D13.out.below hbc)
      have RC := Lib.hid (Rb.out.over hbc)
      have BC := Lib.hid (nextC B13.out hbc)
      clear hbc O13 D13 Rb B13 Rx Ry CVW CVX CVY LO
      have hlb : rl.1.length ≤ (cat rows).length := by
        have := congrArg List.length HT.out.pre
        rw [List.length_take] at this
        omega
      have hcatb : ∀ x ∈ rl.1, 0 ≤ x ∧ x < 256 := fun x hx => by
        rw [HT.out.pre] at hx
        obtain ⟨l, hl1, hx2⟩ := List.mem_flatten.1 (List.mem_of_mem_take hx)
        exact hrb l hl1 x hx2
      have hcd : (cat rows).length ≤ d := by
        obtain ⟨B', d', e, h1, h2⟩ := own_form OC.out
        injection e with e1 e2 e3
        omega
      have SA : Sl wc .u8 B rl.1 := by
        rw [HT.out.pre]
        exact OC.out.sl.take _
      have cvB : ∀ W, Below wc.heap.size wc W → (convert 23 9 (.slice Pb rl.1.length db)).run Try.prog W = .ok (.string (strB rl.1)) W := fun W hW => conv_all (RC.out.over hW).sl hcatb
      have cvA : ∀ W, Below wc.heap.size wc W → (convert 23 9 (.slice B rl.1.length d)).run Try.prog W = .ok (.string (strB rl.1)) W := fun W hW => conv_all (SA.over hW) hcatb
      have hsl : ∀ W, (Instr.slice 23 (.slice B (cat rows).length d) none (some (.int .i64 (rl.1.length : Nat))) none).run Try.prog W = .ok (.slice B rl.1.length d) W := fun W => by
        have hsz : (sizeOf (Try.prog.elem 23)).run Try.prog W = .ok 1 W := by kernel_rfl
        have hut : Try.prog.underlying 23 = some (.slice (Try.prog.elem 23)) := by kernel_rfl
        rw [run_slice_h W _ _ _ _ hut .i64 (rl.1.length : Nat) (by omega) (by omega), hsz]
        cases B <;> simp [Result.andThen, sliced, Addr.add]
      have HCB := Lib.hid hcatb
      have HE := Lib.hid E3
      have CVB := Lib.hid cvB
      have CVA := Lib.hid cvA
      clear cvB cvA SA hcd hcatb E1 E2 E3 hlo2
      go_upto_region 33 with fail
      go_cut [17, 192] (fun v s wx => v = .bool rl.2 ∧ s = .bool false ∧ Below wc.heap.size wc wx)
      case first =>
       as_aux_lemma =>
        have d3 : decide (((cat rows).length : Int) < (rl.1.length : Int)) = false := decide_eq_false (by omega)
        have d4 : decide ((cat rows).length < rl.1.length) = false := decide_eq_false (by omega)
        have cvB : ∀ q, (convert 23 9 (.slice Pb rl.1.length db)).run Try.prog (wc.drewN q) = .ok (.string (strB rl.1)) (wc.drewN q) := fun q => CVB.out _ (below_drewN (Below.refl _ _) q)
        have cvA : ∀ q, (convert 23 9 (.slice B rl.1.length d)).run Try.prog (wc.drewN q) = .ok (.string (strB rl.1)) (wc.drewN q) := fun q => CVA.out _ (below_drewN (Below.refl _ _) q)
        by_cases hn : rows.length = 0
        · have hn0 : decide ((0 : Int) < (rows.length : Int)) = false := decide_eq_false (by omega)
          have hn1 : decide (0 < rows.length) = false := decide_eq_false (by omega)
          clear hn
          go_big_quiet (fail)
          go_wp2_with fail
          go_meet
          exact ⟨rfl, rfl, below_drewN (Below.refl _ _) _⟩
        · have hn0 : decide ((0 : Int) < (rows.length : Int)) = true := decide_eq_true (by omega)
          have hn1 : decide (0 < rows.length) = true := decide_eq_true (by omega)
          have hS := HT.out.sure (by omega)
          clear hn
          by_cases h0s : 0 ≤ s
          · have hs0 : decide ((0 : Int) ≤ s) = true := decide_eq_true h0s
            have hr2 : rl.2 = true := (hS h0s).1
            have hsu2 : decide ((rl.1.length : Int) < (su : Int)) = false := decide_eq_false (by have := (hS h0s).2; have := HSU.out; omega)
            have hsu3 : decide (rl.1.length < su) = false := decide_eq_false (by have := (hS h0s).2; have := HSU.out; omega)
            clear hS h0s
            go_big_quiet (fail)
            go_wp2_with fail
            go_meet
            exact ⟨by rw [hr2], rfl, below_drewN (Below.refl _ _) _⟩
          · have hs0 : decide ((0 : Int) ≤ s) = false := decide_eq_false h0s
            clear h0s hS
            go_big_quiet (fail)
            go_wp2_with fail
            go_meet
            exact ⟨rfl, rfl, below_drewN (Below.refl _ _) _⟩
      case rest =>
      obtain ⟨rfl, rfl, hbc⟩ := hcut
      have OC := Lib.hid (OC.out.over hbc)
      have DC := Lib.hid (DC.out.below hbc)
      have RC := Lib.hid (RC.out.over hbc)
      have BC := Lib.hid (nextC BC.out hbc)
      clear hbc CVB CVA hsl
      go_upto_region 35 with fail
      go_cut [217] (fun s wx => s = .bool false ∧ wx = wc)
      case first =>
       as_aux_lemma =>
        by_cases h3 : lo = 3
        · have e3 : ((lo : Int) == 3) = true := by rw [h3]; rfl
          have e3' : decide ((lo : Int) = 3) = true := decide_eq_true (by omega)
          by_cases h0s : 0 ≤ s
          · have hs0 : decide ((0 : Int) ≤ s) = true := decide_eq_true h0s
            by_cases hn : rows.length = 0
            · have hn0 : decide ((0 : Int) < (rows.length : Int)) = false := decide_eq_false (by omega)
              have hn1 : decide (0 < rows.length) = false := decide_eq_false (by omega)
              clear hn h3 h0s
              go_wp2_with fail
              go_meet
              exact ⟨rfl, rfl⟩
            · have hn0 : decide ((0 : Int) < (rows.length : Int)) = true := decide_eq_true (by omega)
              have hn1 : decide (0 < rows.length) = true := decide_eq_true (by omega)
              have hlen := Lib.hid (HT.out.len h3 h0s (by omega))
              rw [HSU.out] at hlen
              clear hn h3 h0s
              go_wp2_with fail
              go_meet
              have hsu4 : su ≤ (cat rows).length := by
                rw [← HSU.out]
                exact cat_take_le _ _
              have x1 : wrap64 (((cat rows).length : Int) - (su : Int)) = ((cat rows).length : Int) - (su : Int) := by
                rw [wrap64]
                omega
              have x2 : wrap64 (rl.1.length : Int) = (rl.1.length : Int) := by
                rw [wrap64]
                omega
              refine ⟨?_, rfl⟩
              rw [x1, ← hlen.out, x2]
              simp
          · have hs0 : decide ((0 : Int) ≤ s) = false := decide_eq_false h0s
            clear h3 h0s
            go_wp2_with fail
            go_meet
            exact ⟨rfl, rfl⟩
        · have e3 : ((lo : Int) == 3) = false := by simp; omega
          have e3' : decide ((lo : Int) = 3) = false := decide_eq_false (by omega)
          clear h3
          go_wp2_with fail
          go_meet
          exact ⟨rfl, rfl⟩
      case rest =>
      obtain ⟨rfl, rfl⟩ := hcut
      as_aux_lemma =>
      have hsml := FN.out.small
      have hfl := FN.out.1
      go_wp2_with fail
      refine (crash_any g b (fin3 ra rg rl) (some ⟨wc.heap.size, 0, none⟩) 3 [5, 5, 5] (wc.alloc (.cells #[.int .i64 5, .int .i64 5, .int .i64 5] 3)) (DC.out.below kp_mark) (by omega) hsml (sli3_new wc 5 5 5) (by simp) (fun x hx => by simp at hx; omega)).mono ?_
      rintro e w20 ⟨rfl, hd, hg2⟩
      rw [crash_still _ _ (fin3_none ra rg rl)] at hd
      have RE := Lib.hid ((RC.out.over kp_mark).beside (DC.out.below kp_mark) hg2)
      have DE := Lib.hid hd
      have BE := Lib.hid (below_kp (nextC BC.out kp_mark) (nextC BC.out kp_mark).size hgb hg2)
      clear hd hg2 OC DC RC BC
      go_wp2_with fail
      refine (read_any g b (fin3 ra rg rl) lgk w20 DE.out (by decide) (by have := (FN.out.get lgk).2; omega)).mono ?_
      rw [HE.out.1, HE.out.2.1]
      rintro e w21 ⟨Pc, dc, rfl, hown, hbr⟩
      have RF := Lib.hid hown
      have DF := Lib.hid (DE.out.below hbr)
      have RE := Lib.hid (RE.out.over hbr)
      have BF := Lib.hid (nextC BE.out hbr)
      clear hown hbr DE BE
      go_wp2_with fail
      refine (sure_any g b (fin3 ra rg rl) lgk w21 DF.out (by decide) (by rw [HE.out.2.2.1]; omega)).mono ?_
      rw [HE.out.2.2.1, HE.out.2.2.2]
      rintro e w22 ⟨Ps, ds, rfl, hown, hbr⟩
      have vB := conv_all (c := db) (RE.out.over hbr).sl HCB.out
      have vC := conv_all (c := dc) (RF.out.over hbr).sl HCB.out
      have vS := conv_all (c := ds) hown.sl HCB.out
      have BG := Lib.hid (nextC BF.out hbr)
      clear hown hbr DF BF RE RF
      go_wp2_with fail
      go_ret
      exact ⟨rfl, BG.out⟩
    · have hklt : (k : Int) < (rows.length : Int) := by omega
      obtain ⟨ad, Bk, ck, rfl, hadl, hcell, hbw⟩ := HR.out k (by omega)
      obtain ⟨rk, hrk⟩ : ∃ r, rows[k] = r := ⟨_, rfl⟩
      have hrd : rows.getD k [] = rk := by rw [List.getD_eq_getElem?_getD, List.getElem?_eq_getElem (by omega)]; exact hrk
      rw [hrk] at hcell hbw
      have HBW := Lib.hid hbw
      have HC := Lib.hid (fun W (h : Below w.heap.size w W) => (h.cell (p := ad.add k) (by rw [add_block]; exact hadl)).trans hcell)
      have hcw := HC.out wr BK.out
      clear hbw hadl hcell
      by_cases h60 : 60 < rk.length
      · have d60 : (60 : Int) < (rk.length : Int) := by omega
        go_wp2_with fail
        go_ret
        exact ⟨rfl, BK.out⟩
      · have d60 : decide ((60 : Int) < (rk.length : Int)) = false := decide_eq_false (by omega)
        have hfar : ∀ x, FB B x → w.heap.size ≤ x := fun x hx => (OW.out.at_ob hx).1
        go_wp2_with fail
        refine (append_any g b (stL rows k s) lgk rk Bk ck wr DK.out (HBW.out.far BK.out hfar) (fitsL rows k s (by omega)) (by rw [nowL]; omega) (.inr (namesL rows k s))).mono ?_
        rintro e w3 ⟨rfl, hd, hg2⟩
        obtain ⟨st1, hst1⟩ : ∃ st1, stPut (stL rows k s) lgk (putF (stGet (stL rows k s) lgk) ⟨!(stGet (stL rows k s) lgk).isNow, false, rk⟩) = st1 := ⟨_, rfl⟩
        have hfit1 : Fits st1 lgk := by rw [← hst1]; exact fits1 rows k s (by omega) rk _
        have hsteps := step_row rows s (by omega : k < rows.length) st1 (by rw [← hst1, hrd])
        rw [hst1] at hd
        have D3 := Lib.hid hd
        have B3 := Lib.hid (below_kp BK.out BK.out.size hgb hg2)
        have OW3 := Lib.hid (OW.out.beside DK.out hg2)
        have hcw := HC.out w3 B3.out
        have hcs : cat (rows.take (k + 1)) = cat (rows.take k) ++ rk := by rw [cat_succ rows (by omega), hrd]
        have hz3 := B3.out.size
        have HST := Lib.hid hsteps
        have h61 : ∀ r ∈ rows.take (k + 1), r.length ≤ 60 := fun r hr => by
          rw [List.take_succ_eq_append_getElem (by omega), hrk] at hr
          rcases List.mem_append.1 hr with hr | hr
          · exact H60.out r hr
          · rw [List.mem_singleton] at hr; subst hr; omega
        have H61 := Lib.hid h61
        clear hd hg2 OW DK BK hst1 hsteps h61 hrk hrd hfar
        have A3 := HBW.out.sl.over B3.out
        go_wp2_with (at_builtin; refine appSBat rfl _ _ rfl w.heap.size B _ d (cat (rows.take k)) rfl (by rfl) OW3.out Bk ck rk (by rfl) A3 HBW.out.none_ hz3 (by omega) ?_)
        intro B4 d4 w4 hown4 hgr4 hat4 hb4
        have D4 := Lib.hid (D3.out.beside OW3.out hown4 hgr4 hat4)
        have BX := Lib.hid (B3.out.trans hb4)
        rw [← hcs] at hown4
        have OW4 := Lib.hid hown4
        have hln2 : (cat (rows.take k)).length + rk.length = (cat (rows.take (k + 1))).length := by rw [hcs, List.length_append]
        rw [hln2]
        clear hown4 hgr4 hat4 hb4 OW3 D3 B3 hcw A3 hz3 hcs hln2
        by_cases hsk : (k : Int) ≤ s
        · go_wp2_with fail
          refine (sync_ok g b st1 lgk w4 D4.out hfit1 HST.out.2.2).mono ?_
          rintro e w5 ⟨rfl, hd, hg2⟩
          rw [HST.out.2.1 hsk] at hd
          have D5 := Lib.hid hd
          have OW5 := Lib.hid (OW4.out.beside D4.out hg2)
          have B5 := Lib.hid (below_kp BX.out BX.out.size hgb hg2)
          clear hd hg2
          go_wp2_with fail
          go_roundw
          case rel => exact ⟨k + 1, B4, d4, by omega, rfl, by rw [syn_yes hsk], by go_num, OW5.out, D5.out, B5.out, H61.out⟩
          case measure => simp [intOf]; omega
        · have dsk : decide ((k : Int) ≤ s) = false := decide_eq_false hsk
          go_wp2_with fail
          go_roundw
          case rel =>
            have hd := HST.out.1 (by omega)
            have := D4.out
            rw [hd] at this
            exact ⟨k + 1, B4, d4, by omega, rfl, by rw [syn_no (by omega)], by go_num, OW4.out, this, BX.out, H61.out⟩
          case measure => simp [intOf]; omega
set_option maxHeartbeats 1000000 in
set_option maxRecDepth 100000 in
theorem walk_triv (A B : Option Addr) (n c m d : Nat) (s stay other : Int) (w : World) (h : 20 < n ∨ ¬ 20 < n ∧ 60 < m) :
    Calls Try.prog 3 #[.slice A n c, .int .i64 s, .slice B m d, .int .i64 stay, .int .i64 other] w fun e w' => e = .returned (.bool true) ∧ Below w.heap.size w w' := by
  have KN := Lib.hid (fun W => known_any W)
  rcases h with h1 | ⟨h1, h2⟩
  · have d1 : (20 : Int) < (n : Int) := by omega
    clear h1
    go_enter Try.func3, Try.ntmps3
    go_wp2_with fail
    refine (KN.out _).mono ?_
    rintro e w2 ⟨rfl, hb2⟩
    go_wp2_with fail
    go_ret
    exact ⟨rfl, hb2⟩
  · have d1 : decide ((20 : Int) < (n : Int)) = false := decide_eq_false (by omega)
    have d2 : (60 : Int) < (m : Int) := by omega
    clear h1 h2
    go_enter Try.func3, Try.ntmps3
    go_wp2_with fail
    refine (KN.out _).mono ?_
    rintro e w2 ⟨rfl, hb2⟩
    go_wp2_with fail
    go_ret
    exact ⟨rfl, hb2⟩
theorem opened (H : Type) (enc : TypeId × Value → H) (W : World) (base : Nat) (args : Array Value) (ds gs : List (DataW H)) (before : List MemPlace)
    (hval : ∀ (j : Nat) t v, Try.f3.params[j]? = some t → args[j]? = some v → Value.okWide Try.prog W .any base t v)
    (hW : DataW.Whole enc Try.prog Try.f3.params.toList Rows.diskTornSpec.vars false W args.toList ds gs before) :
    Calls Try.prog 3 args W fun e w' => e = .returned (.bool true) ∧ Below W.heap.size W w' := by
  obtain ⟨p, q, hA, hV, rfl, hfz, hnd⟩ := hW
  rw [Try.params3] at hA hval
  obtain ⟨v0, vs0, d0, ds0, p0, q0, hargs, rfl, rfl, h0, r0⟩ := trodAll_cons hA
  obtain ⟨v1, vs1, d1, ds1, p1, q1, rfl, rfl, rfl, h1, r1⟩ := trodAll_cons r0
  obtain ⟨v2, vs2, d2, ds2, p2, q2, rfl, rfl, rfl, h2, r2⟩ := trodAll_cons r1
  obtain ⟨v3, vs3, d3, ds3, p3, q3, rfl, rfl, rfl, h3, r3⟩ := trodAll_cons r2
  obtain ⟨v4, vs4, d4, ds4, p4, q4, rfl, rfl, rfl, h4, r4⟩ := trodAll_cons r3
  obtain ⟨rfl, rfl, rfl⟩ := trodAll_nil r4
  obtain rfl : args = #[v0, v1, v2, v3, v4] := by cases args; simp_all
  obtain ⟨A, c, rows, rfl, hR, hrb⟩ := open_rows Try.underlying22 (by kernel_rfl) Try.underlying23 Try.underlying5 (by kernel_rfl) (hval 0 22 v0 rfl rfl) h0
  obtain ⟨s, rfl, _, _, w1⟩ := open_int Try.underlying3 (hval 1 3 v1 rfl rfl) h1
  obtain ⟨B, cw, whole, rfl, s2, c2, m2, w2, n2⟩ := open_row Try.underlying23 Try.underlying5 (by kernel_rfl) (hval 2 23 v2 rfl rfl) h2
  obtain ⟨stay, rfl, _, _, w3⟩ := open_int Try.underlying3 (hval 3 3 v3 rfl rfl) h3
  obtain ⟨other, rfl, _, _, w4⟩ := open_int Try.underlying3 (hval 4 3 v4 rfl rfl) h4
  have b1 := bounds_i64 w1
  have b3 := bounds_i64 w3
  have b4 := bounds_i64 w4
  by_cases e1 : 20 < rows.length
  · exact walk_triv A B rows.length c whole.length cw s stay other W (.inl e1)
  by_cases e2 : 60 < whole.length
  · exact walk_triv A B rows.length c whole.length cw s stay other W (.inr ⟨e1, e2⟩)
  exact walk A B c cw rows whole s stay other W hR ⟨s2, n2, c2, m2⟩ (fun l hl x hx => wf_u8 (hrb l hl x hx)) (fun x hx => wf_u8 (w2 x hx)) (by omega) (by omega) ⟨by omega, by omega⟩ ⟨by omega, by omega⟩ ⟨by omega, by omega⟩

set_option maxRecDepth 100000 in
theorem lifted (os : Os) (started : os.Started) (H : Type) (enc : TypeId × Value → H) :
    ReturnsInHanded {} Try.checked os 3 .any (Rows.diskTornSpec.pre6 enc Try.prog Try.f3 Rows.diskTornRow.domain false) (Rows.diskTornSpec.post enc Try.prog Try.f3 false true false false) := by
  refine returnsInHanded_of_change (C := Try.checked) own started (by kernel_rfl) Try.func3
    (ChangeSpec.witness6 (enc := enc) (C := Try.checked) false ⟨#[], #[.slice none 0 0, .int .i64 0, .slice none 0 0, .int .i64 0, .int .i64 0], []⟩ 8 (by kernel_rfl) (by kernel_rfl) (by kernel_rfl) (by kernel_rfl)) ?_
  intro W base args ds gs before hval hW hcnd hh
  refine (opened H enc W base args ds gs before hval hW).mono fun e W' ⟨he, hg⟩ => ?_
  subst he
  exact ⟨_, rfl, law_post hW rfl laidOut (by kernel_rfl) rfl Try.underlying4 (fun l hl => by match l, hl with | [d0, d1, d2, d3, d4], _ => rfl) hg⟩

theorem over : Rows.diskTornRow.holds Try.pinned (OpenSpec.ofChange Rows.diskTornSpec) :=
  OpenClaim.holds_of_wide 3 Try.f3 rfl rfl rfl rfl rfl rfl rfl ⟨rfl, rfl, rfl, rfl, rfl⟩ rfl rfl rfl rfl rfl (by kernel_rfl) Try.func3 (by kernel_rfl)
    (of_decide_eq_true (by kernel_rfl)) (by unfold Func.isWrapper; first | (rw [if_pos (by decide +kernel)]; kernel_rfl) | (rw [if_neg (by decide +kernel)]; exact ⟨rfl, rfl⟩))
    (fun os started H enc _ => lifted os started H enc)

/-- THE STATEMENT. -/
theorem proved : Rows.DiskTornSaid :=
  over
#print axioms proved
end Go.Proofs.Ytbdhdnkpdpcgnaa.diskTorn
