/- Contracts of disk.names, Names, Loose, many. -/
import Derived.Test.YtbdhdnkpdpcgnaaDkS
import Derived.Test.YtbdhdnkpdpcgnaaIter
import Derived.Outline
namespace Go.Proofs.Ytbdhdnkpdpcgnaa
set_option linter.unusedVariables false
open Go.RowKit
variable {FR : Nat → Prop}
/-- A slice of names. -/
def SlN (w : World) (A : Option Addr) (ks : List Key) : Prop := ∀ (j : Nat) (hj : j < ks.length), ∃ ad, A = some ad ∧ ad.block < w.heap.size ∧ w.cell? (ad.add j) = some (nm ks[j])
theorem SlN.stays {w w' : World} {A : Option Addr} {ks : List Key} (h : SlN w A ks) (hs : Stays Nobody w w') : SlN w' A ks := fun j hj => by
  obtain ⟨ad, e, hb, hc⟩ := h j hj
  exact ⟨ad, e, Nat.lt_of_lt_of_le hb hs.size, hs.cell _ _ (fun h => h) hc⟩
def OwnN (base : Nat) (w : World) (B : Option Addr) (d : Nat) (ks : List Key) : Prop := w.ownsRow base 9 1 (.slice B ks.length d) ks.length (ks.map nm)
theorem OwnN.nil (base : Nat) (w : World) : OwnN base w none 0 [] := World.ownsRow_nil _ _ _ _
theorem sln_of_own {w : World} {base : Nat} {n c : Nat} {A : Option Addr} {ks : List Key} (h : w.ownsRow base 9 1 (.slice A n c) n (ks.map nm)) : SlN w A ks := fun j hj => by
  rcases h.2 with ⟨e, e0⟩ | ⟨g, cap, cur, e, hb, h1, h2, h3, h4, h5⟩
  · have := h.1
    rw [e0] at this
    simp at this
    rw [this] at hj
    simp at hj
  · injection e with e1 e2 e3
    subst e1
    have hl := h.1
    rw [List.length_map] at hl
    refine ⟨⟨g, 0, none⟩, rfl, (Array.getElem?_eq_some_iff.1 h1).1, ?_⟩
    rw [show (⟨g, 0, none⟩ : Addr).add j = ⟨g, j, none⟩ by unfold Addr.add; split <;> simp_all]
    rw [cell_of_row w g j cur _ (0, 0) h1]
    have e2 : (cur.toList.take (n * 1))[j]? = (ks.map nm)[j]? := by rw [h5]
    rw [List.getElem?_take, if_pos (by omega)] at e2
    rw [← Array.getElem?_toList, e2]
    simp [hj]
theorem infoN : (Try.prog.info? 9).map (fun i => (i.zero, i.size, i.bytes)) = some (some (.string ⟨#[]⟩), 1, 16) := by kernel_rfl
theorem app1N {ops : Array Oper} {rest : List Oper} {o : Oper} {a : Act} {Q : Exit → Act → World → Prop} {w : World} (hgd : o.guard = none) (D : Nat) (hD : o.dst = some D) (s x : Operand)
    (ho : o.op = .call { callee := .builtin .append, args := #[s, x], argTypes := #[30, 30] }) (base : Nat) (B : Option Addr) (n d : Nat) (xs : List Key) (y : Key) (hn : n = xs.length) (hs : a.eval s = .slice B n d) (hown : OwnN base w B d xs)
    (hx : a.eval x = .slice (some ⟨w.heap.size, 0, none⟩) 1 1) (hbase : base ≤ w.heap.size) (hlen : xs.length ≤ 1000000)
    (h : ∀ B' d' w', OwnN base w' B' d' (xs ++ [y]) → Below base w w' → wpList Try.prog ops Q rest (a.put (some D) (.slice B' (n + 1) d')) w') :
    wpList Try.prog ops Q (o :: rest) a (w.alloc (.cells #[nm y] 9)) := by
  obtain ⟨i0, hi, hz0, hz1, hz2⟩ := info_parts infoN
  subst hn
  rw [← hD] at h
  refine wpList_append_lies (w.alloc (.cells #[nm y] 9)) hgd s x _ ho base 9 i0 _ 1 16 Try.underlying30 hi hz0 hz1 hz2 rfl (by decide) _ _ _ hs (World.ownsRow.alloc hown _) ⟨w.heap.size, 0, none⟩ 1 1 [nm y] hx rfl
    (fun j u hu => by
      rcases j with _ | j
      · simp at hu; subst hu; simp [Addr.add]
      · simp at hu)
    (fun u hu => by rw [List.mem_singleton] at hu; subst hu; rfl) (by decide) (by unfold maxLen; omega) (by omega) (by simp; omega) _ rfl ?_
  intro g' cap w' hown' hgrow hat hlt
  refine h (some ⟨g', 0, none⟩) cap w' ?_ ?_
  · unfold OwnN
    have hn : (xs ++ [y]).length = xs.length + 1 := by simp
    rw [hn]
    simpa using hown'
  · refine ((Below.refl base w).alloc hbase _).trans ((Below.refl base _).grown hgrow (by simp; omega) (fun k hk => ?_))
    rcases hown.2 with ⟨e, e0⟩ | ⟨g, cap, cur, e, hb, _⟩
    · rw [e] at hk; cases hk
    · rw [e] at hk; simp [Value.ownBlock] at hk; omega
theorem ownN_over {base : Nat} {w w' : World} {B : Option Addr} {d : Nat} {xs : List Key} (h : OwnN base w B d xs) (hb : Below w.heap.size w w') : OwnN base w' B d xs := by
  rcases h.2 with ⟨e, e2⟩ | ⟨g', cap, cur, e, h1, h2, h3⟩
  · exact ⟨h.1, .inl ⟨e, e2⟩⟩
  · exact ⟨h.1, .inr ⟨g', cap, cur, e, h1, (hb.block g' (Array.getElem?_eq_some_iff.1 h2).1).trans h2, h3⟩⟩
theorem ownN_low {base base' : Nat} {w : World} {B : Option Addr} {d : Nat} {xs : List Key} (h : OwnN base w B d xs) (hb : base' ≤ base) : OwnN base' w B d xs := by
  rcases h.2 with ⟨e, e2⟩ | ⟨g', cap, cur, e, h1, h2, h3⟩
  · exact ⟨h.1, .inl ⟨e, e2⟩⟩
  · exact ⟨h.1, .inr ⟨g', cap, cur, e, by omega, h2, h3⟩⟩
/-- The sorted names. -/
theorem keys_any (g b : Nat) (st : Files) (w : World) (h : DiskAt FR w g b st) (hst : st.length ≤ 1000000) :
    Calls Try.prog 29 #[.func (.func 35) #[] #[.pointer (some ⟨w.heap.size, 0, none⟩)]] (w.alloc (.cells #[.map (some b)] 37)) fun e w' =>
      ∃ A c, e = .returned (.slice A st.length c) ∧ SlN w' A ((st.map (·.1)).mergeSort fun x y => decide (x ≤ y)) ∧ Below w.heap.size w w' := by
  obtain ⟨es, hm, hd⟩ := h.map
  have hsz : Maps.size (DataW.map es) = st.length := by rw [← hd.size]; rfl
  have hk := hd.keys
  refine ((callsIn_wide (n := 5)).1 (Try.slices_Sorted_keys_29_30 b es.length (.map es) rawR w hm (by rw [hsz]; unfold maxLen; omega) (by rw [hsz]; omega))).mono ?_
  rintro e w' ⟨v, ss, rfl, hp, hrow, hnil, hb⟩
  rw [hk] at hp
  have hl : ss.length = st.length := by rw [hp.length_eq, List.length_map]
  have hms : (ss.mergeSort fun x y => decide (x ≤ y)) = (st.map (·.1)).mergeSort fun x y => decide (x ≤ y) := mergeSort_of_perm hp
  rw [hms, hl] at hrow
  obtain ⟨B, d, rfl, -, -⟩ := own_form hrow
  exact ⟨B, d, rfl, sln_of_own (ks := (st.map (·.1)).mergeSort fun x y => decide (x ≤ y)) hrow, nextA (Below.refl _ w) hb⟩
theorem filter_snoc (q : Key → Bool) (l : List Key) (x : Key) : (l ++ [x]).filter q = if q x = true then l.filter q ++ [x] else l.filter q := by
  rw [List.filter_append]
  by_cases h : q x = true
  · simp [h]
  · simp [h]
set_option maxHeartbeats 1000000 in
set_option maxRecDepth 100000 in
theorem names_any (G : Nat) (p : Fil → Bool) (hG : ∀ args W, (callFunc G args).run Try.prog W = .ok (.enter G args) W)
    (hC : ∀ (W : World) (A : Option Addr) (c : Nat) (B : Option Addr) (d : Nat) (L : Option Addr) (e : Nat) (f : Fil), Calls Try.prog G #[filVal A c B d L e f] W fun x w' => x = .returned (.bool (p f)) ∧ Below W.heap.size W w')
    (g b : Nat) (st : Files) (w : World) (h : DiskAt FR w g b st) (hst : st.length ≤ 100000) (hks : ∀ q ∈ st, q.1.length ≤ 1000000) :
    Calls Try.prog 22 #[.pointer (some ⟨g, 0, none⟩), .func (.func G) #[] #[]] w fun e w' => ∃ A c, e = .returned (.slice A (stNames p st).length c) ∧ OwnN w.heap.size w' A c (stNames p st) ∧ Below w.heap.size w w' := by
  have C1 := Lib.hid (there_any g b st w h)
  have C2 := Lib.hid ((callsIn_wide (n := 5)).1 (Try.maps_Keys_30 (some b) w))
  have C3 := Lib.hid (keys_any g b st w h (by omega))
  have cg := h.row.cell 0
  simp at cg
  have H := Lib.hid h
  have HG := Lib.hid hG
  have HC := Lib.hid hC
  have hnl : ((st.map (·.1)).mergeSort fun x y => decide (x ≤ y)).length = st.length := by rw [List.length_mergeSort, List.length_map]
  have hnk : ∀ x ∈ ((st.map (·.1)).mergeSort fun x y => decide (x ≤ y)), x.length ≤ 1000000 := fun x hx => by
    have := (List.mergeSort_perm (st.map (·.1)) _).mem_iff.1 hx
    obtain ⟨q, hq, rfl⟩ := List.mem_map.1 this
    exact hks q hq
  have hdef : stNames p st = ((st.map (·.1)).mergeSort fun x y => decide (x ≤ y)).filter fun k => p (stGet st k) := rfl
  rw [hdef]
  generalize ((st.map (·.1)).mergeSort fun x y => decide (x ≤ y)) = ns at *
  have HNK := Lib.hid hnk
  clear h hdef hG hC hks hnk
  go_enter Try.func22, Try.ntmps22
  go_wp2_with fail
  refine C1.out.mono ?_
  rintro e w1 ⟨rfl, rfl⟩
  go_wp2_with fail
  refine C2.out.mono ?_
  rintro e w1 ⟨rfl, rfl⟩
  go_wp2_with fail
  refine C3.out.mono ?_
  rintro e w2 ⟨A, c, rfl, hsn, hb2⟩
  have SN := Lib.hid hsn
  have B2 := Lib.hid hb2
  clear hsn hb2 C1 C2 C3
  go_wp2_with fail
  go_loopw [5, 18] (fun v i wr => ∃ (k : Nat) (B : Option Addr) (d : Nat), k ≤ ns.length ∧ i = .int .i64 k ∧ v = .slice B ((ns.take k).filter fun k => p (stGet st k)).length d ∧ OwnN w2.heap.size wr B d ((ns.take k).filter fun k => p (stGet st k)) ∧ Below w2.heap.size w2 wr)
    (fun _ i _ => ns.length - (intOf i).toNat)
  case atStart => exact ⟨0, none, 0, by omega, rfl, rfl, OwnN.nil _ _, Below.refl _ _⟩
  case round =>
    obtain ⟨k, B, d, hk, rfl, rfl, hown, hnx⟩ := hrel
    have HO := Lib.hid hown
    have HN := Lib.hid hnx
    have HQ := Lib.hid (nextC B2.out hnx)
    have hz := hnx.size
    have cg2 := (H.out.below HQ.out).row.cell 0
    simp at cg2
    clear hown hnx
    by_cases hlt : k < ns.length
    · obtain ⟨ad, rfl, hb, hc0⟩ := SN.out k hlt
      have hc := (Stays.below (FR := Nobody) HN.out).cell _ _ (fun h => h) hc0
      have hfl : ((ns.take k).filter fun k => p (stGet st k)).length ≤ k := by
        have := List.length_filter_le (fun k => p (stGet st k)) (ns.take k)
        rw [List.length_take] at this
        omega
      have hsn := filter_snoc (fun k => p (stGet st k)) (ns.take k) ns[k]
      rw [← List.take_succ_eq_append_getElem hlt] at hsn
      have hyl := HNK.out ns[k] (List.getElem_mem _)
      obtain ⟨y, hy⟩ : ∃ y, ns[k] = y := ⟨_, rfl⟩
      rw [hy] at hc hsn hyl
      obtain ⟨A1, c1, B1, d1, L1, e1, hrun, -⟩ := (H.out.below HQ.out).look y hyl
      have C5 := Lib.hid (HC.out wr A1 c1 B1 d1 L1 e1 (stGet st y))
      have HSN := Lib.hid hsn
      clear hsn hy hc0
      generalize (ns.take k).filter (fun k => p (stGet st k)) = o at *
      generalize filVal A1 c1 B1 d1 L1 e1 (stGet st y) = fv at *
      have hG := HG.out
      go_wp2_with fail
      refine C5.out.mono ?_
      rintro e w3 ⟨rfl, hb3⟩
      have HO3 := Lib.hid (ownN_over HO.out hb3)
      have HN3 := Lib.hid (nextC HN.out hb3)
      have hz3 := HN3.out.size
      clear hb3 HO HN
      by_cases hp : p (stGet st y) = true
      · rw [hp]
        go_wp2_with (at_builtin; refine app1N rfl 33 rfl _ _ rfl w2.heap.size B _ d o y rfl rfl HO3.out rfl hz3 (by omega) ?_)
        intro B' d' w4 hown4 hb4
        have HO4 := Lib.hid hown4
        have HN4 := Lib.hid (HN3.out.trans hb4)
        clear hown4
        go_wp2_with fail
        go_round
        case rel =>
          have ex := HSN.out.trans (if_pos hp)
          exact ⟨k + 1, B', d', by omega, by go_num, by rw [ex, List.length_append]; rfl, by rw [ex]; exact HO4.out, HN4.out⟩
        case measure => simp [intOf]; omega
      · rw [Bool.not_eq_true] at hp
        rw [hp]
        go_wp2_with fail
        go_round
        case rel =>
          have ex := HSN.out.trans (if_neg (by rw [hp]; simp))
          exact ⟨k + 1, B, d, by omega, by go_num, by rw [ex], by rw [ex]; exact HO3.out, HN3.out⟩
        case measure => simp [intOf]; omega
    · have e : k = ns.length := by omega
      subst e
      go_wp2_with fail
      go_ret
      rw [List.take_length] at HO ⊢
      exact ⟨B, d, rfl, ownN_low HO.out B2.out.size, HQ.out⟩
theorem names1_any (W : World) (A : Option Addr) (c : Nat) (B : Option Addr) (d : Nat) (L : Option Addr) (e : Nat) (f : Fil) : Calls Try.prog 26 #[filVal A c B d L e f] W fun x w' => x = .returned (.bool (nowF f)) ∧ Below W.heap.size W w' := by
  unfold filVal nowF
  go_enter Try.func26, Try.ntmps26
  go_wp2_with fail
  go_ret
  exact ⟨rfl, by first | exact Below.refl _ _ | exact (Below.refl _ _).alloc (Nat.le_refl _) _⟩
theorem loose1_any (W : World) (A : Option Addr) (c : Nat) (B : Option Addr) (d : Nat) (L : Option Addr) (e : Nat) (f : Fil) : Calls Try.prog 23 #[filVal A c B d L e f] W fun x w' => x = .returned (.bool (looseF f)) ∧ Below W.heap.size W w' := by
  unfold filVal looseF
  go_enter Try.func23, Try.ntmps23
  go_wp2_with fail
  go_ret
  exact ⟨by simp, by first | exact Below.refl _ _ | exact (Below.refl _ _).alloc (Nat.le_refl _) _⟩
theorem Names_any (g b : Nat) (st : Files) (w : World) (h : DiskAt FR w g b st) (hst : st.length ≤ 100000) (hks : ∀ q ∈ st, q.1.length ≤ 1000000) :
    Calls Try.prog 15 #[.pointer (some ⟨g, 0, none⟩)] w fun e w' => ∃ A c, e = .returned (.slice A (stNames nowF st).length c) ∧ OwnN w.heap.size w' A c (stNames nowF st) ∧ Below w.heap.size w w' := by
  have C := Lib.hid (names_any 26 nowF (fun _ _ => rfl) names1_any g b st w h hst hks)
  clear h
  go_enter Try.func15, Try.ntmps15
  go_wp2_with fail
  refine C.out.mono ?_
  rintro e w1 ⟨A, c, rfl, h1, h2⟩
  go_wp2_with fail
  go_ret
  exact ⟨A, c, rfl, h1, h2⟩
theorem Loose_any (g b : Nat) (st : Files) (w : World) (h : DiskAt FR w g b st) (hst : st.length ≤ 100000) (hks : ∀ q ∈ st, q.1.length ≤ 1000000) :
    Calls Try.prog 11 #[.pointer (some ⟨g, 0, none⟩)] w fun e w' => ∃ A c, e = .returned (.slice A (stNames looseF st).length c) ∧ OwnN w.heap.size w' A c (stNames looseF st) ∧ Below w.heap.size w w' := by
  have C := Lib.hid (names_any 23 looseF (fun _ _ => rfl) loose1_any g b st w h hst hks)
  clear h
  go_enter Try.func11, Try.ntmps11
  go_wp2_with fail
  refine C.out.mono ?_
  rintro e w1 ⟨A, c, rfl, h1, h2⟩
  go_wp2_with fail
  go_ret
  exact ⟨A, c, rfl, h1, h2⟩
theorem many_any (g b : Nat) (st : Files) (w : World) (h : DiskAt FR w g b st) (hst : st.length ≤ 100000) (hks : ∀ q ∈ st, q.1.length ≤ 1000000) :
    Calls Try.prog 18 #[.pointer (some ⟨g, 0, none⟩)] w fun e w' => e = .returned (.int .i64 (stNames nowF st).length) ∧ Below w.heap.size w w' := by
  have C := Lib.hid (Names_any g b st w h hst hks)
  clear h
  go_enter Try.func18, Try.ntmps18
  go_wp2_with fail
  refine C.out.mono ?_
  rintro e w1 ⟨A, c, rfl, h1, h2⟩
  go_wp2_with fail
  go_ret
  exact ⟨rfl, h2⟩
end Go.Proofs.Ytbdhdnkpdpcgnaa
