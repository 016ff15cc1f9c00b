/- Contract of graph.Users. -/
import Derived.Test.YtceeopjmdfefjaaGrS
import Derived.Deep.DeepCutAuto
namespace Go.Proofs.Ytceeopjmdfefjaa
set_option linter.unusedVariables false
open Go.RowKit Go.Sort
/-- Those who wait, of the first k nodes. -/
def usK (l : List Nd) (id : Int) (k : Nat) : List Int := ((l.take k).filter (fun n => decide (id ∈ n.deps))).map (·.id)
theorem usK_yes {l : List Nd} {id : Int} {k : Nat} (hk : k < l.length) (h : id ∈ l[k].deps) : usK l id (k + 1) = usK l id k ++ [l[k].id] := by
  unfold usK
  rw [List.take_succ_eq_append_getElem hk, List.filter_append, List.filter_cons_of_pos (by simpa using h), List.map_append]
  rfl
theorem usK_no {l : List Nd} {id : Int} {k : Nat} (hk : k < l.length) (h : ¬ id ∈ l[k].deps) : usK l id (k + 1) = usK l id k := by
  unfold usK
  rw [List.take_succ_eq_append_getElem hk, List.filter_append, List.filter_cons_of_neg (by simpa using h)]
  simp
theorem usK_len (l : List Nd) (id : Int) (k : Nat) : (usK l id k).length ≤ k := by
  unfold usK
  rw [List.length_map]
  have := List.length_filter_le (fun n : Nd => decide (id ∈ n.deps)) (l.take k)
  rw [List.length_take] at this
  omega
theorem usK_all (l : List Nd) (id x : Int) : x ∈ usK l id l.length ↔ Edge l x id := by
  unfold usK
  rw [List.take_length, List.mem_map]
  constructor
  · rintro ⟨n, hn, rfl⟩
    have := List.mem_filter.1 hn
    exact ⟨n, this.1, rfl, of_decide_eq_true this.2⟩
  · rintro ⟨n, h1, h2, h3⟩
    exact ⟨n, List.mem_filter.2 ⟨h1, decide_eq_true h3⟩, h2⟩
theorem usr_set (l : List Nd) (id : Int) : Usr l id (setL (usK l id l.length)) := ⟨setL_rise _, fun x => (setL_mem _ x).trans (usK_all l id x)⟩
set_option maxHeartbeats 1000000 in
set_option maxRecDepth 100000 in
theorem users_any (A : Option Addr) (c : Nat) (l : List Nd) (id : Int) (w : World) (h : NdS w A l) (hl : l.length ≤ 64) (hd : ∀ n ∈ l, n.deps.length ≤ 1000000) :
    Calls Try.prog 13 #[.slice A l.length c, .int .u64 id] w fun e w' => ∃ B d us, e = .returned (.slice B us.length d) ∧ Usr l id us ∧ OwnU w.heap.size w' B d us ∧ Below w.heap.size w w' := by
  have d1 : decide ((64 : Int) < (l.length : Int)) = false := decide_eq_false (by omega)
  have H := Lib.hid h
  have HD := Lib.hid hd
  clear h hd
  go_enter Try.func13, Try.ntmps13
  go_wp2_with fail
  go_loopw [5, 13] (fun v i wr => ∃ (k : Nat) (B : Option Addr) (d : Nat), k ≤ l.length ∧ i = .int .i64 k ∧ v = .slice B (usK l id k).length d ∧ OwnU w.heap.size wr B d (usK l id k) ∧ Below w.heap.size w wr)
    (fun _ i _ => l.length - (intOf i).toNat)
  case atStart => exact ⟨0, none, 0, by omega, rfl, rfl, OwnU.nil _ _, Below.refl _ _⟩
  case round =>
    obtain ⟨k, B, d, hk, rfl, rfl, hown, hnx⟩ := hrel
    have HO := Lib.hid hown
    have HN := Lib.hid hnx
    clear hown hnx
    by_cases hlt : k < l.length
    · obtain ⟨ad, B1, c1, rfl, hb, h1, h2, hsl, hn1, hle1, hc1⟩ := (H.out.over HN.out) k hlt
      have hdl := HD.out l[k] (List.getElem_mem _)
      have hy := usK_yes (id := id) hlt
      have hn := usK_no (id := id) hlt
      obtain ⟨x, hx⟩ : ∃ x, l[k].id = x := ⟨_, rfl⟩
      obtain ⟨ds, hds⟩ : ∃ ds, l[k].deps = ds := ⟨_, rfl⟩
      have hul := usK_len l id k
      rw [hx] at h1
      rw [hds] at h2 hsl hle1 hdl
      rw [hx, hds] at hy
      rw [hds] at hn
      have HY := Lib.hid hy
      have HNO := Lib.hid hn
      have HSL := Lib.hid hsl
      clear hx hds hy hn hsl hn1 hle1 hc1
      generalize usK l id k = o at *
      rw [show ad.add (k * 2 + 1) = ⟨(ad.add (k * 2)).block, (ad.add (k * 2)).off + 1, none⟩ by rw [← add_add]; rfl] at h2
      go_upto_region 7 with fail
      obtain ⟨W3, hW3⟩ : ∃ W3, wr.alloc (.cells #[.int .u64 x, .slice B1 ds.length c1] 35) = W3 := ⟨_, rfl⟩
      have rC : Row W3 wr.heap.size 35 #[.int .u64 x, .slice B1 ds.length c1] := by rw [← hW3]; exact Row.new wr _ _
      have b3 : Below wr.heap.size wr W3 := by rw [← hW3]; exact (Below.refl _ wr).alloc (Nat.le_refl _) _
      rw [hW3]
      have z0 := rC.cell 0
      have z1 := rC.cell 1
      simp at z0 z1
      have C1 := Lib.hid (contains_any B1 c1 ds id W3 (HSL.out.over b3) (by omega))
      have HO3 := Lib.hid (HO.out.over b3)
      have HN3 := Lib.hid (nextC HN.out b3)
      have hz3 := HN3.out.size
      clear hW3 rC b3 HO HN h1 h2 hb
      go_wp2_with fail
      refine C1.out.mono ?_
      rintro e w4 ⟨rfl, rfl⟩
      by_cases hm : id ∈ ds
      · rw [decide_eq_true hm]
        have hy2 := HY.out hm
        have HY2 := Lib.hid hy2
        clear hy2 hm C1 HY HNO
        go_wp2_with (at_builtin; refine app1U rfl _ _ rfl w.heap.size B _ d o x rfl rfl HO3.out rfl hz3 (by omega) ?_)
        intro B' d' w5 hown5 hg5 hb5
        have HO5 := Lib.hid hown5
        have HN5 := Lib.hid (HN3.out.trans hb5)
        clear hown5 hb5 hg5
        go_wp2_with fail
        go_roundw
        case rel => exact ⟨k + 1, B', d', by omega, by go_num, by rw [HY2.out, List.length_append]; rfl, by rw [HY2.out]; exact HO5.out, HN5.out⟩
        case measure => simp [intOf]; omega
      · rw [decide_eq_false hm]
        have hn2 := HNO.out hm
        have HN2 := Lib.hid hn2
        clear hn2 hm C1 HY HNO
        go_wp2_with fail
        go_roundw
        case rel => exact ⟨k + 1, B, d, by omega, by go_num, by rw [HN2.out], by rw [HN2.out]; exact HO3.out, HN3.out⟩
        case measure => simp [intOf]; omega
    · have e : k = l.length := by omega
      subst e
      have hul := usK_len l id l.length
      have hus := usr_set l id
      obtain ⟨o, ho⟩ : ∃ o, usK l id l.length = o := ⟨_, rfl⟩
      rw [ho] at HO hul hus
      have HUS := Lib.hid hus
      clear hus
      have C1 := Lib.hid (sort_own w.heap.size B d o wr HO.out (by omega))
      rw [ho]
      go_wp2_with fail
      refine C1.out.mono ?_
      rintro e w2 ⟨rfl, hown2, hg2⟩
      have hown2 : OwnU w.heap.size w2 B d (srt o) := by unfold OwnU; rw [srt_len]; exact hown2
      have hb2 : Below w.heap.size w w2 := HN.out.grown hg2 HN.out.size (fun j hj => OwnU.base_ (n := 0) HO.out (by
        cases B with
        | none => cases hj
        | some a => exact hj))
      have C2 := compact_own w.heap.size B d (srt o) w2 hown2 (by rw [srt_len]; omega)
      rw [srt_len] at C2
      have C2 := Lib.hid C2
      have HO2 := Lib.hid hown2
      have HB2 := Lib.hid hb2
      clear hown2 hb2 hg2 C1 HO HN
      go_wp2_with fail
      refine C2.out.mono ?_
      rintro e w3 ⟨rfl, hown3, hg3⟩
      have hb3 : Below w.heap.size w w3 := HB2.out.grown hg3 HB2.out.size (fun j hj => OwnU.base_ (n := 0) hown3 (by
        cases B with
        | none => cases hj
        | some a => exact hj))
      have HB3 := Lib.hid hb3
      have HO3 := Lib.hid hown3
      clear hown3 hb3 hg3
      go_wp2_with fail
      go_ret
      exact ⟨B, d, setL o, rfl, HUS.out, HO3.out, HB3.out⟩
set_option maxHeartbeats 1000000 in
set_option maxRecDepth 100000 in
theorem users_long (A : Option Addr) (c n : Nat) (id : Int) (w : World) (hl : 64 < n) :
    Calls Try.prog 13 #[.slice A n c, .int .u64 id] w fun e w' => e = .returned (.slice none 0 0) ∧ w' = w := by
  have d1 : (64 : Int) < (n : Int) := by omega
  clear hl
  go_enter Try.func13, Try.ntmps13
  go_wp2_with fail
  go_ret
  exact ⟨rfl, rfl⟩
end Go.Proofs.Ytceeopjmdfefjaa
