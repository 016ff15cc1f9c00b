/- Contract of the reference's Reach: the search that goes wide. -/
import Derived.Test.YtceeopjmdfefjaaGrD
import Derived.Test.YtceeopjmdfefjaaAppP
namespace Go.Proofs.Ytceeopjmdfefjaa
set_option linter.unusedVariables false
open Go.RowKit Go.Sort
/-- Two rows of the call's own, in a world. -/
structure RB (w0 : World) (B : Option Addr) (d : Nat) (seen : List Int) (M : Option Addr) (m : Nat) (more : List Int) (w : World) : Prop where
  own1 : OwnU w0.heap.size w B d seen
  own2 : OwnU w0.heap.size w M m more
  ap : ob B = none ∨ ob B ≠ ob M
  kp : Below w0.heap.size w0 w
set_option maxHeartbeats 4000000 in
set_option maxRecDepth 100000 in
theorem refReach_any (A : Option Addr) (c : Nat) (l : List Nd) (fr tg : Int) (w : World) (h : NdS w A l) (hl : l.length ≤ 64) (hd : ∀ n ∈ l, n.deps.length ≤ 12) :
    Calls Try.prog 16 #[.slice A l.length c, .int .u64 fr, .int .u64 tg] w fun e w' => e = .returned (.bool (rchB l fr tg)) ∧ Below w.heap.size w w' := by
  have d1 : decide ((64 : Int) < (l.length : Int)) = false := decide_eq_false (by omega)
  have hal := allD_len l hd
  have H := Lib.hid h
  have HD := Lib.hid hd
  clear h hd
  go_enter Try.func16, Try.ntmps16
  go_wp2_with fail
  go_loopg [7, 8] 2001 (fun g v f wr => ∃ (B : Option Addr) (d : Nat) (seen : List Int) (first : Bool), v = .slice B seen.length d ∧ f = .bool first ∧ OwnU w.heap.size wr B d seen ∧ Below w.heap.size w wr ∧ Bfs l fr seen ∧ 2 * (1000 - seen.length) + (if first then 1 else 0) ≤ g ∧ g ≤ 2001)
  case atStart => exact ⟨some ⟨w.heap.size, 0, none⟩, 1, [fr], true, rfl, rfl, OwnU.made1 w fr, (Below.refl _ w).alloc (Nat.le_refl _) _, Bfs.start l fr, by simp, Nat.le_refl _⟩
  case round =>
    obtain ⟨B, d, seen, first, rfl, rfl, hown, hkp, hbf, hgb, hgk⟩ := hrel
    have OW := Lib.hid hown
    have KP := Lib.hid hkp
    have BF := Lib.hid hbf
    have hsl := hbf.len
    have GB := Lib.hid hgb
    clear hown hkp hbf hgb
    go_wp2_with fail
    go_loopw [9, 10] (fun m i wr => ∃ (k : Nat) (M : Option Addr) (mm : Nat) (more : List Int), k ≤ l.length ∧ i = .int .i64 k ∧ m = .slice M more.length mm ∧ RB w B d seen M mm more wr ∧ Bfm l fr tg k 0 seen more) (fun _ i _ => l.length - (intOf i).toNat)
    case atStart => exact ⟨0, none, 0, [], by omega, rfl, rfl, ⟨OW.out, OwnU.nil _ _, by
      cases B with
      | none => exact .inl rfl
      | some a => exact .inr (by simp [ob, Value.ownBlock]), KP.out⟩, BF.out.begin tg⟩
    case round =>
      obtain ⟨k, M, mm, more, hk, rfl, rfl, hrb, hbm⟩ := hrel
      have RR := Lib.hid hrb
      have BM := Lib.hid hbm
      have hml : seen.length + more.length ≤ 1 + (allD l).length := by
        have h1 := BM.out.nd
        have h2 := nodup_le h1 (ys := fr :: allD l) fun x hx => by
          rcases List.mem_append.1 hx with hx | hx
          · rcases BF.out.s1 x hx with rfl | h1
            · simp
            · simp [h1.allD]
          · simp [(BM.out.m1 x hx).allD]
        rw [List.length_append, List.length_cons] at h2
        omega
      clear hrb hbm
      by_cases hlt : k < l.length
      · obtain ⟨ad, B1, c1, rfl, hb, h1, h2, hsl1, hn1, hle1, hc1⟩ := H.out k hlt
        have h1 := (RR.out.kp.cell (p := ad.add (k * 2)) (by rw [add_block]; exact hb)).trans h1
        have hskip := fun (hn : ¬ l[k].id ∈ seen) => BM.out.skip hlt hn
        have hdl := HD.out l[k] (List.getElem_mem _)
        obtain ⟨y, hy⟩ : ∃ y, l[k].id = y := ⟨_, rfl⟩
        obtain ⟨ds, hds⟩ : ∃ ds, l[k].deps = ds := ⟨_, rfl⟩
        rw [hy] at h1 hskip
        rw [hds] at h2 hsl1 hdl
        rw [show ad.add (k * 2 + 1) = ⟨(ad.add (k * 2)).block, (ad.add (k * 2)).off + 1, none⟩ by rw [← add_add]; rfl] at h2
        have HSL := Lib.hid hsl1
        have HSK := Lib.hid hskip
        have HY := Lib.hid hy
        have HDS := Lib.hid hds
        have H2 := Lib.hid h2
        have hbb : (⟨(ad.add (k * 2)).block, (ad.add (k * 2)).off + 1, none⟩ : Addr).block < w.heap.size := by show (ad.add (k * 2)).block < _; rw [add_block]; exact hb
        have HBB := Lib.hid hbb
        have C1 := Lib.hid (has_any B d seen y wr RR.out.own1.sl (by omega))
        clear hsl1 hskip hy hds hn1 hle1 hc1 h2 hbb hb
        go_wp2_with fail
        refine C1.out.mono ?_
        rintro e w3 ⟨rfl, rfl⟩
        by_cases hm : y ∈ seen
        · rw [decide_eq_true hm]
          have HM := Lib.hid hm
          clear hm C1 HSK
          go_wp2_with fail
          go_loopw [9, 11] (fun m i wr => ∃ (j : Nat) (M : Option Addr) (mm : Nat) (more : List Int), j ≤ ds.length ∧ i = .int .i64 j ∧ m = .slice M more.length mm ∧ RB w B d seen M mm more wr ∧ Bfm l fr tg k j seen more) (fun _ i _ => ds.length - (intOf i).toNat)
          case atStart => exact ⟨0, M, mm, more, by omega, rfl, rfl, RR.out, BM.out⟩
          case round =>
            obtain ⟨j, M3, m3, more3, hj, rfl, rfl, hrb, hbm⟩ := hrel
            have R4 := Lib.hid hrb
            have B4 := Lib.hid hbm
            have hml3 : seen.length + more3.length ≤ 1 + (allD l).length := by
              have h2 := nodup_le hbm.nd (ys := fr :: allD l) fun x hx => by
                rcases List.mem_append.1 hx with hx | hx
                · rcases BF.out.s1 x hx with rfl | h1
                  · simp
                  · simp [h1.allD]
                · simp [(hbm.m1 x hx).allD]
              rw [List.length_append, List.length_cons] at h2
              omega
            have h2 := (R4.out.kp.cell (p := ⟨(ad.add (k * 2)).block, (ad.add (k * 2)).off + 1, none⟩) HBB.out).trans H2.out
            clear hrb hbm RR BM h1
            by_cases hlj : j < ds.length
            · have hjl : j < l[k].deps.length := by rw [HDS.out]; exact hlj
              obtain ⟨dd, rfl, hdb, hdc⟩ := HSL.out j hlj
              have hc4 := (R4.out.kp.cell (p := dd.add j) (by rw [add_block]; exact hdb)).trans hdc
              obtain ⟨z, hz⟩ : ∃ z, ds[j] = z := ⟨_, rfl⟩
              have hzl : l[k].deps[j] = z := by rw [← hz]; simp [HDS.out]
              rw [hz] at hc4
              have HZ := Lib.hid hzl
              have HJL := Lib.hid hjl
              clear hdc hz hzl hdb
              by_cases ht : z = tg
              · subst ht
                have t2 : (z == z) = true := by simp
                go_wp2_with fail
                go_ret
                have hr := BF.out.reach hlt HJL.out (by rw [HY.out]; exact HM.out)
                rw [HZ.out] at hr
                exact ⟨by rw [(rchB_iff hl).2 hr]; rfl, R4.out.kp⟩
              · have t2 : (z == tg) = false := beq_eq_false_iff_ne.2 ht
                have HT := Lib.hid ht
                have C1 := Lib.hid (has_any B d seen z wr R4.out.own1.sl (by omega))
                have C2 := Lib.hid (has_any M3 m3 more3 z wr R4.out.own2.sl (by omega))
                clear ht
                go_wp2_with fail
                refine C1.out.mono ?_
                rintro e w4 ⟨rfl, rfl⟩
                by_cases hz1 : z ∈ seen
                · rw [decide_eq_true hz1]
                  have B5 := Lib.hid (B4.out.old hlt HJL.out (by rw [HZ.out]; exact HT.out) (.inl (by rw [HZ.out]; exact hz1)))
                  clear hz1 B4 C1 C2
                  go_wp2_with fail
                  go_roundw
                  case rel => exact ⟨j + 1, M3, m3, more3, by omega, by go_num, rfl, R4.out, B5.out⟩
                  case measure => simp [intOf]; omega
                · rw [decide_eq_false hz1]
                  have Z1 := Lib.hid hz1
                  clear hz1 C1
                  go_wp2_with fail
                  refine C2.out.mono ?_
                  rintro e w5 ⟨rfl, rfl⟩
                  by_cases hz2 : z ∈ more3
                  · rw [decide_eq_true hz2]
                    have B5 := Lib.hid (B4.out.old hlt HJL.out (by rw [HZ.out]; exact HT.out) (.inr (by rw [HZ.out]; exact hz2)))
                    clear hz2 B4 C2
                    go_wp2_with fail
                    go_roundw
                    case rel => exact ⟨j + 1, M3, m3, more3, by omega, by go_num, rfl, R4.out, B5.out⟩
                    case measure => simp [intOf]; omega
                  · rw [decide_eq_false hz2]
                    have B5 := B4.out.new BF.out hlt HJL.out (by rw [HY.out]; exact HM.out) (by rw [HZ.out]; exact HT.out) (by rw [HZ.out]; exact Z1.out) (by rw [HZ.out]; exact hz2)
                    rw [HZ.out] at B5
                    have B5 := Lib.hid B5
                    have hm700 : more3.length ≤ 700000 := by omega
                    clear hz2 B4 C2
                    go_wp2_with (at_builtin; refine app1P rfl 66 rfl _ _ rfl w.heap.size M3 _ m3 more3 z rfl rfl R4.out.own2 B d seen R4.out.own1 R4.out.ap rfl R4.out.kp.size (by omega) ?_; intro B' d' w6 ho1 ho2 hap hb6; have R7 := Lib.hid (RB.mk ho2 ho1 hap (R4.out.kp.trans hb6)); clear ho1 ho2 hap hb6)
                    go_roundw
                    case rel => exact ⟨j + 1, B', d', more3 ++ [z], by omega, by go_num, by rw [List.length_append]; rfl, R7.out, B5.out⟩
                    case measure => simp [intOf]; omega
            · obtain rfl : j = ds.length := by omega
              go_wp2_with fail
              go_roundw
              case rel => exact ⟨k + 1, M3, m3, more3, by omega, by go_num, rfl, R4.out, B4.out.next hlt (by rw [HDS.out]; exact Nat.le_refl _)⟩
              case measure => simp [intOf]; omega
        · rw [decide_eq_false hm]
          have B3 := Lib.hid (HSK.out hm)
          clear hm BM HSK C1
          go_wp2_with fail
          go_roundw
          case rel => exact ⟨k + 1, M, mm, more, by omega, by go_num, rfl, RR.out, B3.out⟩
          case measure => simp [intOf]; omega
      · obtain rfl : k = l.length := by omega
        by_cases hm0 : more = []
        · subst hm0
          rcases first with _ | _
          · go_wp2_with fail
            go_ret
            exact ⟨by rw [rchB_no (BM.out.none_ BF.out (Nat.le_refl _))]; rfl, RR.out.kp⟩
          · have gb : 2 * (1000 - seen.length) + 1 ≤ gk := by simpa using GB.out
            have hnil := RR.out.own2.nil_cap
            have HN := Lib.hid hnil
            clear hnil
            go_wp2_with (at_builtin; refine appSU rfl _ _ rfl w.heap.size B _ d seen rfl rfl RR.out.own1 M mm [] rfl RR.out.own2.sl HN.out RR.out.kp.size (by simp; omega) ?_; intro B' d' w6 ho1 hg6 hb6; have R7 := Lib.hid (And.intro ho1 (RR.out.kp.trans hb6)); clear ho1 hg6 hb6)
            go_roundg (2 * (1000 - seen.length))
            case measure => omega
            case rel => exact ⟨B', d', seen ++ [], false, by simp, rfl, R7.out.1, R7.out.2, BM.out.grow BF.out, by simp, by omega⟩
        · have hp : 0 < more.length := List.length_pos_iff.2 hm0
          have t0 : ((more.length : Int) == 0) = false := by simp; exact hm0
          have gb : 2 * (1000 - seen.length) ≤ gk := by
            have := GB.out
            omega
          have hnil := RR.out.own2.nil_cap
          have HN := Lib.hid hnil
          clear hnil hm0
          go_wp2_with (at_builtin; refine appSU rfl _ _ rfl w.heap.size B _ d seen rfl rfl RR.out.own1 M mm more rfl RR.out.own2.sl HN.out RR.out.kp.size (by omega) ?_; intro B' d' w6 ho1 hg6 hb6; have R7 := Lib.hid (And.intro ho1 (RR.out.kp.trans hb6)); clear ho1 hg6 hb6)
          go_roundg (2 * (1000 - (seen.length + more.length)))
          case measure => omega
          case rel => exact ⟨B', d', seen ++ more, false, by rw [List.length_append], rfl, R7.out.1, R7.out.2, BM.out.grow BF.out, by simp, by omega⟩
end Go.Proofs.Ytceeopjmdfefjaa
