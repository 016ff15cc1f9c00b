/- Contract of the reference's Order: the least ready one next. -/
import Derived.Test.YtceeopjmdfefjaaGrG
namespace Go.Proofs.Ytceeopjmdfefjaa
set_option linter.unusedVariables false
open Go.RowKit Go.Sort
/-- The best of the first k by a test: -1, or a place. -/
def PB (l : List Nd) (C : Nd → Prop) (k : Nat) (bz : Int) : Prop :=
  (bz = -1 ∧ ∀ n ∈ l.take k, ¬ C n) ∨ ∃ b : Nat, ∃ (hb : b < l.length), bz = b ∧ C l[b] ∧ ∀ n ∈ l.take k, C n → l[b].id ≤ n.id
section
variable {l : List Nd} {C : Nd → Prop} {k : Nat} {bz : Int}
theorem PB.no (h : PB l C k bz) (hk : k < l.length) (hc : ¬ C l[k]) : PB l C (k + 1) bz := by
  rcases h with ⟨h1, h2⟩ | ⟨b, hb, h1, h2, h3⟩
  · exact .inl ⟨h1, fun n hn => by
      rcases mem_take_nd hk hn with h | rfl
      · exact h2 n h
      · exact hc⟩
  · exact .inr ⟨b, hb, h1, h2, fun n hn hu => by
      rcases mem_take_nd hk hn with h | rfl
      · exact h3 n h hu
      · exact absurd hu hc⟩
theorem PB.first (hk : k < l.length) (h : ∀ n ∈ l.take k, ¬ C n) (hc : C l[k]) : PB l C (k + 1) k := .inr ⟨k, hk, rfl, hc, fun n hn hu => by
  rcases mem_take_nd hk hn with h2 | rfl
  · exact absurd hu (h n h2)
  · exact Int.le_refl _⟩
theorem PB.less {b : Nat} (hk : k < l.length) (hb : b < l.length) (h3 : ∀ n ∈ l.take k, C n → l[b].id ≤ n.id) (hc : C l[k]) (hlt : l[k].id < l[b].id) : PB l C (k + 1) k := .inr ⟨k, hk, rfl, hc, fun n hn hu => by
  rcases mem_take_nd hk hn with h2 | rfl
  · have := h3 n h2 hu; omega
  · exact Int.le_refl _⟩
theorem PB.keep {b : Nat} (hk : k < l.length) (hb : b < l.length) (h2 : C l[b]) (h3 : ∀ n ∈ l.take k, C n → l[b].id ≤ n.id) (hlt : ¬ l[k].id < l[b].id) : PB l C (k + 1) b := .inr ⟨b, hb, rfl, h2, fun n hn hu => by
  rcases mem_take_nd hk hn with h4 | rfl
  · exact h3 n h4 hu
  · omega⟩
end
/-- One is ready. -/
def RC (out : List Int) (n : Nd) : Prop := ¬ n.id ∈ out ∧ ∀ d ∈ n.deps, d ∈ out
theorem RC.pick {l : List Nd} {out : List Int} {b : Nat} (hb : b < l.length) (h2 : RC out l[b]) (h3 : ∀ n ∈ l, RC out n → l[b].id ≤ n.id) : IsPick l out l[b].id :=
  ⟨⟨l[b], List.getElem_mem _, rfl, h2⟩, fun j ⟨n, hn, e, hr⟩ => by rw [← e]; exact h3 n hn (by rw [← e] at hr; exact hr)⟩
theorem RC.ends {l : List Nd} {out : List Int} (ho : Ord l out) (h : ∀ n ∈ l, ¬ RC out n) : Ends l out := ⟨ho, fun i ⟨n, hn, e, hr⟩ => h n hn (by rw [← e] at hr; exact hr)⟩
theorem full_ends {l : List Nd} {out : List Int} (ho : Ord l out) (h : l.length ≤ out.length) : Ends l out := ⟨ho, fun i ⟨n, hn, e, hr⟩ => by
  have := nodup_all ho.nodup ho.mem (by rw [ids, List.length_map]; exact h) i (mem_ids.2 ⟨n, hn, e⟩)
  exact hr.1 this⟩
theorem not_stuck {l : List Nd} {out : List Int} (hm : mayE l = 0) (he : Ends l out) : ¬ out.length < l.length := fun h => by
  have := order_whole hm he
  omega
set_option maxHeartbeats 4000000 in
set_option maxRecDepth 100000 in
theorem refOrder_any (A : Option Addr) (c : Nat) (l : List Nd) (w : World) (h : NdS w A l) (hl : l.length ≤ 64) (hlc : l.length ≤ c) (hd : ∀ n ∈ l, n.deps.length ≤ 1000000) :
    Calls Try.prog 9 #[.slice A l.length c] w fun e w' => Below w.heap.size w w' ∧ ((mayE l ≠ 0 ∧ e = .returned (.tuple #[.slice none 0 0, .int .i64 (mayE l)])) ∨
      (mayE l = 0 ∧ ∃ B d out, e = .returned (.tuple #[.slice B out.length d, .int .i64 0]) ∧ Ends l out ∧ OwnU w.heap.size w' B d out)) := by
  have C0 := Lib.hid (refMay_any A c l w h hl hlc hd)
  have H := Lib.hid h
  have HD := Lib.hid hd
  obtain ⟨e0, he0⟩ : ∃ e0, mayE l = e0 := ⟨_, rfl⟩
  rw [he0] at C0 ⊢
  have HE := Lib.hid he0
  clear h hd he0
  by_cases h0 : e0 = 0
  · subst h0
    go_enter Try.func9, Try.ntmps9
    go_wp2_with fail
    refine C0.out.mono ?_
    rintro e w1 ⟨rfl, hb1⟩
    have K1 := Lib.hid hb1
    clear hb1 C0
    go_wp2_with fail
    go_loopg [5] 65 (fun g v wr => ∃ (B : Option Addr) (d : Nat) (out : List Int), v = .slice B out.length d ∧ OwnU w.heap.size wr B d out ∧ Below w.heap.size w wr ∧ Ord l out ∧ 65 - out.length ≤ g)
    case atStart => exact ⟨none, 0, [], rfl, OwnU.nil _ _, K1.out, Ord.nil, by simp⟩
    case round =>
      obtain ⟨B, d, out, rfl, hown, hkp, huo, hg⟩ := hrel
      have OW := Lib.hid hown
      have KP := Lib.hid hkp
      have UU := Lib.hid huo
      have hol := huo.le
      clear hown hkp huo K1
      by_cases hfull : out.length < l.length
      · go_wp2_with fail
        go_loopw [6, 7] (fun b i wr => ∃ (k : Nat) (bz : Int), k ≤ l.length ∧ i = .int .i64 k ∧ b = .int .i64 bz ∧ OwnU w.heap.size wr B d out ∧ Below w.heap.size w wr ∧ PB l (RC out) k bz) (fun _ i _ => l.length - (intOf i).toNat)
        case atStart => exact ⟨0, -1, by omega, rfl, rfl, OW.out, KP.out, .inl ⟨rfl, fun n hn => by simp at hn⟩⟩
        case round =>
          obtain ⟨k, bz, hk, rfl, rfl, hown, hkp, hub⟩ := hrel
          have O2 := Lib.hid hown
          have K2 := Lib.hid hkp
          have U2 := Lib.hid hub
          clear hown hkp hub OW KP
          by_cases hlt : k < l.length
          · obtain ⟨ad, B1, c1, rfl, hb, h1, h2, hsl, hn1, hle1, hc1⟩ := (H.out.over K2.out) k hlt
            have hdl := HD.out l[k] (List.getElem_mem _)
            have hNO := fun (hc : ¬ RC out l[k]) => U2.out.no hlt hc
            have hUC : RC out l[k] ↔ (¬ l[k].id ∈ out ∧ ∀ d ∈ l[k].deps, d ∈ out) := Iff.rfl
            obtain ⟨y, hy⟩ : ∃ y, l[k].id = y := ⟨_, rfl⟩
            obtain ⟨ds, hds⟩ : ∃ ds, l[k].deps = ds := ⟨_, rfl⟩
            rw [hy] at h1
            rw [hds] at h2 hsl hdl
            rw [hy, hds] at hUC
            have C1 := Lib.hid (has_any B d out y wr O2.out.sl (by omega))
            have HUC := Lib.hid hUC
            have HY := Lib.hid hy
            have HSL := Lib.hid hsl
            rw [show ad.add (k * 2 + 1) = ⟨(ad.add (k * 2)).block, (ad.add (k * 2)).off + 1, none⟩ by rw [← add_add]; rfl] at h2
            have HNO := Lib.hid hNO
            clear hUC hy hds hsl hn1 hle1 hc1 hNO hb
            go_wp2_with fail
            refine C1.out.mono ?_
            rintro e w3 ⟨rfl, rfl⟩
            obtain ⟨r0, hr0⟩ : ∃ r0, (!decide (y ∈ out)) = r0 := ⟨_, rfl⟩
            have R0 := Lib.hid (show r0 = true ↔ ¬ y ∈ out by rw [← hr0]; simp)
            rw [show decide (y ∈ out) = !r0 by rw [← hr0]; simp]
            clear hr0 C1
            have hnn : (!(!r0)) = r0 := by simp
            go_wp2_with fail
            go_loopw [8, 9] (fun r i wr2 => ∃ (j : Nat) (rb : Bool), j ≤ ds.length ∧ i = .int .i64 j ∧ r = .bool rb ∧ wr2 = w3 ∧ (rb = true ↔ (¬ y ∈ out ∧ ∀ d ∈ ds.take j, d ∈ out))) (fun _ i _ => ds.length - (intOf i).toNat)
            case atStart => exact ⟨0, r0, by omega, rfl, by simp, by first | rfl | trivial, by rw [R0.out]; simp⟩
            case round =>
              obtain ⟨j, rb, hj, rfl, rfl, rfl, hrb⟩ := hrel
              have RR := Lib.hid hrb
              clear hrb R0
              by_cases hlj : j < ds.length
              · obtain ⟨dd, rfl, hdb, hdc⟩ := HSL.out j hlj
                have htj : ds.take (j + 1) = ds.take j ++ [ds[j]] := List.take_succ_eq_append_getElem hlj
                obtain ⟨z, hz⟩ : ∃ z, ds[j] = z := ⟨_, rfl⟩
                rw [hz] at hdc htj
                have HTJ := Lib.hid htj
                have C2 := Lib.hid (has_any B d out z _ O2.out.sl (by omega))
                clear hz htj hdb
                rcases rb with _ | _
                · clear C2
                  go_wp2_with fail
                  go_roundw
                  case rel => exact ⟨j + 1, false, by omega, by go_num, rfl, by first | rfl | trivial, ⟨fun h => (by cases h), fun h => absurd (RR.out.2 ⟨h.1, fun d hd => h.2 d (by rw [HTJ.out]; simp [hd])⟩) (by simp)⟩⟩
                  case measure => simp [intOf]; omega
                · go_wp2_with fail
                  refine C2.out.mono ?_
                  rintro e w5 ⟨rfl, rfl⟩
                  have hq := RR.out.1 (by first | rfl | trivial)
                  have HQ := Lib.hid hq
                  clear hq C2
                  by_cases hzo : z ∈ out
                  · rw [decide_eq_true hzo]
                    have HZ := Lib.hid hzo
                    clear hzo
                    go_wp2_with fail
                    go_roundw
                    case rel => exact ⟨j + 1, true, by omega, by go_num, rfl, by first | rfl | trivial, ⟨fun _ => ⟨HQ.out.1, fun d hd => by
                      rw [HTJ.out] at hd
                      rcases List.mem_append.1 hd with h | h
                      · exact HQ.out.2 d h
                      · rw [List.mem_singleton] at h; rw [h]; exact HZ.out⟩, fun _ => rfl⟩⟩
                    case measure => simp [intOf]; omega
                  · rw [decide_eq_false hzo]
                    have HZ := Lib.hid hzo
                    clear hzo
                    go_wp2_with fail
                    go_roundw
                    case rel => exact ⟨j + 1, false, by omega, by go_num, rfl, by first | rfl | trivial, ⟨fun h => (by cases h), fun h => absurd (h.2 z (by rw [HTJ.out]; simp)) HZ.out⟩⟩
                    case measure => simp [intOf]; omega
              · obtain rfl : j = ds.length := by omega
                have hrr := RR.out
                rw [List.take_length, ← HUC.out] at hrr
                have HRR := Lib.hid hrr
                clear hrr RR
                rcases rb with _ | _
                · have U3 := Lib.hid (HNO.out fun h => (by have := HRR.out.2 h; cases this))
                  clear HNO
                  go_wp2_with fail
                  go_big_quiet (fail)
                  go_wp2_with fail
                  go_roundw
                  case rel => exact ⟨k + 1, bz, by omega, by go_num, rfl, O2.out.drewN _, below_drewN K2.out _, U3.out⟩
                  case measure => simp [intOf]; omega
                · have HC := Lib.hid (HRR.out.1 (by first | rfl | trivial))
                  clear HNO HRR
                  rcases U2.out with ⟨rfl, hz⟩ | ⟨b, hbl, rfl, hub, hmin⟩
                  · have U3 := Lib.hid (PB.first hlt hz HC.out)
                    clear U2 hz
                    go_wp2_with fail
                    go_big_quiet (fail)
                    go_wp2_with fail
                    go_roundw
                    case rel => exact ⟨k + 1, (k : Int), by omega, by go_num, rfl, O2.out.drewN _, below_drewN K2.out _, U3.out⟩
                    case measure => simp [intOf]; omega
                  · obtain ⟨ad2, B2, c2, e2, hb2, g1, g2, _⟩ := (H.out.over K2.out) b hbl
                    injection e2 with e2
                    subst e2
                    have hless := fun (h : l[k].id < l[b].id) => PB.less hlt hbl hmin HC.out h
                    have hkeep := fun (h : ¬ l[k].id < l[b].id) => PB.keep hlt hbl hub hmin h
                    obtain ⟨z, hz⟩ : ∃ z, l[b].id = z := ⟨_, rfl⟩
                    rw [hz] at g1 hless hkeep
                    rw [HY.out] at hless hkeep
                    have HL := Lib.hid hless
                    have HK := Lib.hid hkeep
                    have p0 : decide ((b : Int) < 0) = false := decide_eq_false (by omega)
                    clear U2 hub hmin hless hkeep hz g2 hb2
                    by_cases hyz : y < z
                    · have U3 := Lib.hid (HL.out hyz)
                      have p1 : decide (y < z) = true := decide_eq_true hyz
                      clear hyz HL HK
                      go_wp2_with fail
                      go_big_quiet (fail)
                      go_wp2_with fail
                      go_roundw
                      case rel => exact ⟨k + 1, (k : Int), by omega, by go_num, rfl, O2.out.drewN _, below_drewN K2.out _, U3.out⟩
                      case measure => simp [intOf]; omega
                    · have U3 := Lib.hid (HK.out hyz)
                      have p1 : decide (y < z) = false := decide_eq_false hyz
                      clear hyz HL HK
                      go_wp2_with fail
                      go_big_quiet (fail)
                      go_wp2_with fail
                      go_roundw
                      case rel => exact ⟨k + 1, (b : Int), by omega, by go_num, rfl, O2.out.drewN _, below_drewN K2.out _, U3.out⟩
                      case measure => simp [intOf]; omega
          · obtain rfl : k = l.length := by omega
            rcases U2.out with ⟨rfl, hz⟩ | ⟨b, hbl, rfl, hub, hmin⟩
            · rw [List.take_length] at hz
              exact absurd hfull (not_stuck HE.out (RC.ends UU.out hz))
            · rw [List.take_length] at hmin
              have U3 := Lib.hid (UU.out.snoc (RC.pick hbl hub hmin))
              obtain ⟨ad, B2, c2, rfl, hb2, g1, g2, _⟩ := (H.out.over K2.out) b hbl
              obtain ⟨z, hz⟩ : ∃ z, l[b].id = z := ⟨_, rfl⟩
              rw [hz] at g1 U3
              have p0 : decide ((b : Int) < 0) = false := decide_eq_false (by omega)
              clear U2 hub hmin hz g2 hb2
              go_wp2_with (at_builtin; refine app1U rfl _ _ rfl w.heap.size B _ d out z rfl rfl O2.out rfl K2.out.size (by omega) ?_; intro B' d' w6 hown6 hg6 hb6; have O6 := Lib.hid (And.intro hown6 (K2.out.trans hb6)); clear hown6 hg6 hb6)
              go_roundg (65 - (out.length + 1))
              case measure => omega
              case rel => exact ⟨B', d', out ++ [z], by rw [List.length_append]; rfl, O6.out.1, O6.out.2, U3.out, by rw [List.length_append, List.length_singleton]; omega⟩
      · have UE := Lib.hid (full_ends UU.out (by omega))
        have e1 : decide ((out.length : Int) < (l.length : Int)) = false := decide_eq_false (by omega)
        have e2 : decide (out.length < l.length) = false := decide_eq_false (by omega)
        clear hfull
        go_wp2_with fail
        go_ret2
        exact ⟨KP.out, .inr ⟨trivial, B, d, out, rfl, UE.out, OW.out⟩⟩
  · have t0 : (e0 != 0) = true := by simpa using h0
    go_enter Try.func9, Try.ntmps9
    go_wp2_with fail
    refine C0.out.mono ?_
    rintro e w1 ⟨rfl, hb1⟩
    go_wp2_with fail
    go_ret2
    exact ⟨hb1, .inl ⟨h0, rfl⟩⟩
end Go.Proofs.Ytceeopjmdfefjaa
