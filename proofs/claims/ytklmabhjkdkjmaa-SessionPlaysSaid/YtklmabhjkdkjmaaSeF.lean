/- Contract: Of. -/
import Derived.Test.YtklmabhjkdkjmaaSeE
import Derived.Deep.RegionLaw
import Derived.Deep.DeepCutAuto
namespace Go.Proofs.Ytklmabhjkdkjmaa
set_option linter.unusedVariables false
open Go.RowKit
theorem take_good {l : List Tk} (h : GoodT l) (k : Nat) : GoodT (l.take k) :=
  ⟨h.once.sublist ((List.take_sublist k l).map _), fun t ht => h.some_ t (List.mem_of_mem_take ht), Nat.le_trans (List.length_take_le k l |> fun h => by rw [List.length_take]; omega) h.few⟩
set_option maxHeartbeats 2000000 in
set_option maxRecDepth 100000 in
theorem of_any (A : Option Addr) (c : Nat) (l : List Tk) (w : World) (h : TkS w A l) (hwf : ∀ t ∈ l, (Lit.int .u64 t.cl).wf = true) (hl : l.length ≤ 1000) :
    Calls Try.prog 9 #[.slice A l.length c] w fun e w' => Below w.heap.size w w' ∧ ((¬ GoodT l ∧ e = .returned (.tuple #[.pointer none, .int .i64 2])) ∨
      (GoodT l ∧ ∃ g b, w.heap.size ≤ g ∧ w.heap.size ≤ b ∧ e = .returned (.tuple #[.pointer (some ⟨g, 0, none⟩), .int .i64 0]) ∧ ClAt w' g b l.length l)) := by
  have H := Lib.hid h
  have HW := Lib.hid hwf
  clear h hwf
  go_enter Try.func9, Try.ntmps9
  go_wp2_with fail
  refine (new_any w).mono ?_
  rintro e w1 ⟨rfl, hcl, hb1⟩
  obtain ⟨g, hg⟩ : ∃ g, w.heap.size + 1 = g := ⟨_, rfl⟩
  obtain ⟨b, hb⟩ : ∃ b, w.heap.size = b := ⟨_, rfl⟩
  rw [hg] at hcl ⊢
  rw [show ClAt w1 g w.heap.size 0 [] = ClAt w1 g b 0 [] by rw [hb]] at hcl
  have HGB := Lib.hid (show w.heap.size ≤ g ∧ w.heap.size ≤ b by omega)
  have CL := Lib.hid hcl
  have K1 := Lib.hid hb1
  clear hcl hb1 hg hb
  go_wp2_with fail
  go_loopw [12] (fun i wr => ∃ k : Nat, k ≤ l.length ∧ i = .int .i64 k ∧ ClAt wr g b k (l.take k) ∧ Below w.heap.size w wr) (fun i _ => l.length - (intOf i).toNat)
  case atStart => exact ⟨0, by omega, rfl, CL.out, K1.out⟩
  case round =>
    obtain ⟨k, hk, rfl, hcl, hkp⟩ := hrel
    have CK := Lib.hid hcl
    have KP := Lib.hid hkp
    clear hcl hkp CL K1
    by_cases hlt : k < l.length
    · obtain ⟨ad, rfl, -⟩ := H.out k hlt
      obtain ⟨hab, h1, h2, h3, h4⟩ := (H.out.over KP.out).cells4 k hlt
      have hwf := HW.out l[k] (List.getElem_mem _)
      have htl : (l.take k).length = k := by rw [List.length_take]; omega
      have htk := take_tk hlt
      have hin1 : l[k].cl ∈ cls (l.take k) → ¬ GoodT l := fun hi hg => by
        have := (take_good hg (k + 1)).once
        rw [htk, cls, List.map_append] at this
        exact (List.nodup_append.1 this).2.2 _ hi _ (by simp) rfl
      have hin2 : (l[k].cl = 0 ∨ l[k].sq = 0) → ¬ GoodT l := fun h0 hg => by
        have := hg.some_ _ (List.getElem_mem hlt)
        omega
      obtain ⟨t, ht⟩ : ∃ t, l[k] = t := ⟨_, rfl⟩
      rw [ht] at h1 h2 h3 h4 hwf htk hin1 hin2
      have HTK := Lib.hid htk
      have HI1 := Lib.hid hin1
      have HI2 := Lib.hid hin2
      have HTL := Lib.hid htl
      have HWF := Lib.hid hwf
      clear htk hin1 hin2 ht htl
      go_upto_region 5 with fail
      obtain ⟨W3, hW3⟩ : ∃ W3, wr.alloc (.cells #[.int .u64 t.cl, .int .u64 t.sq, .int .i64 t.e, .int .u64 t.n] 32) = W3 := ⟨_, rfl⟩
      have rC : Row W3 wr.heap.size 32 #[.int .u64 t.cl, .int .u64 t.sq, .int .i64 t.e, .int .u64 t.n] := by rw [← hW3]; exact Row.new wr _ _
      have b3 : Below wr.heap.size wr W3 := by rw [← hW3]; exact (Below.refl _ wr).alloc (Nat.le_refl _) _
      rw [hW3]
      have CK3 := Lib.hid (CK.out.below b3)
      have KP3 := Lib.hid (nextC KP.out b3)
      have RC := Lib.hid rC
      clear hW3 rC b3 CK KP h1 h2 h3 h4 hab
      obtain ⟨X, hX⟩ : ∃ X, wr.heap.size = X := ⟨_, rfl⟩
      rw [hX] at RC ⊢
      clear hX
      obtain ⟨u, us, hr, hm, hu, hu0, hu1⟩ := CK3.out.w_.ex
      have c0 := hr.cell 0
      have z0 := RC.out.cell 0
      simp at c0 z0
      have hlk0 := fun v (hv : MpS v b k (cls (l.take k)) (atC (l.take k) us)) => hv.look_ok hwf
      obtain ⟨s1, e1, n1, hat⟩ := atC_used hu t.cl
      rw [hat] at hlk0
      unfold tkV at hlk0
      generalize us t.cl = u1 at hlk0
      have hlk1 := hlk0 W3.drew hm
      have hlk2 := fun o => hlk0 (W3.alloc o).drew (by have x := hm.below ((Below.refl _ W3).alloc (Nat.le_refl _) o); exact x)
      have c0a := fun o => (World.cell?_alloc_lt W3 o ⟨g, 0, none⟩ hr.lt).trans c0
      have z0a := fun o => (World.cell?_alloc_lt W3 o ⟨X, 0, none⟩ RC.out.lt).trans z0
      obtain ⟨isin, hisin⟩ : ∃ isin, decide (t.cl ∈ cls (l.take k)) = isin := ⟨_, rfl⟩
      rw [hisin] at hlk1
      simp only [hisin] at hlk2
      have HIN := Lib.hid hisin
      clear hat hu hu0 hu1 hr hm hlk0 hisin
      go_cut [8] (fun s wx => s = .bool isin ∧ Below W3.heap.size W3 wx)
      case first =>
        go_region_law fail
        all_goals go_wp2_with fail
        all_goals go_meet
        all_goals exact ⟨rfl, by first | exact below_drewN ((Below.refl _ W3).alloc (Nat.le_refl _) _) 1 | exact (below_drewN (Below.refl _ W3) 1).alloc (Nat.le_refl _) _⟩
      case rest =>
        obtain ⟨rfl, hbc⟩ := hcut
        have CKC := Lib.hid (CK3.out.below hbc)
        have KPC := Lib.hid (nextC KP3.out hbc)
        have RCC := Lib.hid (RC.out.over hbc)
        have y0 := RCC.out.cell 0
        have y1 := RCC.out.cell 1
        have y2 := RCC.out.cell 2
        have y3 := RCC.out.cell 3
        simp at y0 y1 y2 y3
        clear hbc CK3 KP3 RC hlk1 hlk2 c0 z0 c0a z0a
        rcases isin with _ | _
        · by_cases h16 : 16 < l.length
          · have t1 : (16 : Int) < (l.length : Int) := by omega
            go_wp2_with fail
            go_ret2
            exact ⟨KPC.out, .inl ⟨fun hg => by have := hg.few; omega, rfl⟩⟩
          · have t1 : decide ((16 : Int) < (l.length : Int)) = false := decide_eq_false (by omega)
            have hnin : t.cl ∉ cls (l.take k) := of_decide_eq_false HIN.out
            have htn := tell_new hnin
            by_cases h0 : t.cl = 0 ∨ t.sq = 0
            · rw [if_pos h0] at htn
              have C1 := tell_no g b k (l.take k) t.cl t.sq t.e t.n wc CKC.out hwf (by rw [htn]; decide)
              rw [htn] at C1
              have C1 := Lib.hid C1
              have H0 := Lib.hid (HI2.out h0)
              clear htn h0 hnin
              go_wp2_with fail
              refine C1.out.mono ?_
              rintro e w9 ⟨rfl, hb9⟩
              have K9 := Lib.hid (nextC KPC.out hb9)
              clear hb9 C1
              go_wp2_with fail
              go_ret2
              exact ⟨K9.out, .inl ⟨H0.out, rfl⟩⟩
            · rw [if_neg h0] at htn
              have C1 := tell_ok g b k (l.take k) t wc CKC.out hwf htn (by omega)
              rw [tell_snoc hnin ⟨fun e => h0 (.inl e), fun e => h0 (.inr e)⟩ (by have := HTL.out; omega), ← HTK.out] at C1
              have C1 := Lib.hid C1
              clear htn h0 hnin
              go_wp2_with fail
              refine C1.out.mono ?_
              rintro e w9 ⟨rfl, hc9, hb9⟩
              have C9 := Lib.hid hc9
              have K9 := Lib.hid (KPC.out.trans (hb9.below HGB.out.1 HGB.out.2 KPC.out.size))
              clear hc9 hb9 C1
              go_wp2_with fail
              go_roundw
              case rel => exact ⟨k + 1, by omega, by go_num, C9.out, K9.out⟩
              case measure => simp [intOf]; omega
        · have H1 := Lib.hid (HI1.out (of_decide_eq_true HIN.out))
          go_wp2_with fail
          go_ret2
          exact ⟨KPC.out, .inl ⟨H1.out, rfl⟩⟩
    · obtain rfl : k = l.length := by omega
      go_wp2_with fail
      go_ret2
      rw [List.take_length] at CK
      exact ⟨KP.out, .inr ⟨CK.out.good, g, b, HGB.out.1, HGB.out.2, rfl, CK.out⟩⟩
end Go.Proofs.Ytklmabhjkdkjmaa
