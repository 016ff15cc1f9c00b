/- peers.Mark. -/
import Derived.Test.YtdbodnpfeiplgaaPeK
namespace Go.Proofs.Ytdbodnpfeiplgaa
set_option linter.unusedVariables false
open Go.RowKit
theorem eqlFn_run (G : Nat) (caps : Array Value) (W : World) : (binOp .eql 27 (.func (.func G) #[] caps) .nilFunc).run Try.prog W = .ok (.bool false) W := rfl
theorem eqlNil_run (W : World) : (binOp .eql 27 .nilFunc .nilFunc).run Try.prog W = .ok (.bool true) W := rfl
set_option maxRecDepth 100000 in
theorem mark_ok (G : Nat) (caps : Array Value) (hG : ∀ args W, (callFunc G args).run Try.prog W = .ok (.enter G args) W) (g : Int → Int) (A : Option Addr) (c : Nat) (l : List Int) (w : World) (h : Sl w .u64 A l) (hm : mayP l = true) (hat : AtOk G caps g l w) :
    Calls Try.prog 9 #[.slice A l.length c, .func (.func G) #[] caps] w fun e w' => e = .returned (.int .u64 ((srt (l.map g)).getD (l.length - (l.length / 2 + 1)) 0)) ∧ Below w.heap.size w w' := by
  have hl7 : 1 ≤ l.length ∧ l.length ≤ 7 := by simp [mayP] at hm; omega
  have C := fun W (hW : Sl W .u64 A l) => may_any A c l W hW (by omega)
  rw [hm] at C
  have C := Lib.hid C
  clear hm
  have hE := eqlFn_run G caps
  go_enter Try.func9, Try.ntmps9
  go_wp2_with fail
  refine (C.out _ (h.alloc _)).mono ?_
  rintro e w1 ⟨rfl, rfl⟩
  have hn0 : NoteS w (.func (.func G) #[] caps) (.slice none 0 0) ((w.alloc (.cells #[.func (.func G) #[] caps] 27)).alloc (.cells #[.slice none 0 0] 22)) :=
    ⟨((Below.refl _ w).alloc (Nat.le_refl _) _).alloc (by simp) _, by simp, by go_simp, by go_simp, by go_simp⟩
  have N0 := Lib.hid hn0
  have HAT := Lib.hid hat
  have HSL := Lib.hid h
  have HG := Lib.hid hG
  clear hn0 hat h hG
  go_wp2_with fail
  go_loopw [19] (fun i wr => ∃ (k : Nat) (B : Option Addr) (d : Nat), k ≤ l.length ∧ i = .int .i64 k ∧ NoteS w (.func (.func G) #[] caps) (.slice B k d) wr ∧ OwnU (w.heap.size + 2) wr B d ((l.take k).map g))
    (fun i _ => l.length - (intOf i).toNat)
  case atStart => exact ⟨0, none, 0, by omega, rfl, N0.out, by simpa using OwnU.nil _ _⟩
  case round =>
    obtain ⟨k, B, d, hk, rfl, hns, hown⟩ := hrel
    have HN := Lib.hid hns
    have HO := Lib.hid hown
    have hp2 := hns.c2
    have hz := hns.size
    clear hns hown
    by_cases hlt : k < l.length
    · obtain ⟨ad, rfl, hb, hc0⟩ := HSL.out k hlt
      have hc := (HN.out.below.cell (p := ad.add k) (by rw [add_block]; exact hb)).trans hc0
      have ho : ((l.take k).map g).length = k := by simp; omega
      have hns : NoteS w (.func (.func G) #[] caps) (.slice B ((l.take k).map g).length d) wr := by rw [ho]; exact HN.out
      have C2 := note_any G caps HG.out g w wr l[k] B d ((l.take k).map g) (by rw [ho]; omega) l (List.getElem_mem _) HAT.out hns HO.out
      rw [ho] at C2
      have C2 := Lib.hid C2
      clear hc0 hns ho
      go_wp2_with fail
      refine C2.out.mono ?_
      rintro e w2 ⟨rfl, B', d', hns2, hown2⟩
      have HN2 := Lib.hid hns2
      have HO2 := Lib.hid hown2
      clear hns2 hown2
      go_wp2_with fail
      go_round
      case rel =>
        refine ⟨k + 1, B', d', by omega, by go_num, HN2.out, ?_⟩
        rw [List.take_succ_eq_append_getElem hlt, List.map_append]
        exact HO2.out
      case measure => simp [intOf]; omega
    · have e : k = l.length := by omega
      subst e
      rw [List.take_length] at HO
      have hon : (l.map g).length = l.length := by simp
      have hsn : (srt (l.map g)).length = l.length := by rw [srt_len, hon]
      have hown := HO.out
      have hle : l.length ≤ d := by
        obtain ⟨B1, d1, e1, e2, -⟩ := own_form hown
        injection e1 with _ _ e4
        omega
      unfold OwnU at hown
      have S := sort_own (w.heap.size + 2) B d (l.map g) wr hown (by intro e; rw [e] at hon; simp at hon; omega) (by omega)
      rw [hon] at S
      have S := Lib.hid S
      clear hown
      obtain ⟨m, hm⟩ : ∃ m : Nat, l.length / 2 + 1 = m := ⟨_, rfl⟩
      have HM := Lib.hid hm
      have hmle : 1 ≤ m ∧ m ≤ l.length := by omega
      have M := Lib.hid (fun W => major_any (l.length : Int) W (by omega))
      rw [show max 0 (l.length : Int) / 2 + 1 = (m : Int) by omega] at M
      clear hm
      obtain ⟨K, hK⟩ : ∃ K : Nat, l.length - m = K := ⟨_, rfl⟩
      have HK := Lib.hid hK
      have hKi : (l.length : Int) - (m : Int) = (K : Int) := by omega
      have hKl : K < l.length := by omega
      have hKw : IntKind.i64.wrap ((l.length : Int) - (m : Int)) = (K : Int) := by rw [hKi, IntKind.wrap_i64]; omega
      clear hKi
      have hKb : (K : Int) < (l.length : Int) := by omega
      have hK0 : (0 : Int) ≤ (K : Int) := by omega
      clear hK hmle
      go_wp2_with fail
      refine S.out.mono ?_
      rintro e w3 ⟨rfl, hown4, hgrow4⟩
      have hb3 : Below (w.heap.size + 2) wr w3 := (Below.refl _ _).grown hgrow4 hz (fun q hq => OwnU.base_ HO.out (by simpa using hq))
      have HN3 := Lib.hid (HN.out.far hb3)
      have hp3 := HN3.out.c2
      have hO4 : OwnU (w.heap.size + 2) w3 B d (srt (l.map g)) := by unfold OwnU; rw [hsn]; exact hown4
      have HS4 := Lib.hid hO4.sl
      clear hown4 hgrow4 hb3 hO4
      have hgd : (srt (l.map g)).getD K 0 = (srt (l.map g))[K]'(by omega) := by simp [hsn, hKl]
      have HGD := Lib.hid hgd
      clear hgd
      obtain ⟨ad, rfl, -, hc4⟩ := HS4.out K (by omega)
      generalize (srt (l.map g))[K]'(by omega) = x at *
      go_wp2_with fail
      go_region_held_law (fun v => v.cell? ⟨w.heap.size + 1, 0, none⟩ = some (.slice (some ad) l.length d) ∧ v.cell? (ad.add K) = some (.int .u64 x)) (exact ⟨hp3, hc4⟩)
        (((with_reducible refine (M.out _).mono ?_); rintro e w4 ⟨rfl, rfl⟩))
      go_wp2_with fail
      go_ret
      exact ⟨ret_int (by rw [HM.out, HK.out, HGD.out]), HN3.out.drew.below⟩
set_option maxRecDepth 100000 in
theorem mark_no (G : Nat) (caps : Array Value) (A : Option Addr) (c : Nat) (l : List Int) (w : World) (h : Sl w .u64 A l) (hl : l.length ≤ 1000000) (hm : mayP l = false) :
    Calls Try.prog 9 #[.slice A l.length c, .func (.func G) #[] caps] w fun e w' => e = .returned (.int .u64 0) ∧ Below w.heap.size w w' := by
  have C := fun W (hW : Sl W .u64 A l) => may_any A c l W hW (by omega)
  rw [hm] at C
  have C := Lib.hid C
  have hE := eqlFn_run G caps
  clear hm
  go_enter Try.func9, Try.ntmps9
  go_wp2_with fail
  refine (C.out _ (h.alloc _)).mono ?_
  rintro e w1 ⟨rfl, rfl⟩
  go_wp2_with fail
  go_ret
  exact ⟨rfl, (Below.refl _ _).alloc (Nat.le_refl _) _⟩
set_option maxRecDepth 100000 in
theorem mark_nil (A : Option Addr) (c : Nat) (l : List Int) (w : World) (h : Sl w .u64 A l) (hl : l.length ≤ 1000000) :
    Calls Try.prog 9 #[.slice A l.length c, .nilFunc] w fun e w' => e = .returned (.int .u64 0) ∧ Below w.heap.size w w' := by
  have C := fun W (hW : Sl W .u64 A l) => may_any A c l W hW (by omega)
  have hE := eqlNil_run
  rcases hm : mayP l with _ | _
  · rw [hm] at C
    have C := Lib.hid C
    clear hm
    go_enter Try.func9, Try.ntmps9
    go_wp2_with fail
    refine (C.out _ (h.alloc _)).mono ?_
    rintro e w1 ⟨rfl, rfl⟩
    go_wp2_with fail
    go_ret
    exact ⟨rfl, (Below.refl _ _).alloc (Nat.le_refl _) _⟩
  · rw [hm] at C
    have C := Lib.hid C
    clear hm
    go_enter Try.func9, Try.ntmps9
    go_wp2_with fail
    refine (C.out _ (h.alloc _)).mono ?_
    rintro e w1 ⟨rfl, rfl⟩
    go_wp2_with fail
    go_ret
    exact ⟨rfl, (Below.refl _ _).alloc (Nat.le_refl _) _⟩
/-- What Mark answers. -/
def markF (g : Int → Int) (l : List Int) : Int := if mayP l = true then (srt (l.map g)).getD (l.length - (l.length / 2 + 1)) 0 else 0
theorem mark_any (G : Nat) (caps : Array Value) (hG : ∀ args W, (callFunc G args).run Try.prog W = .ok (.enter G args) W) (g : Int → Int) (A : Option Addr) (c : Nat) (l : List Int) (w : World) (h : Sl w .u64 A l) (hl : l.length ≤ 1000000) (hat : mayP l = true → AtOk G caps g l w) :
    Calls Try.prog 9 #[.slice A l.length c, .func (.func G) #[] caps] w fun e w' => e = .returned (.int .u64 (markF g l)) ∧ Below w.heap.size w w' := by
  unfold markF
  by_cases hm : mayP l = true
  · rw [if_pos hm]; exact mark_ok G caps hG g A c l w h hm (hat hm)
  · rw [if_neg hm]; exact mark_no G caps A c l w h hl (by simpa using hm)
end Go.Proofs.Ytdbodnpfeiplgaa
