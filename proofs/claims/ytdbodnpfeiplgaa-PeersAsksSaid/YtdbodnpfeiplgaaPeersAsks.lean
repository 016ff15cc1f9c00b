/- PeersAsks: which peers may be, majorities, changes, how far they have come, and bytes, are the document's. No condition. -/
import Derived.Test.YtdbodnpfeiplgaaPeW
import Derived.Test.YtdbodnpfeiplgaaPeT
import Derived.Test.YtdbodnpfeiplgaaPeF
import Derived.Test.YtdbodnpfeiplgaaPeI
import Derived.Test.YtdbodnpfeiplgaaPkC
import Derived.Test.YtdbodnpfeiplgaaPost
import Derived.Test.YtdbodnpfeiplgaaOpenS
import Derived.Deep.DeepCutAuto
import Derived.Deep.RegionHeldLaw
import Derived.Shelf.Bytes.SlSmallAll
namespace Go.Proofs.Ytdbodnpfeiplgaa.peersAsks
open Go.ChangeShapes Go.WideShapes Go.ChangeAt Go.RowKit
set_option linter.unusedVariables false

theorem laidOut : laidOutB Try.prog = true := by kernel_rfl
theorem own : ownKnob Try.prog.godebug = none := by kernel_rfl
theorem sameL_self (a : List Int) : sameL a a = true := decide_eq_true rfl
theorem conv_any (A : Option Addr) (c : Nat) (l : List Int) (w : World) (h : Sl w .u8 A l) (hl : ∀ x ∈ l, 0 ≤ x ∧ x < 256) :
    (convert 29 9 (.slice A l.length c)).run Try.prog w = .ok (.string (strI l)) w := by
  rcases l with _ | ⟨x, t⟩
  · exact run_convert_bytes_zero w 29 5 Try.underlying29 Try.underlying5 A c 9 Try.underlying9
  · obtain ⟨ad, rfl⟩ := h.some_ (by simp)
    exact conv_bytes h hl
theorem putX_bytes (l : List Int) : ∀ x ∈ putX l, 0 ≤ x ∧ x < 256 := fun x hx => by
  unfold putX at hx
  split at hx
  · rcases List.mem_append.1 hx with h | h
    · exact putN_bytes _ x h
    · exact catN_bytes _ x h
  · simp at hx
theorem refMark_any (A A2 : Option Addr) (c c2 : Nat) (l at_ : List Int) (w : World) (h : Sl w .u64 A l) (h2 : Sl w .u64 A2 at_) (hl : l.length ≤ 1000000) (hp : ∀ x ∈ l, 0 ≤ x) (hq : ∀ x ∈ at_, 0 ≤ x) (hle : l.length ≤ at_.length) :
    Calls Try.prog 24 #[.slice A l.length c, .slice A2 at_.length c2] w fun e w' => e = .returned (.int .u64 (markF (lookF l at_) l)) ∧ ∃ q, w' = w.drewN q := by
  rcases hm : mayP l with _ | _
  · have e : markF (lookF l at_) l = 0 := by unfold markF; rw [hm]; rfl
    rw [e]
    exact refMark_no A A2 c _ c2 l w h hl hp hm
  · rw [mark_look hm hle hq]
    exact refMark_ok A A2 c c2 l at_ w h h2 hl hp hm hle

theorem addL_len (l : List Int) (id : Int) : (addL l id).length ≤ l.length + 1 := by
  unfold addL; split
  · rw [srt_len]; simp
  · simp
theorem remL_len (l : List Int) (id : Int) : (remL l id).length ≤ l.length := by
  unfold remL; split
  · exact wo_len _ _
  · simp
theorem prsL_len (b : List Int) (hb : ∀ x ∈ b, 0 ≤ x ∧ x < 256) : (prsL b).length ≤ 7 := by
  unfold prsL
  rcases h : prsP b with _ | l
  · simp
  · exact (mayP_iff.1 ((prsP_iff hb).1 h).1).2.2
/-- What every world behind the boxes has. -/
theorem sa_drewN {p1 p2 : Addr} {x1 x2 : Value} {N : Nat} {W0 v : World} (q : Nat) (h : v.cell? p1 = some x1 ∧ v.cell? p2 = some x2 ∧ Below N W0 v) :
    (v.drewN q).cell? p1 = some x1 ∧ (v.drewN q).cell? p2 = some x2 ∧ Below N W0 (v.drewN q) := ⟨h.1, h.2.1, below_drewN h.2.2 q⟩
theorem sa_some {p1 p2 : Addr} {x1 x2 : Value} {N : Nat} {W0 v v' : World} (hw : ∃ q, v' = v.drewN q) (h : v.cell? p1 = some x1 ∧ v.cell? p2 = some x2 ∧ Below N W0 v) :
    v'.cell? p1 = some x1 ∧ v'.cell? p2 = some x2 ∧ Below N W0 v' := by
  obtain ⟨q, rfl⟩ := hw
  exact sa_drewN q h
theorem sa_below {p1 p2 : Addr} {x1 x2 : Value} {W0 v v' : World} (h1 : p1.block < W0.heap.size) (h2 : p2.block < W0.heap.size) (hb : Below v.heap.size v v') (h : v.cell? p1 = some x1 ∧ v.cell? p2 = some x2 ∧ Below W0.heap.size W0 v) :
    v'.cell? p1 = some x1 ∧ v'.cell? p2 = some x2 ∧ Below W0.heap.size W0 v' :=
  ⟨(hb.cell (Nat.lt_of_lt_of_le h1 h.2.2.size)).trans h.1, (hb.cell (Nat.lt_of_lt_of_le h2 h.2.2.size)).trans h.2.1, nextC h.2.2 hb⟩
theorem sa_b {X Y Z : Prop} (h : X ∧ Y ∧ Z) : Z := h.2.2
set_option maxHeartbeats 8000000 in
set_option maxRecDepth 100000 in
theorem walk (A Ba Bb By : Option Addr) (c ca cb cy : Nat) (l yes at_ b : List Int) (id n : Int) (w : World) (h : Sl w .u64 A l) (hY : Sl w .u64 By yes) (h2 : Sl w .u64 Ba at_) (h3 : Sl w .u8 Bb b) (hlc : l.length ≤ c) (hcm : c ≤ maxLen)
    (hbc : b.length ≤ cb) (hbm : cb ≤ maxLen) (hp : ∀ x ∈ l, 0 ≤ x ∧ x < 18446744073709551616) (hpa : ∀ x ∈ at_, 0 ≤ x ∧ x < 18446744073709551616) (hpb : ∀ x ∈ b, 0 ≤ x ∧ x < 256) (hn : n ≤ 9223372036854775807) (hn0 : -9223372036854775808 ≤ n)
    (hl20 : l.length ≤ 20) (hy20 : yes.length ≤ 20) (hla : l.length ≤ at_.length) (ha20 : at_.length ≤ 20) (hb100 : b.length ≤ 100) :
    Calls Try.prog 4 #[.slice A l.length c, .slice By yes.length cy, .slice Ba at_.length ca, .int .u64 id, .int .i64 n, .slice Bb b.length cb] w fun e w' => e = .returned (.bool true) ∧ Below w.heap.size w w' := by
  have hp0 : ∀ x ∈ l, 0 ≤ x := fun x hx => (hp x hx).1
  obtain ⟨W0, hW0⟩ : ∃ W0, (w.alloc (.cells #[.slice A l.length c] 22)).alloc (.cells #[.slice Ba at_.length ca] 22) = W0 := ⟨_, rfl⟩
  have r1 : Row W0 w.heap.size 22 #[.slice A l.length c] := by rw [← hW0]; exact (Row.new w _ _).alloc _
  have r2 : Row W0 (w.heap.size + 1) 22 #[.slice Ba at_.length ca] := by
    have := Row.new (w.alloc (.cells #[.slice A l.length c] 22)) 22 #[.slice Ba at_.length ca]
    rw [← hW0]; simpa using this
  have hb0 : Below w.heap.size w W0 := by rw [← hW0]; exact nextB ((Below.refl _ w).alloc (Nat.le_refl _) _)
  have R1 := Lib.hid (fun W (hW : Below W0.heap.size W0 W) => (hW.cell (p := ⟨w.heap.size, 0, none⟩) r1.lt).trans (r1.cell 0))
  have R2 := Lib.hid (fun W (hW : Below W0.heap.size W0 W) => (hW.cell (p := ⟨w.heap.size + 1, 0, none⟩) r2.lt).trans (r2.cell 0))
  have L1 := Lib.hid r1.lt
  have L2 := Lib.hid r2.lt
  have F0 := fun (W : World) (hW : Below W0.heap.size W0 W) => nextC hb0 hW
  have S1 := Lib.hid (fun W (hW : Below W0.heap.size W0 W) => h.over (F0 W hW))
  have S2 := Lib.hid (fun W (hW : Below W0.heap.size W0 W) => h2.over (F0 W hW))
  have S3 := Lib.hid (fun W (hW : Below W0.heap.size W0 W) => h3.over (F0 W hW))
  have SY := Lib.hid (fun W (hW : Below W0.heap.size W0 W) => hY.over (F0 W hW))
  have F0 := Lib.hid F0
  have hpb8 := hpb
  have KN := Lib.hid (fun W => known_any W)
  have C13 := Lib.hid (fun W (hW : Below W0.heap.size W0 W) => add_any A c l id W (S1.out W hW) (by omega))
  have C14 := Lib.hid (fun W (hW : Below W0.heap.size W0 W) => refAdd_any A c l id W (S1.out W hW) (by omega) hp0)
  have C15 := Lib.hid (fun W (hW : Below W0.heap.size W0 W) => remove_any A c l id W (S1.out W hW) (by omega) hlc hcm)
  have C16 := Lib.hid (fun W (hW : Below W0.heap.size W0 W) => refRemove_any A c l id W (S1.out W hW) (by omega) hp0)
  have C11 := Lib.hid (fun W (hW : Below W0.heap.size W0 W) => pput_any A c l W (S1.out W hW) (by omega) hp)
  have C17 := Lib.hid (fun W (hW : Below W0.heap.size W0 W) => rput_any A c l W (S1.out W hW) (by omega) hp)
  have C18 := Lib.hid (fun W (hW : Below W0.heap.size W0 W) => pparse_any Bb cb b W (S3.out W hW) hbc hbm hpb)
  have C19 := Lib.hid (fun W (hW : Below W0.heap.size W0 W) => rparse_any Bb cb b W (S3.out W hW) hbc hbm hpb (by omega))
  have C7 := Lib.hid (fun W (hW : Below W0.heap.size W0 W) => may_any A c l W (S1.out W hW) (by omega))
  have C22 := Lib.hid (fun W (hW : Below W0.heap.size W0 W) => refMay_any A c l W (S1.out W hW) (by omega) hp0)
  have C12 := Lib.hid (fun W (hW : Below W0.heap.size W0 W) => wins_any A By c cy l yes W (S1.out W hW) (SY.out W hW) (by omega) (by omega))
  have C23 := Lib.hid (fun W (hW : Below W0.heap.size W0 W) => refWins_any A By c cy l yes W (S1.out W hW) (SY.out W hW) (by omega) (by omega) hp0)
  have C24 := Lib.hid (fun W (hW : Below W0.heap.size W0 W) => refMark_any A Ba c ca l at_ W (S1.out W hW) (S2.out W hW) (by omega) hp0 (fun x hx => (hpa x hx).1) hla)
  have C25 := Lib.hid (fun W => major_any n W hn)
  have C9n := Lib.hid (fun W (hW : Below W0.heap.size W0 W) => mark_nil A c l W (S1.out W hW) (by omega))
  have C9 := Lib.hid (fun W (hW : Below W0.heap.size W0 W) => mark_any 21 #[.pointer (some ⟨w.heap.size, 0, none⟩), .pointer (some ⟨w.heap.size + 1, 0, none⟩)] (fun _ _ => rfl) (lookF l at_) A c l W (S1.out W hW) (by omega)
    (fun _ id hid W' hW' => look_asks _ _ A Ba c ca l at_ id W' (R1.out _ (nextC hW hW')) (R2.out _ (nextC hW hW')) (S1.out _ (nextC hW hW')) (S2.out _ (nextC hW hW')) (by omega) hla (by omega)))
  have HW := Lib.hid hW0
  have B0 := Lib.hid (Below.refl W0.heap.size W0)
  have c1 := R1.out _ B0.out
  have c2 := R2.out _ B0.out
  clear h h2 h3 hY hlc hcm hbc hbm hp hpa hpb hp0 r1 r2 hb0 hW0
  go_enter Try.func4, Try.ntmps4
  go_wp2_with fail
  rw [HW.out]
  clear HW
  refine (KN.out _).mono ?_
  rintro e w1 ⟨rfl, hb1⟩
  have B1 := Lib.hid (nextC B0.out hb1)
  have c1 := R1.out _ B1.out
  have c2 := R2.out _ B1.out
  clear hb1 KN B0
  go_wp2_with fail
  refine (C13.out _ B1.out).mono ?_
  rintro e w2 ⟨Dx, dx, rfl, hs, hb⟩
  have B2 := Lib.hid (nextC B1.out hb)
  have c1 := R1.out _ B2.out
  have c2 := R2.out _ B2.out
  have Tx := Lib.hid hs.sl
  clear hb hs B1 C13
  go_wp2_with fail
  refine (C14.out _ B2.out).mono ?_
  rintro e w3 ⟨Dy, dy, rfl, hs, hb⟩
  have B3 := Lib.hid (nextC B2.out hb)
  have c1 := R1.out _ B3.out
  have c2 := R2.out _ B3.out
  have Tx := Lib.hid (Tx.out.over hb)
  have Ty := Lib.hid hs.sl
  clear hb hs B2 C14
  go_wp2_with fail
  refine (C15.out _ B3.out).mono ?_
  rintro e w4 ⟨Du, du, rfl, hs, hb⟩
  have B4 := Lib.hid (nextC B3.out hb)
  have c1 := R1.out _ B4.out
  have c2 := R2.out _ B4.out
  have Tx := Lib.hid (Tx.out.over hb)
  have Ty := Lib.hid (Ty.out.over hb)
  have Tu := Lib.hid hs.sl
  clear hb hs B3 C15
  go_wp2_with fail
  refine (C16.out _ B4.out).mono ?_
  rintro e w5 ⟨Dv, dv, rfl, hs, hb⟩
  have B5 := Lib.hid (nextC B4.out hb)
  have c1 := R1.out _ B5.out
  have c2 := R2.out _ B5.out
  have Tx := Lib.hid (Tx.out.over hb)
  have Ty := Lib.hid (Ty.out.over hb)
  have Tu := Lib.hid (Tu.out.over hb)
  have Tv := Lib.hid hs.sl
  clear hb hs B4 C16
  go_wp2_with fail
  refine (C11.out _ B5.out).mono ?_
  rintro e w6 ⟨Dp, dp, rfl, hs, hb⟩
  have B6 := Lib.hid (nextC B5.out hb)
  have c1 := R1.out _ B6.out
  have c2 := R2.out _ B6.out
  have Tx := Lib.hid (Tx.out.over hb)
  have Ty := Lib.hid (Ty.out.over hb)
  have Tu := Lib.hid (Tu.out.over hb)
  have Tv := Lib.hid (Tv.out.over hb)
  have Tp := Lib.hid hs
  clear hb hs B5 C11
  go_wp2_with fail
  refine (C17.out _ B6.out).mono ?_
  rintro e w7 ⟨Dq, dq, rfl, hs, hb⟩
  have B7 := Lib.hid (nextC B6.out hb)
  have c1 := R1.out _ B7.out
  have c2 := R2.out _ B7.out
  have Tx := Lib.hid (Tx.out.over hb)
  have Ty := Lib.hid (Ty.out.over hb)
  have Tu := Lib.hid (Tu.out.over hb)
  have Tv := Lib.hid (Tv.out.over hb)
  have Tp := Lib.hid (Tp.out.over hb)
  have Tq := Lib.hid hs
  clear hb hs B6 C17
  go_wp2_with fail
  refine (C18.out _ B7.out).mono ?_
  rintro e w8 ⟨Ds, ds, rfl, hs, hb⟩
  have B8 := Lib.hid (nextC B7.out hb)
  have c1 := R1.out _ B8.out
  have c2 := R2.out _ B8.out
  have Tx := Lib.hid (Tx.out.over hb)
  have Ty := Lib.hid (Ty.out.over hb)
  have Tu := Lib.hid (Tu.out.over hb)
  have Tv := Lib.hid (Tv.out.over hb)
  have Tp := Lib.hid (Tp.out.over hb)
  have Tq := Lib.hid (Tq.out.over hb)
  have Ts := Lib.hid hs
  clear hb hs B7 C18
  go_wp2_with fail
  refine (C19.out _ B8.out).mono ?_
  rintro e w9 ⟨Dt, dt, rfl, hs, hb⟩
  have B9 := Lib.hid (nextC B8.out hb)
  have c1 := R1.out _ B9.out
  have c2 := R2.out _ B9.out
  have Tx := Lib.hid (Tx.out.over hb)
  have Ty := Lib.hid (Ty.out.over hb)
  have Tu := Lib.hid (Tu.out.over hb)
  have Tv := Lib.hid (Tv.out.over hb)
  have Tp := Lib.hid (Tp.out.over hb)
  have Tq := Lib.hid (Tq.out.over hb)
  have Ts := Lib.hid (Ts.out.over hb)
  have Tt := Lib.hid hs
  clear hb hs B8 C19
  go_wp2_with fail
  refine (same_any Dx Dy dx dy (addL l id) (addL l id) _ Tx.out Ty.out (by have := addL_len l id; omega) (by have := addL_len l id; omega)).mono ?_
  rintro e w10 ⟨rfl, k10, hw⟩
  rw [sameL_self]
  have B10 := Lib.hid (hw ▸ below_drewN B9.out k10)
  have c1 := R1.out _ B10.out
  have c2 := R2.out _ B10.out
  have Tx := Lib.hid (hw ▸ Tx.out.drewN k10)
  have Ty := Lib.hid (hw ▸ Ty.out.drewN k10)
  have Tu := Lib.hid (hw ▸ Tu.out.drewN k10)
  have Tv := Lib.hid (hw ▸ Tv.out.drewN k10)
  have Tp := Lib.hid (hw ▸ Tp.out.drewN k10)
  have Tq := Lib.hid (hw ▸ Tq.out.drewN k10)
  have Ts := Lib.hid (hw ▸ Ts.out.drewN k10)
  have Tt := Lib.hid (hw ▸ Tt.out.drewN k10)
  clear B9 hw
  go_wp2_with fail
  refine (same_any Du Dv du dv (remL l id) (remL l id) _ Tu.out Tv.out (by have := remL_len l id; omega) (by have := remL_len l id; omega)).mono ?_
  rintro e w11 ⟨rfl, k11, hw⟩
  rw [sameL_self]
  have B11 := Lib.hid (hw ▸ below_drewN B10.out k11)
  have c1 := R1.out _ B11.out
  have c2 := R2.out _ B11.out
  have Tx := Lib.hid (hw ▸ Tx.out.drewN k11)
  have Ty := Lib.hid (hw ▸ Ty.out.drewN k11)
  have Tu := Lib.hid (hw ▸ Tu.out.drewN k11)
  have Tv := Lib.hid (hw ▸ Tv.out.drewN k11)
  have Tp := Lib.hid (hw ▸ Tp.out.drewN k11)
  have Tq := Lib.hid (hw ▸ Tq.out.drewN k11)
  have Ts := Lib.hid (hw ▸ Ts.out.drewN k11)
  have Tt := Lib.hid (hw ▸ Tt.out.drewN k11)
  clear B10 hw
  have V1 := conv_any Dp dp (putX l) _ Tp.out (putX_bytes l)
  have V2 := conv_any Dq dq (putX l) _ Tq.out (putX_bytes l)
  go_wp2_with fail
  refine (same_any Ds Dt ds dt (prsL b) (prsL b) _ Ts.out Tt.out (by have := prsL_len b hpb8; omega) (by have := prsL_len b hpb8; omega)).mono ?_
  rintro e w12 ⟨rfl, k12, hw⟩
  rw [sameL_self]
  have B12 := Lib.hid (hw ▸ below_drewN B11.out k12)
  have c1 := R1.out _ B12.out
  have c2 := R2.out _ B12.out
  have Tx := Lib.hid (hw ▸ Tx.out.drewN k12)
  have Ty := Lib.hid (hw ▸ Ty.out.drewN k12)
  have Tu := Lib.hid (hw ▸ Tu.out.drewN k12)
  have Tv := Lib.hid (hw ▸ Tv.out.drewN k12)
  have Tp := Lib.hid (hw ▸ Tp.out.drewN k12)
  have Tq := Lib.hid (hw ▸ Tq.out.drewN k12)
  have Ts := Lib.hid (hw ▸ Ts.out.drewN k12)
  have Tt := Lib.hid (hw ▸ Tt.out.drewN k12)
  clear B11 hw
  clear Tx Ty Tu Tv Tp Tq Ts Tt V1 V2
  go_wp2_with fail
  refine (C9.out _ B12.out).mono ?_
  rintro e w13 ⟨rfl, hb⟩
  have B13 := Lib.hid (nextC B12.out hb)
  have c1 := R1.out _ B13.out
  have c2 := R2.out _ B13.out
  clear hb B12 C9
  go_upto_if 149 with fail
  go_cut [30] (fun s wx => s = .int .i64 (max 0 n / 2 + 1) ∧ wx = w13)
  case first =>
    by_cases hn1 : 0 < n
    · go_wp2_with fail
      go_meet
      refine ⟨?_, rfl⟩
      first | rfl | (congr 1; omega) | trace_state
    · have hn1' : decide (0 < n) = false := decide_eq_false hn1
      go_wp2_with fail
      go_meet
      refine ⟨?_, rfl⟩
      congr 1
      omega
  case rest =>
  obtain ⟨rfl, rfl⟩ := hcut
  go_upto_region 19 with fail
  go_cut [12] (fun s wx => s = .bool true ∧ Below W0.heap.size W0 wx)
  case first =>
    go_region_held_law (fun v => v.cell? ⟨w.heap.size, 0, none⟩ = some (.slice A l.length c) ∧ v.cell? ⟨w.heap.size + 1, 0, none⟩ = some (.slice Ba at_.length ca) ∧ Below W0.heap.size W0 v)
      (first | exact ⟨c1, c2, below_drewN B13.out 1⟩ | assumption)
      (first
        | ((with_reducible refine (C7.out _ ?_).mono ?_); exact sa_b (by assumption); rintro e w2 ⟨rfl, rfl⟩)
        | ((with_reducible refine (C12.out _ ?_).mono ?_); exact sa_b (by assumption); rintro e w2 ⟨rfl, rfl⟩)
        | ((with_reducible refine (C25.out _).mono ?_); rintro e w2 ⟨rfl, rfl⟩)
        | ((with_reducible refine (C22.out _ ?_).mono ?_); exact sa_b (by assumption); rintro e w2 ⟨rfl, hw⟩; have hk := sa_some hw (by assumption); clear hw)
        | ((with_reducible refine (C23.out _ ?_).mono ?_); exact sa_b (by assumption); rintro e w2 ⟨rfl, hw⟩; have hk := sa_some hw (by assumption); clear hw)
        | ((with_reducible refine (C24.out _ ?_).mono ?_); exact sa_b (by assumption); rintro e w2 ⟨rfl, hw⟩; have hk := sa_some hw (by assumption); clear hw)
        | ((with_reducible refine (C9n.out _ ?_).mono ?_); exact sa_b (by assumption); rintro e w2 ⟨rfl, hb⟩; have hk := sa_below L1.out L2.out hb (by assumption)))
    go_wp2_with fail
    go_meet
    exact ⟨rfl, sa_b (by assumption)⟩
  case rest =>
  obtain ⟨rfl, hbc⟩ := hcut
  have BZ := Lib.hid (F0.out _ hbc)
  clear hbc
  go_wp2_with fail
  go_ret
  exact ⟨rfl, BZ.out⟩

set_option maxHeartbeats 4000000 in
set_option maxRecDepth 100000 in
theorem walk_triv (A Ba Bb By : Option Addr) (c ca cb cy : Nat) (l yes at_ b : List Int) (id n : Int) (w : World)
    (hn : 20 < l.length ∨ l.length ≤ 20 ∧ 20 < yes.length ∨ l.length ≤ 20 ∧ yes.length ≤ 20 ∧ at_.length < l.length ∨ l.length ≤ 20 ∧ yes.length ≤ 20 ∧ l.length ≤ at_.length ∧ 20 < at_.length ∨
      l.length ≤ 20 ∧ yes.length ≤ 20 ∧ l.length ≤ at_.length ∧ at_.length ≤ 20 ∧ 100 < b.length) :
    Calls Try.prog 4 #[.slice A l.length c, .slice By yes.length cy, .slice Ba at_.length ca, .int .u64 id, .int .i64 n, .slice Bb b.length cb] w fun e w' => e = .returned (.bool true) ∧ Below w.heap.size w w' := by
  obtain ⟨W0, hW0⟩ : ∃ W0, (w.alloc (.cells #[.slice A l.length c] 22)).alloc (.cells #[.slice Ba at_.length ca] 22) = W0 := ⟨_, rfl⟩
  have r1 : Row W0 w.heap.size 22 #[.slice A l.length c] := by rw [← hW0]; exact (Row.new w _ _).alloc _
  have r2 : Row W0 (w.heap.size + 1) 22 #[.slice Ba at_.length ca] := by
    have := Row.new (w.alloc (.cells #[.slice A l.length c] 22)) 22 #[.slice Ba at_.length ca]
    rw [← hW0]; simpa using this
  have hb0 : Below w.heap.size w W0 := by rw [← hW0]; exact nextB ((Below.refl _ w).alloc (Nat.le_refl _) _)
  have KN := known_any W0
  have KN := Lib.hid KN
  have HW := Lib.hid hW0
  have R1 := Lib.hid r1
  have R2 := Lib.hid r2
  have B0 := Lib.hid hb0
  clear hW0 r1 r2 hb0
  rcases hn with h1 | ⟨h1, h2⟩ | ⟨h1, h2, h3⟩ | ⟨h1, h2, h3, h4⟩ | ⟨h1, h2, h3, h4, h5⟩
  all_goals
    go_enter Try.func4, Try.ntmps4
    go_wp2_with fail
    rw [HW.out]
    refine KN.out.mono ?_
    rintro e w1 ⟨rfl, hb1⟩
    have B1 := Lib.hid (nextC B0.out hb1)
    have c1 := (R1.out.over hb1).cell 0
    have c2 := (R2.out.over hb1).cell 0
    simp at c1 c2
    clear hb1 KN
    go_wp2_with fail
    go_ret
    exact ⟨rfl, B1.out⟩

theorem opened (H : Type) (enc : TypeId × Value → H) (W : World) (base : Nat) (args : Array Value) (ds gs : List (DataW H)) (before : List MemPlace)
    (hval : ∀ (j : Nat) t v, Try.f4.params[j]? = some t → args[j]? = some v → Value.okWide Try.prog W .any base t v)
    (hW : DataW.Whole enc Try.prog Try.f4.params.toList Rows.peersAsksSpec.vars false W args.toList ds gs before) :
    Calls Try.prog 4 args W fun e w' => e = .returned (.bool true) ∧ Below W.heap.size W w' := by
  obtain ⟨p, q, hA, hV, rfl, hfz, hnd⟩ := hW
  rw [Try.params4] at hA hval
  obtain ⟨v0, vs0, d0, ds0, p0, q0, hargs, rfl, rfl, h0, r0⟩ := trodAll_cons hA
  obtain ⟨v1, vs1, d1, ds1, p1, q1, rfl, rfl, rfl, h1, r1⟩ := trodAll_cons r0
  obtain ⟨v2, vs2, d2, ds2, p2, q2, rfl, rfl, rfl, h2, r2⟩ := trodAll_cons r1
  obtain ⟨v3, vs3, d3, ds3, p3, q3, rfl, rfl, rfl, h3, r3⟩ := trodAll_cons r2
  obtain ⟨v4, vs4, d4, ds4, p4, q4, rfl, rfl, rfl, h4, r4⟩ := trodAll_cons r3
  obtain ⟨v5, vs5, d5, ds5, p5, q5, rfl, rfl, rfl, h5, r5⟩ := trodAll_cons r4
  obtain ⟨rfl, rfl, rfl⟩ := trodAll_nil r5
  obtain rfl : args = #[v0, v1, v2, v3, v4, v5] := by cases args; simp_all
  obtain ⟨A, c, l, rfl, s0, c0, m0, w0, n0⟩ := open_row Try.underlying22 Try.underlying23 (by kernel_rfl) (hval 0 22 v0 rfl rfl) h0
  obtain ⟨By, cy, yes, rfl, s1, c1, m1, w1, n1⟩ := open_row Try.underlying22 Try.underlying23 (by kernel_rfl) (hval 1 22 v1 rfl rfl) h1
  obtain ⟨Ba, ca, at_, rfl, s2, c2, m2, w2, n2⟩ := open_row Try.underlying22 Try.underlying23 (by kernel_rfl) (hval 2 22 v2 rfl rfl) h2
  obtain ⟨id, rfl, _, _, w3⟩ := open_int Try.underlying23 (hval 3 23 v3 rfl rfl) h3
  obtain ⟨n, rfl, _, _, w4⟩ := open_int Try.underlying3 (hval 4 3 v4 rfl rfl) h4
  obtain ⟨Bb, cb, b, rfl, s5, c5, m5, w5, n5⟩ := open_row Try.underlying29 Try.underlying5 (by kernel_rfl) (hval 5 29 v5 rfl rfl) h5
  have hn := bounds_i64 w4
  by_cases e1 : 20 < l.length
  · exact walk_triv A Ba Bb By c ca cb cy l yes at_ b id n W (.inl e1)
  by_cases e2 : 20 < yes.length
  · exact walk_triv A Ba Bb By c ca cb cy l yes at_ b id n W (.inr (.inl ⟨by omega, e2⟩))
  by_cases e3 : at_.length < l.length
  · exact walk_triv A Ba Bb By c ca cb cy l yes at_ b id n W (.inr (.inr (.inl ⟨by omega, by omega, e3⟩)))
  by_cases e4 : 20 < at_.length
  · exact walk_triv A Ba Bb By c ca cb cy l yes at_ b id n W (.inr (.inr (.inr (.inl ⟨by omega, by omega, by omega, e4⟩))))
  by_cases e5 : 100 < b.length
  · exact walk_triv A Ba Bb By c ca cb cy l yes at_ b id n W (.inr (.inr (.inr (.inr ⟨by omega, by omega, by omega, by omega, e5⟩))))
  exact walk A Ba Bb By c ca cb cy l yes at_ b id n W s0 s1 s2 s5 c0 m0 c5 m5 (fun x hx => wf_u64 (w0 x hx)) (fun x hx => wf_u64 (w2 x hx)) (fun x hx => wf_u8 (w5 x hx)) (by omega) (by omega) (by omega) (by omega) (by omega) (by omega) (by omega)

set_option maxRecDepth 100000 in
theorem lifted (os : Os) (started : os.Started) (H : Type) (enc : TypeId × Value → H) :
    ReturnsInHanded {} Try.checked os 4 .any (Rows.peersAsksSpec.pre6 enc Try.prog Try.f4 Rows.peersAsksRow.domain false) (Rows.peersAsksSpec.post enc Try.prog Try.f4 false true false false) := by
  refine returnsInHanded_of_change (C := Try.checked) own started (by kernel_rfl) Try.func4
    (ChangeSpec.witness6 (enc := enc) (C := Try.checked) false ⟨#[], #[.slice none 0 0, .slice none 0 0, .slice none 0 0, .int .u64 0, .int .i64 0, .slice none 0 0], []⟩ 8 (by kernel_rfl) (by kernel_rfl) (by kernel_rfl) (by kernel_rfl)) ?_
  intro W base args ds gs before hval hW hcnd hh
  refine (opened H enc W base args ds gs before hval hW).mono fun e W' ⟨he, hg⟩ => ?_
  subst he
  exact ⟨_, rfl, law_post hW rfl laidOut (by kernel_rfl) rfl Try.underlying4 (fun l hl => by match l, hl with | [d0, d1, d2, d3, d4, d5], _ => rfl) hg⟩

theorem over : Rows.peersAsksRow.holds Try.pinned (OpenSpec.ofChange Rows.peersAsksSpec) :=
  OpenClaim.holds_of_wide 4 Try.f4 rfl rfl rfl rfl rfl rfl rfl ⟨rfl, rfl, rfl, rfl, rfl⟩ rfl rfl rfl rfl rfl (by kernel_rfl) Try.func4 (by kernel_rfl)
    (of_decide_eq_true (by kernel_rfl)) (by unfold Func.isWrapper; first | (rw [if_pos (by decide +kernel)]; kernel_rfl) | (rw [if_neg (by decide +kernel)]; exact ⟨rfl, rfl⟩))
    (fun os started H enc _ => lifted os started H enc)

/-- THE STATEMENT. -/
theorem proved : Rows.PeersAsksSaid :=
  over
#print axioms proved
end Go.Proofs.Ytdbodnpfeiplgaa.peersAsks
