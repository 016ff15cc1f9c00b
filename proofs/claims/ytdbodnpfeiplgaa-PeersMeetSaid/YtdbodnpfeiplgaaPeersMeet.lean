/- PeersMeet: any two majorities of a row have somebody in common, over one change too; what was put is parsed as it was. No condition. -/
import Derived.Test.YtdbodnpfeiplgaaPeT
import Derived.Test.YtdbodnpfeiplgaaPeV
import Derived.Test.YtdbodnpfeiplgaaPkD
import Derived.Test.YtdbodnpfeiplgaaPkF
import Derived.Test.YtdbodnpfeiplgaaPost
import Derived.Test.YtdbodnpfeiplgaaOpenS
import Derived.Deep.DeepCutAuto
namespace Go.Proofs.Ytdbodnpfeiplgaa.peersMeet
open Go.ChangeShapes Go.WideShapes Go.ChangeAt Go.RowKit
set_option linter.unusedVariables false

theorem laidOut : laidOutB Try.prog = true := by kernel_rfl
theorem own : ownKnob Try.prog.godebug = none := by kernel_rfl
theorem putL_bytes (l : List Int) : ∀ x ∈ putL l, 0 ≤ x ∧ x < 256 := fun x hx => by
  rcases List.mem_append.1 hx with h | h
  · exact putN_bytes _ x h
  · exact catN_bytes _ x h

set_option maxHeartbeats 4000000 in
set_option maxRecDepth 100000 in
theorem walk_false (A Ba Bb : Option Addr) (c ca cb : Nat) (l a b : List Int) (id : Int) (w : World) (h : Sl w .u64 A l) (h2 : Sl w .u64 Ba a) (h3 : Sl w .u64 Bb b) (hlc : l.length ≤ c) (hcm : c ≤ maxLen)
    (hp : ∀ x ∈ l, 0 ≤ x ∧ x < 18446744073709551616) (hid : 0 ≤ id) (hm : mayP l = true) (ha : a.length ≤ 20) (hb : b.length ≤ 20) :
    Calls Try.prog 5 #[.slice A l.length c, .slice Ba a.length ca, .slice Bb b.length cb, .int .u64 id, .bool false] w fun e w' => e = .returned (.bool true) ∧ Below w.heap.size w w' := by
  have hl7 := (mayP_iff.1 hm).2.2
  have hl1 := (mayP_iff.1 hm).2.1
  have KN := Lib.hid (fun W => known_any W)
  have CM := Lib.hid (fun W (hW : Below w.heap.size w W) => may_any A c l W (h.over hW) (by omega))
  have CA := Lib.hid (fun W (hW : Below w.heap.size w W) => wins_any A Ba c ca l a W (h.over hW) (h2.over hW) (by omega) (by omega))
  have CB := Lib.hid (fun W (hW : Below w.heap.size w W) => wins_any A Bb c cb l b W (h.over hW) (h3.over hW) (by omega) (by omega))
  have CC := Lib.hid (fun W (hW : Below w.heap.size w W) => common_any Ba Bb ca cb a b W (h2.over hW) (h3.over hW) (by omega) (by omega))
  have CR := Lib.hid (fun W (hW : Below w.heap.size w W) => remove_any A c l id W (h.over hW) (by omega) hlc hcm)
  have CD := Lib.hid (fun W (hW : Below w.heap.size w W) => add_any A c l id W (h.over hW) (by omega))
  have CP := Lib.hid (fun W (hW : Below w.heap.size w W) => pput_ok A c l W (h.over hW) (by omega) hp hm)
  have HS := Lib.hid (fun W (hW : Below w.heap.size w W) => h.over hW)
  have HM := Lib.hid hm
  have H3 := Lib.hid h3
  have HP := Lib.hid hp
  clear h h2 h3 hlc hcm hm hp
  go_enter Try.func5, Try.ntmps5
  go_wp2_with fail
  refine (KN.out _).mono ?_
  rintro e w1 ⟨rfl, hb1⟩
  have B1 := Lib.hid hb1
  clear hb1 KN
  go_wp2_with fail
  refine (CM.out _ B1.out).mono ?_
  rintro e w1' ⟨rfl, rfl⟩
  rw [HM.out]
  go_upto_region 5 with fail
  go_cut [47] (fun s wx => s = .bool false ∧ Below w.heap.size w wx)
  case first =>
    have C1 := CA.out _ B1.out
    have C2 := CB.out _ B1.out
    have C3 := CC.out _ B1.out
    rcases hva : winsP l a with _ | _
    · rw [hva] at C1
      have C1 := Lib.hid C1
      clear C2 C3
      go_wp2_with fail
      refine C1.out.mono ?_
      rintro e w2 ⟨rfl, rfl⟩
      go_wp2_with fail
      go_meet
      exact ⟨rfl, B1.out⟩
    · rw [hva] at C1
      have C1 := Lib.hid C1
      rcases hvb : winsP l b with _ | _
      · rw [hvb] at C2
        have C2 := Lib.hid C2
        clear C3
        go_wp2_with fail
        refine C1.out.mono ?_
        rintro e w2 ⟨rfl, rfl⟩
        go_wp2_with fail
        refine C2.out.mono ?_
        rintro e w2 ⟨rfl, rfl⟩
        go_wp2_with fail
        go_meet
        exact ⟨rfl, B1.out⟩
      · rw [hvb] at C2
        rw [meet1 hva hvb] at C3
        have C2 := Lib.hid C2
        have C3 := Lib.hid C3
        go_wp2_with fail
        refine C1.out.mono ?_
        rintro e w2 ⟨rfl, rfl⟩
        go_wp2_with fail
        refine C2.out.mono ?_
        rintro e w2 ⟨rfl, rfl⟩
        go_wp2_with fail
        refine C3.out.mono ?_
        rintro e w2 ⟨rfl, q, rfl⟩
        go_wp2_with fail
        go_meet
        exact ⟨rfl, below_drewN B1.out q⟩
  case rest =>
  clear B1
  obtain ⟨rfl, hbc⟩ := hcut
  have B2 := Lib.hid hbc
  clear hbc
  go_wp2_with fail
  refine (CR.out _ B2.out).mono ?_
  rintro e w3 ⟨Bm, dm, rfl, hown, hb3⟩
  have B4 := Lib.hid (nextC B2.out hb3)
  clear B2
  have HO := Lib.hid hown
  clear hown hb3
  go_upto_if 62 with fail
  go_cut [12] (fun s wx => s = .int .i64 (remE l id) ∧ Below w.heap.size w wx)
  case first =>
    by_cases hE : remE l id = 0
    · obtain ⟨hmm, hmeet, hbe, hbl, hbw⟩ := meet_rem hid hE
      have hown := HO.out
      have hm7 := (mayP_iff.1 hmm).2.2
      have hmd : (remL l id).length ≤ dm ∧ dm ≤ maxLen := by
        obtain ⟨B1, d1, e1, e2, e3⟩ := own_form hown
        injection e1 with _ _ e4
        omega
      have M1 := may_any Bm dm (remL l id) _ hown.sl (by omega)
      rw [hmm] at M1
      have M1 := Lib.hid M1
      have W1 := CA.out _ B4.out
      have W2 := wins_any Bm Bb dm cb (remL l id) b _ hown.sl (H3.out.over B4.out) (by omega) (by omega)
      have C3 := CC.out _ B4.out
      have HME := Lib.hid (hmeet a b)
      have HBL := Lib.hid hbl
      have HBW := Lib.hid hbw
      have HBE := Lib.hid hbe
      clear hmeet hbl hbw hmm hbe hown
      rw [hE]
      go_upto_region 11 with fail
      go_cut [81] (fun s wx => s = .bool false ∧ ∃ q, wx = w3.drewN q)
      case first =>
        rcases hva : winsP l a with _ | _
        · rw [hva] at W1
          have W1 := Lib.hid W1
          clear W2 C3
          go_wp2_with fail
          refine M1.out.mono ?_
          rintro e w2 ⟨rfl, rfl⟩
          go_wp2_with fail
          refine W1.out.mono ?_
          rintro e w2 ⟨rfl, rfl⟩
          go_wp2_with fail
          go_meet
          exact ⟨rfl, 0, by simp [World.drewN_zero]⟩
        · rw [hva] at W1
          have W1 := Lib.hid W1
          rcases hvb : winsP (remL l id) b with _ | _
          · rw [hvb] at W2
            have W2 := Lib.hid W2
            clear C3
            go_wp2_with fail
            refine M1.out.mono ?_
            rintro e w2 ⟨rfl, rfl⟩
            go_wp2_with fail
            refine W1.out.mono ?_
            rintro e w2 ⟨rfl, rfl⟩
            go_wp2_with fail
            refine W2.out.mono ?_
            rintro e w2 ⟨rfl, rfl⟩
            go_wp2_with fail
            go_meet
            exact ⟨rfl, 0, by simp [World.drewN_zero]⟩
          · rw [hvb] at W2
            rw [HME.out hva hvb] at C3
            have W2 := Lib.hid W2
            have C3 := Lib.hid C3
            go_wp2_with fail
            refine M1.out.mono ?_
            rintro e w2 ⟨rfl, rfl⟩
            go_wp2_with fail
            refine W1.out.mono ?_
            rintro e w2 ⟨rfl, rfl⟩
            go_wp2_with fail
            refine W2.out.mono ?_
            rintro e w2 ⟨rfl, rfl⟩
            go_wp2_with fail
            refine C3.out.mono ?_
            rintro e w2 ⟨rfl, q, rfl⟩
            go_wp2_with fail
            go_meet
            exact ⟨rfl, q, rfl⟩
      case rest =>
      obtain ⟨rfl, q, rfl⟩ := hcut
      have B5 := Lib.hid (below_drewN B4.out q)
      have HO5 := Lib.hid (HO.out.drewN q)
      clear M1 W1 W2 C3 B4 HO
      go_wp2_with fail
      refine (add_any Bm dm (remL l id) id _ HO5.out.sl (by omega)).mono ?_
      rintro e w6 ⟨Bk, dk, rfl, hown7, hb7⟩
      have B6 := B5
      have B7 := Lib.hid (nextC B6.out hb7)
      have W5 := wins_any A Bk c dk l (addL (remL l id) id) _ (HS.out _ B7.out) hown7.sl (by omega) (by rw [HBL.out]; omega)
      rw [HBW.out] at W5
      rw [HBL.out] at W5 ⊢
      rw [HBE.out]
      have W5 := Lib.hid W5
      clear hown7 hb7
      go_wp2_with fail
      refine W5.out.mono ?_
      rintro e w2 ⟨rfl, rfl⟩
      go_wp2_with fail
      go_meet
      exact ⟨by rw [hE], B7.out⟩
    · have hE' : (remE l id == 0) = false := beq_eq_false_iff_ne.2 hE
      go_wp2_with fail
      go_meet
      exact ⟨rfl, B4.out⟩
  case rest =>
  obtain ⟨rfl, hbc⟩ := hcut
  have B8 := Lib.hid hbc
  clear hbc
  go_wp2_with fail
  refine (CP.out _ B8.out).mono ?_
  rintro e w9 ⟨Bx, dx, rfl, hownx, hb9⟩
  have B9 := Lib.hid (nextC B8.out hb9)
  have hxd : (putL l).length ≤ dx ∧ dx ≤ maxLen := by
    obtain ⟨B1, d1, e1, e2, e3⟩ := own_form hownx
    injection e1 with _ _ e4
    omega
  have hby := putL_bytes l
  have hpr : prsP (putL l) = some l := (prsP_iff hby).2 ⟨HM.out, HP.out, rfl⟩
  have CX := parse_any Bx dx (putL l) w9 hownx.sl hxd.1 hxd.2 hby
  rw [hpr] at CX
  have CX := Lib.hid CX
  clear hownx hb9 hby hpr hxd B8
  go_wp2_with fail
  refine CX.out.mono ?_
  rintro e w10 ⟨By, dy, rfl, howny, hb10⟩
  have B10 := Lib.hid (nextC B9.out hb10)
  have Y1 := wins_any A By c dy l l _ (HS.out _ B10.out) howny.sl (by omega) (by omega)
  have Y2 := wins_any By A dy c l l _ howny.sl (HS.out _ B10.out) (by omega) (by omega)
  rw [wins_all HM.out fun x hx => hx] at Y1 Y2
  have Y1 := Lib.hid Y1
  have Y2 := Lib.hid Y2
  clear howny hb10 B9 CX
  go_wp2_with fail
  refine Y1.out.mono ?_
  rintro e w2 ⟨rfl, rfl⟩
  go_wp2_with fail
  refine Y2.out.mono ?_
  rintro e w2 ⟨rfl, rfl⟩
  go_wp2_with fail
  go_ret
  exact ⟨rfl, B10.out⟩

set_option maxHeartbeats 4000000 in
set_option maxRecDepth 100000 in
theorem walk_true (A Ba Bb : Option Addr) (c ca cb : Nat) (l a b : List Int) (id : Int) (w : World) (h : Sl w .u64 A l) (h2 : Sl w .u64 Ba a) (h3 : Sl w .u64 Bb b) (hlc : l.length ≤ c) (hcm : c ≤ maxLen)
    (hp : ∀ x ∈ l, 0 ≤ x ∧ x < 18446744073709551616) (hid : 0 ≤ id) (hm : mayP l = true) (ha : a.length ≤ 20) (hb : b.length ≤ 20) :
    Calls Try.prog 5 #[.slice A l.length c, .slice Ba a.length ca, .slice Bb b.length cb, .int .u64 id, .bool true] w fun e w' => e = .returned (.bool true) ∧ Below w.heap.size w w' := by
  have hl7 := (mayP_iff.1 hm).2.2
  have hl1 := (mayP_iff.1 hm).2.1
  have KN := Lib.hid (fun W => known_any W)
  have CM := Lib.hid (fun W (hW : Below w.heap.size w W) => may_any A c l W (h.over hW) (by omega))
  have CA := Lib.hid (fun W (hW : Below w.heap.size w W) => wins_any A Ba c ca l a W (h.over hW) (h2.over hW) (by omega) (by omega))
  have CB := Lib.hid (fun W (hW : Below w.heap.size w W) => wins_any A Bb c cb l b W (h.over hW) (h3.over hW) (by omega) (by omega))
  have CC := Lib.hid (fun W (hW : Below w.heap.size w W) => common_any Ba Bb ca cb a b W (h2.over hW) (h3.over hW) (by omega) (by omega))
  have CR := Lib.hid (fun W (hW : Below w.heap.size w W) => remove_any A c l id W (h.over hW) (by omega) hlc hcm)
  have CD := Lib.hid (fun W (hW : Below w.heap.size w W) => add_any A c l id W (h.over hW) (by omega))
  have CP := Lib.hid (fun W (hW : Below w.heap.size w W) => pput_ok A c l W (h.over hW) (by omega) hp hm)
  have HS := Lib.hid (fun W (hW : Below w.heap.size w W) => h.over hW)
  have HM := Lib.hid hm
  have H3 := Lib.hid h3
  have HP := Lib.hid hp
  clear h h2 h3 hlc hcm hm hp
  go_enter Try.func5, Try.ntmps5
  go_wp2_with fail
  refine (KN.out _).mono ?_
  rintro e w1 ⟨rfl, hb1⟩
  have B1 := Lib.hid hb1
  clear hb1 KN
  go_wp2_with fail
  refine (CM.out _ B1.out).mono ?_
  rintro e w1' ⟨rfl, rfl⟩
  rw [HM.out]
  go_upto_region 5 with fail
  go_cut [47] (fun s wx => s = .bool false ∧ Below w.heap.size w wx)
  case first =>
    have C1 := CA.out _ B1.out
    have C2 := CB.out _ B1.out
    have C3 := CC.out _ B1.out
    rcases hva : winsP l a with _ | _
    · rw [hva] at C1
      have C1 := Lib.hid C1
      clear C2 C3
      go_wp2_with fail
      refine C1.out.mono ?_
      rintro e w2 ⟨rfl, rfl⟩
      go_wp2_with fail
      go_meet
      exact ⟨rfl, B1.out⟩
    · rw [hva] at C1
      have C1 := Lib.hid C1
      rcases hvb : winsP l b with _ | _
      · rw [hvb] at C2
        have C2 := Lib.hid C2
        clear C3
        go_wp2_with fail
        refine C1.out.mono ?_
        rintro e w2 ⟨rfl, rfl⟩
        go_wp2_with fail
        refine C2.out.mono ?_
        rintro e w2 ⟨rfl, rfl⟩
        go_wp2_with fail
        go_meet
        exact ⟨rfl, B1.out⟩
      · rw [hvb] at C2
        rw [meet1 hva hvb] at C3
        have C2 := Lib.hid C2
        have C3 := Lib.hid C3
        go_wp2_with fail
        refine C1.out.mono ?_
        rintro e w2 ⟨rfl, rfl⟩
        go_wp2_with fail
        refine C2.out.mono ?_
        rintro e w2 ⟨rfl, rfl⟩
        go_wp2_with fail
        refine C3.out.mono ?_
        rintro e w2 ⟨rfl, q, rfl⟩
        go_wp2_with fail
        go_meet
        exact ⟨rfl, below_drewN B1.out q⟩
  case rest =>
  clear B1
  obtain ⟨rfl, hbc⟩ := hcut
  have B2 := Lib.hid hbc
  clear hbc
  go_wp2_with fail
  refine (CR.out _ B2.out).mono ?_
  rintro e w3 ⟨Bm, dm, rfl, hown, hb3⟩
  have B3 := Lib.hid (nextC B2.out hb3)
  clear hb3 hown B2
  go_wp2_with fail
  refine (CD.out _ B3.out).mono ?_
  rintro e w4 ⟨Bm, dm, rfl, hown, hb3⟩
  have B4 := Lib.hid (nextC B3.out hb3)
  clear B3
  have HO := Lib.hid hown
  clear hown hb3
  go_upto_if 62 with fail
  go_cut [12] (fun s wx => s = .int .i64 (addE l id) ∧ Below w.heap.size w wx)
  case first =>
    by_cases hE : addE l id = 0
    · obtain ⟨hmm, hmeet, hbe, hbl, hbw⟩ := meet_add hid hE
      have hown := HO.out
      have hm7 := (mayP_iff.1 hmm).2.2
      have hmd : (addL l id).length ≤ dm ∧ dm ≤ maxLen := by
        obtain ⟨B1, d1, e1, e2, e3⟩ := own_form hown
        injection e1 with _ _ e4
        omega
      have M1 := may_any Bm dm (addL l id) _ hown.sl (by omega)
      rw [hmm] at M1
      have M1 := Lib.hid M1
      have W1 := CA.out _ B4.out
      have W2 := wins_any Bm Bb dm cb (addL l id) b _ hown.sl (H3.out.over B4.out) (by omega) (by omega)
      have C3 := CC.out _ B4.out
      have HME := Lib.hid (hmeet a b)
      have HBL := Lib.hid hbl
      have HBW := Lib.hid hbw
      have HBE := Lib.hid hbe
      clear hmeet hbl hbw hmm hbe hown
      rw [hE]
      go_upto_region 11 with fail
      go_cut [81] (fun s wx => s = .bool false ∧ ∃ q, wx = w4.drewN q)
      case first =>
        rcases hva : winsP l a with _ | _
        · rw [hva] at W1
          have W1 := Lib.hid W1
          clear W2 C3
          go_wp2_with fail
          refine M1.out.mono ?_
          rintro e w2 ⟨rfl, rfl⟩
          go_wp2_with fail
          refine W1.out.mono ?_
          rintro e w2 ⟨rfl, rfl⟩
          go_wp2_with fail
          go_meet
          exact ⟨rfl, 0, by simp [World.drewN_zero]⟩
        · rw [hva] at W1
          have W1 := Lib.hid W1
          rcases hvb : winsP (addL l id) b with _ | _
          · rw [hvb] at W2
            have W2 := Lib.hid W2
            clear C3
            go_wp2_with fail
            refine M1.out.mono ?_
            rintro e w2 ⟨rfl, rfl⟩
            go_wp2_with fail
            refine W1.out.mono ?_
            rintro e w2 ⟨rfl, rfl⟩
            go_wp2_with fail
            refine W2.out.mono ?_
            rintro e w2 ⟨rfl, rfl⟩
            go_wp2_with fail
            go_meet
            exact ⟨rfl, 0, by simp [World.drewN_zero]⟩
          · rw [hvb] at W2
            rw [HME.out hva hvb] at C3
            have W2 := Lib.hid W2
            have C3 := Lib.hid C3
            go_wp2_with fail
            refine M1.out.mono ?_
            rintro e w2 ⟨rfl, rfl⟩
            go_wp2_with fail
            refine W1.out.mono ?_
            rintro e w2 ⟨rfl, rfl⟩
            go_wp2_with fail
            refine W2.out.mono ?_
            rintro e w2 ⟨rfl, rfl⟩
            go_wp2_with fail
            refine C3.out.mono ?_
            rintro e w2 ⟨rfl, q, rfl⟩
            go_wp2_with fail
            go_meet
            exact ⟨rfl, q, rfl⟩
      case rest =>
      obtain ⟨rfl, q, rfl⟩ := hcut
      have B5 := Lib.hid (below_drewN B4.out q)
      have HO5 := Lib.hid (HO.out.drewN q)
      clear M1 W1 W2 C3 B4 HO
      go_wp2_with fail
      refine (add_any Bm dm (addL l id) id _ HO5.out.sl (by omega)).mono ?_
      rintro e w6 ⟨Bk0, dk0, rfl, hown6, hb6⟩
      have B6 := Lib.hid (nextC B5.out hb6)
      have CR2 := Lib.hid (remove_any Bm dm (addL l id) id _ (HO5.out.sl.over hb6) (by omega) hmd.1 hmd.2)
      clear hown6 hb6
      go_wp2_with fail
      refine CR2.out.mono ?_
      rintro e w6 ⟨Bk, dk, rfl, hown7, hb7⟩
      have B7 := Lib.hid (nextC B6.out hb7)
      have W5 := wins_any A Bk c dk l (remL (addL l id) id) _ (HS.out _ B7.out) hown7.sl (by omega) (by rw [HBL.out]; omega)
      rw [HBW.out] at W5
      rw [HBL.out] at W5 ⊢
      rw [HBE.out]
      have W5 := Lib.hid W5
      clear hown7 hb7
      go_wp2_with fail
      refine W5.out.mono ?_
      rintro e w2 ⟨rfl, rfl⟩
      go_wp2_with fail
      go_meet
      exact ⟨by rw [hE], B7.out⟩
    · have hE' : (addE l id == 0) = false := beq_eq_false_iff_ne.2 hE
      go_wp2_with fail
      go_meet
      exact ⟨rfl, B4.out⟩
  case rest =>
  obtain ⟨rfl, hbc⟩ := hcut
  have B8 := Lib.hid hbc
  clear hbc
  go_wp2_with fail
  refine (CP.out _ B8.out).mono ?_
  rintro e w9 ⟨Bx, dx, rfl, hownx, hb9⟩
  have B9 := Lib.hid (nextC B8.out hb9)
  have hxd : (putL l).length ≤ dx ∧ dx ≤ maxLen := by
    obtain ⟨B1, d1, e1, e2, e3⟩ := own_form hownx
    injection e1 with _ _ e4
    omega
  have hby := putL_bytes l
  have hpr : prsP (putL l) = some l := (prsP_iff hby).2 ⟨HM.out, HP.out, rfl⟩
  have CX := parse_any Bx dx (putL l) w9 hownx.sl hxd.1 hxd.2 hby
  rw [hpr] at CX
  have CX := Lib.hid CX
  clear hownx hb9 hby hpr hxd B8
  go_wp2_with fail
  refine CX.out.mono ?_
  rintro e w10 ⟨By, dy, rfl, howny, hb10⟩
  have B10 := Lib.hid (nextC B9.out hb10)
  have Y1 := wins_any A By c dy l l _ (HS.out _ B10.out) howny.sl (by omega) (by omega)
  have Y2 := wins_any By A dy c l l _ howny.sl (HS.out _ B10.out) (by omega) (by omega)
  rw [wins_all HM.out fun x hx => hx] at Y1 Y2
  have Y1 := Lib.hid Y1
  have Y2 := Lib.hid Y2
  clear howny hb10 B9 CX
  go_wp2_with fail
  refine Y1.out.mono ?_
  rintro e w2 ⟨rfl, rfl⟩
  go_wp2_with fail
  refine Y2.out.mono ?_
  rintro e w2 ⟨rfl, rfl⟩
  go_wp2_with fail
  go_ret
  exact ⟨rfl, B10.out⟩

set_option maxRecDepth 100000 in
theorem walk_triv (A Ba Bb : Option Addr) (c ca cb : Nat) (l a b : List Int) (id : Int) (add : Bool) (w : World) (h : Sl w .u64 A l) (hl : l.length ≤ 9223372036854775807)
    (hn : mayP l = false ∨ mayP l = true ∧ 20 < a.length ∨ mayP l = true ∧ a.length ≤ 20 ∧ 20 < b.length) :
    Calls Try.prog 5 #[.slice A l.length c, .slice Ba a.length ca, .slice Bb b.length cb, .int .u64 id, .bool add] w fun e w' => e = .returned (.bool true) ∧ Below w.heap.size w w' := by
  have KN := Lib.hid (fun W => known_any W)
  have CM := Lib.hid (fun W (hW : Below w.heap.size w W) => may_any A c l W (h.over hW) hl)
  rcases hn with hm | ⟨hm, hlen⟩ | ⟨hm, hlen, hlen2⟩
  all_goals
    rw [hm] at CM
    clear hm
    go_enter Try.func5, Try.ntmps5
    go_wp2_with fail
    refine (KN.out _).mono ?_
    rintro e w1 ⟨rfl, hb1⟩
    have B1 := Lib.hid hb1
    clear hb1 KN
    go_wp2_with fail
    refine (CM.out _ B1.out).mono ?_
    rintro e w1' ⟨rfl, rfl⟩
    go_wp2_with fail
    go_ret
    exact ⟨rfl, B1.out⟩

theorem opened (H : Type) (enc : TypeId × Value → H) (W : World) (base : Nat) (args : Array Value) (ds gs : List (DataW H)) (before : List MemPlace)
    (hval : ∀ (j : Nat) t v, Try.f5.params[j]? = some t → args[j]? = some v → Value.okWide Try.prog W .any base t v)
    (hW : DataW.Whole enc Try.prog Try.f5.params.toList Rows.peersMeetSpec.vars false W args.toList ds gs before) :
    Calls Try.prog 5 args W fun e w' => e = .returned (.bool true) ∧ Below W.heap.size W w' := by
  obtain ⟨p, q, hA, hV, rfl, hfz, hnd⟩ := hW
  rw [Try.params5] at hA hval
  obtain ⟨v0, vs0, d0, ds0, p0, q0, hargs, rfl, rfl, h0, r0⟩ := trodAll_cons hA
  obtain ⟨v1, vs1, d1, ds1, p1, q1, rfl, rfl, rfl, h1, r1⟩ := trodAll_cons r0
  obtain ⟨v2, vs2, d2, ds2, p2, q2, rfl, rfl, rfl, h2, r2⟩ := trodAll_cons r1
  obtain ⟨v3, vs3, d3, ds3, p3, q3, rfl, rfl, rfl, h3, r3⟩ := trodAll_cons r2
  obtain ⟨v4, vs4, d4, ds4, p4, q4, rfl, rfl, rfl, h4, r4⟩ := trodAll_cons r3
  obtain ⟨rfl, rfl, rfl⟩ := trodAll_nil r4
  obtain rfl : args = #[v0, v1, v2, v3, v4] := by cases args; simp_all
  obtain ⟨A, c, l, rfl, s0, c0, m0, w0, n0⟩ := open_row Try.underlying22 Try.underlying23 (by kernel_rfl) (hval 0 22 v0 rfl rfl) h0
  obtain ⟨Ba, ca, a, rfl, s1, c1, m1, w1, n1⟩ := open_row Try.underlying22 Try.underlying23 (by kernel_rfl) (hval 1 22 v1 rfl rfl) h1
  obtain ⟨Bb, cb, b, rfl, s2, c2, m2, w2, n2⟩ := open_row Try.underlying22 Try.underlying23 (by kernel_rfl) (hval 2 22 v2 rfl rfl) h2
  obtain ⟨id, rfl, _, _, w3⟩ := open_int Try.underlying23 (hval 3 23 v3 rfl rfl) h3
  obtain ⟨add, rfl, _⟩ := open_bool Try.underlying4 (hval 4 4 v4 rfl rfl) h4
  have hl : l.length ≤ 9223372036854775807 := by unfold maxLen at m0; omega
  rcases hm : mayP l with _ | _
  · exact walk_triv A Ba Bb c ca cb l a b id add W s0 hl (.inl hm)
  by_cases ha : 20 < a.length
  · exact walk_triv A Ba Bb c ca cb l a b id add W s0 hl (.inr (.inl ⟨hm, ha⟩))
  by_cases hb : 20 < b.length
  · exact walk_triv A Ba Bb c ca cb l a b id add W s0 hl (.inr (.inr ⟨hm, by omega, hb⟩))
  rcases add with _ | _
  · exact walk_false A Ba Bb c ca cb l a b id W s0 s1 s2 c0 m0 (fun x hx => wf_u64 (w0 x hx)) (wf_u64 w3).1 hm (by omega) (by omega)
  · exact walk_true A Ba Bb c ca cb l a b id W s0 s1 s2 c0 m0 (fun x hx => wf_u64 (w0 x hx)) (wf_u64 w3).1 hm (by omega) (by omega)

set_option maxRecDepth 100000 in
theorem lifted (os : Os) (started : os.Started) (H : Type) (enc : TypeId × Value → H) :
    ReturnsInHanded {} Try.checked os 5 .any (Rows.peersMeetSpec.pre6 enc Try.prog Try.f5 Rows.peersMeetRow.domain false) (Rows.peersMeetSpec.post enc Try.prog Try.f5 false true false false) := by
  refine returnsInHanded_of_change (C := Try.checked) own started (by kernel_rfl) Try.func5
    (ChangeSpec.witness6 (enc := enc) (C := Try.checked) false ⟨#[], #[.slice none 0 0, .slice none 0 0, .slice none 0 0, .int .u64 0, .bool false], []⟩ 8 (by kernel_rfl) (by kernel_rfl) (by kernel_rfl) (by kernel_rfl)) ?_
  intro W base args ds gs before hval hW hcnd hh
  refine (opened H enc W base args ds gs before hval hW).mono fun e W' ⟨he, hg⟩ => ?_
  subst he
  exact ⟨_, rfl, law_post hW rfl laidOut (by kernel_rfl) rfl Try.underlying4 (fun l hl => by match l, hl with | [d0, d1, d2, d3, d4], _ => rfl) hg⟩

theorem over : Rows.peersMeetRow.holds Try.pinned (OpenSpec.ofChange Rows.peersMeetSpec) :=
  OpenClaim.holds_of_wide 5 Try.f5 rfl rfl rfl rfl rfl rfl rfl ⟨rfl, rfl, rfl, rfl, rfl⟩ rfl rfl rfl rfl rfl (by kernel_rfl) Try.func5 (by kernel_rfl)
    (of_decide_eq_true (by kernel_rfl)) (by unfold Func.isWrapper; first | (rw [if_pos (by decide +kernel)]; kernel_rfl) | (rw [if_neg (by decide +kernel)]; exact ⟨rfl, rfl⟩))
    (fun os started H enc _ => lifted os started H enc)

/-- THE STATEMENT. -/
theorem proved : Rows.PeersMeetSaid :=
  over
#print axioms proved
end Go.Proofs.Ytdbodnpfeiplgaa.peersMeet
