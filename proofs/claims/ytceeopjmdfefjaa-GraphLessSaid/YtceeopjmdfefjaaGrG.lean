/- Contract of the reference's Users: the least next, till there is none. -/
import Derived.Test.YtceeopjmdfefjaaGrF
namespace Go.Proofs.Ytceeopjmdfefjaa
set_option linter.unusedVariables false
open Go.RowKit Go.Sort
/-- One that waits and is not yet in the row. -/
def UC (l : List Nd) (id : Int) (out : List Int) (n : Nd) : Prop := id ∈ n.deps ∧ ¬ n.id ∈ out
/-- The best of the first k: -1, or a place. -/
def UB (l : List Nd) (id : Int) (out : List Int) (k : Nat) (bz : Int) : Prop :=
  (bz = -1 ∧ ∀ n ∈ l.take k, ¬ UC l id out n) ∨ ∃ b : Nat, ∃ (hb : b < l.length), bz = b ∧ UC l id out l[b] ∧ ∀ n ∈ l.take k, UC l id out n → l[b].id ≤ n.id
variable {l : List Nd} {id : Int} {out : List Int} {k : Nat} {bz : Int}
theorem UB.no (h : UB l id out k bz) (hk : k < l.length) (hc : ¬ UC l id out l[k]) : UB l id out (k + 1) bz := by
  rcases h with ⟨h1, h2⟩ | ⟨b, hb, h1, h2, h3⟩
  · exact .inl ⟨h1, fun n hn => by
      rcases mem_take_nd hk hn with h | rfl
      · exact h2 n h
      · exact hc⟩
  · exact .inr ⟨b, hb, h1, h2, fun n hn hu => by
      rcases mem_take_nd hk hn with h | rfl
      · exact h3 n h hu
      · exact absurd hu hc⟩
theorem UB.first (hk : k < l.length) (h : ∀ n ∈ l.take k, ¬ UC l id out n) (hc : UC l id out l[k]) : UB l id out (k + 1) k := .inr ⟨k, hk, rfl, hc, fun n hn hu => by
  rcases mem_take_nd hk hn with h2 | rfl
  · exact absurd hu (h n h2)
  · exact Int.le_refl _⟩
theorem UB.less {b : Nat} (hk : k < l.length) (hb : b < l.length) (h3 : ∀ n ∈ l.take k, UC l id out n → l[b].id ≤ n.id) (hc : UC l id out l[k]) (hlt : l[k].id < l[b].id) : UB l id out (k + 1) k := .inr ⟨k, hk, rfl, hc, fun n hn hu => by
  rcases mem_take_nd hk hn with h2 | rfl
  · have := h3 n h2 hu; omega
  · exact Int.le_refl _⟩
theorem UB.keep {b : Nat} (hk : k < l.length) (hb : b < l.length) (h2 : UC l id out l[b]) (h3 : ∀ n ∈ l.take k, UC l id out n → l[b].id ≤ n.id) (hlt : ¬ l[k].id < l[b].id) : UB l id out (k + 1) b := .inr ⟨b, hb, rfl, h2, fun n hn hu => by
  rcases mem_take_nd hk hn with h4 | rfl
  · exact h3 n h4 hu
  · omega⟩
/-- The row so far. -/
structure UO (l : List Nd) (id : Int) (out : List Int) : Prop where
  rise : out.Pairwise (· < ·)
  mem : ∀ x ∈ out, Edge l x id
  more : ∀ x, Edge l x id → ¬ x ∈ out → ∀ y ∈ out, y < x
theorem UO.nil : UO l id [] := ⟨by simp, by simp, by simp⟩
theorem UO.snoc (h : UO l id out) {b : Nat} (hb : b < l.length) (h2 : UC l id out l[b]) (h3 : ∀ n ∈ l, UC l id out n → l[b].id ≤ n.id) : UO l id (out ++ [l[b].id]) := by
  have he : Edge l l[b].id id := ⟨l[b], List.getElem_mem _, rfl, h2.1⟩
  refine ⟨List.pairwise_append.2 ⟨h.rise, by simp, fun y hy z hz => ?_⟩, fun x hx => ?_, fun x hx hn y hy => ?_⟩
  · rw [List.mem_singleton] at hz
    subst hz
    exact h.more _ he h2.2 y hy
  · rcases List.mem_append.1 hx with hx | hx
    · exact h.mem x hx
    · rw [List.mem_singleton] at hx; subst hx; exact he
  · have hn2 : ¬ x ∈ out := fun h => hn (by simp [h])
    rcases List.mem_append.1 hy with hy | hy
    · exact h.more x hx hn2 y hy
    · rw [List.mem_singleton] at hy
      subst hy
      obtain ⟨n, hn3, rfl, hd⟩ := hx
      have := h3 n hn3 ⟨hd, hn2⟩
      have : l[b].id ≠ n.id := fun e => hn (by simp [e])
      omega
theorem UO.done (h : UO l id out) (h2 : ∀ n ∈ l, ¬ UC l id out n) : Usr l id out := ⟨h.rise, fun x => ⟨h.mem x, fun ⟨n, hn, e, hd⟩ => Classical.byContradiction fun hx => h2 n hn ⟨hd, fun h => hx (e ▸ h)⟩⟩⟩
theorem UO.len (h : UO l id out) : out.length ≤ l.length := by
  have := nodup_le (rise_nodup h.rise) (ys := ids l) fun x hx => by
    obtain ⟨n, hn, e, _⟩ := h.mem x hx
    exact mem_ids.2 ⟨n, hn, e⟩
  simpa [ids] using this
theorem UO.lt (h : UO l id out) {b : Nat} (hb : b < l.length) (h2 : UC l id out l[b]) (h3 : ∀ n ∈ l, UC l id out n → l[b].id ≤ n.id) : out.length < l.length := by
  have := (h.snoc hb h2 h3).len
  rw [List.length_append, List.length_singleton] at this
  omega
set_option maxHeartbeats 4000000 in
set_option maxRecDepth 100000 in
theorem refUsers_any (A : Option Addr) (c : Nat) (l : List Nd) (id : Int) (w : World) (h : NdS w A l) (hl : l.length ≤ 64) (hd : ∀ n ∈ l, n.deps.length ≤ 1000000) :
    Calls Try.prog 14 #[.slice A l.length c, .int .u64 id] w fun e w' => ∃ B d us, e = .returned (.slice B us.length d) ∧ Usr l id us ∧ OwnU w.heap.size w' B d us ∧ Below w.heap.size w w' := by
  have d1 : decide ((64 : Int) < (l.length : Int)) = false := decide_eq_false (by omega)
  have H := Lib.hid h
  have HD := Lib.hid hd
  clear h hd
  go_enter Try.func14, Try.ntmps14
  go_wp2_with fail
  go_loopg [5] 65 (fun g v wr => ∃ (B : Option Addr) (d : Nat) (out : List Int), v = .slice B out.length d ∧ OwnU w.heap.size wr B d out ∧ Below w.heap.size w wr ∧ UO l id out ∧ 65 - out.length ≤ g)
  case atStart => exact ⟨none, 0, [], rfl, OwnU.nil _ _, Below.refl _ _, UO.nil, by simp⟩
  case round =>
    obtain ⟨B, d, out, rfl, hown, hkp, huo, hg⟩ := hrel
    have OW := Lib.hid hown
    have KP := Lib.hid hkp
    have UU := Lib.hid huo
    have hol := huo.len
    clear hown hkp huo
    go_wp2_with fail
    go_loopw [6, 7] (fun b i wr => ∃ (k : Nat) (bz : Int), k ≤ l.length ∧ i = .int .i64 k ∧ b = .int .i64 bz ∧ OwnU w.heap.size wr B d out ∧ Below w.heap.size w wr ∧ UB l id out k bz) (fun _ i _ => l.length - (intOf i).toNat)
    case atStart => exact ⟨0, -1, by omega, rfl, rfl, OW.out, KP.out, .inl ⟨rfl, fun n hn => by simp at hn⟩⟩
    case round =>
      obtain ⟨k, bz, hk, rfl, rfl, hown, hkp, hub⟩ := hrel
      have O2 := Lib.hid hown
      have K2 := Lib.hid hkp
      have U2 := Lib.hid hub
      clear hown hkp hub OW KP
      by_cases hlt : k < l.length
      · obtain ⟨ad, B1, c1, rfl, hb, h1, h2, hsl, hn1, hle1, hc1⟩ := (H.out.over K2.out) k hlt
        have hdl := HD.out l[k] (List.getElem_mem _)
        have hNO := fun (hc : ¬ UC l id out l[k]) => U2.out.no hlt hc
        have hUC : UC l id out l[k] ↔ id ∈ l[k].deps ∧ ¬ l[k].id ∈ out := Iff.rfl
        obtain ⟨y, hy⟩ : ∃ y, l[k].id = y := ⟨_, rfl⟩
        obtain ⟨ds, hds⟩ : ∃ ds, l[k].deps = ds := ⟨_, rfl⟩
        rw [hy] at h1
        rw [hds] at h2 hsl hdl
        rw [hy, hds] at hUC
        have hC1 : ∀ n, Calls Try.prog 18 #[.slice B1 ds.length c1, .int .u64 id] (wr.drewN n) fun e w' => e = .returned (.bool (decide (id ∈ ds))) ∧ w' = wr.drewN n := fun n => has_any B1 c1 ds id (wr.drewN n) (hsl.drewN n) (by omega)
        have hC2 : ∀ n, Calls Try.prog 18 #[.slice B out.length d, .int .u64 y] (wr.drewN n) fun e w' => e = .returned (.bool (decide (y ∈ out))) ∧ w' = wr.drewN n := fun n => has_any B d out y (wr.drewN n) (O2.out.sl.drewN n) (by omega)
        have HUC := Lib.hid hUC
        have HY := Lib.hid hy
        rw [show ad.add (k * 2 + 1) = ⟨(ad.add (k * 2)).block, (ad.add (k * 2)).off + 1, none⟩ by rw [← add_add]; rfl] at h2
        have HNO := Lib.hid hNO
        clear hUC hy hds hsl hn1 hle1 hc1 hNO hb
        by_cases hm : id ∈ ds
        · simp only [decide_eq_true hm] at hC1
          by_cases hn : y ∈ out
          · simp only [decide_eq_true hn] at hC2
            have C1 := Lib.hid hC1
            have C2 := Lib.hid hC2
            have U3 := Lib.hid (HNO.out fun h => (HUC.out.1 h).2 hn)
            clear hC1 hC2 hm hn HNO
            go_wp2_with fail
            go_big_quiet (first | (go_at_call_of 18 (Value.int .u64 id); refine Calls.quiet_of_same (C1.out _)) | (go_at_call 18; refine Calls.quiet_of_same (C2.out _)))
            go_wp2_with fail
            go_roundw
            case rel => exact ⟨k + 1, bz, by omega, by go_num, rfl, O2.out.drewN _, below_drewN K2.out _, U3.out⟩
            case measure => simp [intOf]; omega
          · simp only [decide_eq_false hn] at hC2
            have C1 := Lib.hid hC1
            have C2 := Lib.hid hC2
            have hc : UC l id out l[k] := HUC.out.2 ⟨hm, hn⟩
            have HC := Lib.hid hc
            clear hC1 hC2 hm hn HNO hc
            rcases U2.out with ⟨rfl, hz⟩ | ⟨b, hbl, rfl, hub, hmin⟩
            · have U3 := Lib.hid (UB.first hlt hz HC.out)
              clear U2 hz
              go_wp2_with fail
              go_big_quiet (first | (go_at_call_of 18 (Value.int .u64 id); refine Calls.quiet_of_same (C1.out _)) | (go_at_call 18; refine Calls.quiet_of_same (C2.out _)))
              go_wp2_with fail
              go_roundw
              case rel => exact ⟨k + 1, (k : Int), by omega, by go_num, rfl, O2.out.drewN _, below_drewN K2.out _, U3.out⟩
              case measure => simp [intOf]; omega
            · obtain ⟨ad2, B2, c2, e2, hb2, g1, g2, _⟩ := (H.out.over K2.out) b hbl
              injection e2 with e2
              subst e2
              have hless := fun (h : l[k].id < l[b].id) => UB.less hlt hbl hmin HC.out h
              have hkeep := fun (h : ¬ l[k].id < l[b].id) => UB.keep hlt hbl hub hmin h
              obtain ⟨z, hz⟩ : ∃ z, l[b].id = z := ⟨_, rfl⟩
              rw [hz] at g1 hless hkeep
              rw [HY.out] at hless hkeep
              have HL := Lib.hid hless
              have HK := Lib.hid hkeep
              have p0 : decide ((b : Int) < 0) = false := decide_eq_false (by omega)
              clear U2 hub hmin hless hkeep hz g2 hb2
              by_cases hyz : y < z
              · have U3 := Lib.hid (HL.out hyz)
                have p1 : decide (y < z) = true := decide_eq_true hyz
                clear hyz HL HK
                go_wp2_with fail
                go_big_quiet (first | (go_at_call_of 18 (Value.int .u64 id); refine Calls.quiet_of_same (C1.out _)) | (go_at_call 18; refine Calls.quiet_of_same (C2.out _)))
                go_wp2_with fail
                go_roundw
                case rel => exact ⟨k + 1, (k : Int), by omega, by go_num, rfl, O2.out.drewN _, below_drewN K2.out _, U3.out⟩
                case measure => simp [intOf]; omega
              · have U3 := Lib.hid (HK.out hyz)
                have p1 : decide (y < z) = false := decide_eq_false hyz
                clear hyz HL HK
                go_wp2_with fail
                go_big_quiet (first | (go_at_call_of 18 (Value.int .u64 id); refine Calls.quiet_of_same (C1.out _)) | (go_at_call 18; refine Calls.quiet_of_same (C2.out _)))
                go_wp2_with fail
                go_roundw
                case rel => exact ⟨k + 1, (b : Int), by omega, by go_num, rfl, O2.out.drewN _, below_drewN K2.out _, U3.out⟩
                case measure => simp [intOf]; omega
        · simp only [decide_eq_false hm] at hC1
          have C1 := Lib.hid hC1
          have U3 := Lib.hid (HNO.out fun h => hm (HUC.out.1 h).1)
          clear hC1 hC2 hm HNO
          go_wp2_with fail
          go_big_quiet (first | (go_at_call_of 18 (Value.int .u64 id); refine Calls.quiet_of_same (C1.out _)))
          go_wp2_with fail
          go_roundw
          case rel => exact ⟨k + 1, bz, by omega, by go_num, rfl, O2.out.drewN _, below_drewN K2.out _, U3.out⟩
          case measure => simp [intOf]; omega
      · obtain rfl : k = l.length := by omega
        rcases U2.out with ⟨rfl, hz⟩ | ⟨b, hbl, rfl, hub, hmin⟩
        · rw [List.take_length] at hz
          have UD := Lib.hid (UU.out.done hz)
          clear hz U2
          go_wp2_with fail
          go_ret
          exact ⟨B, d, out, rfl, UD.out, O2.out, K2.out⟩
        · rw [List.take_length] at hmin
          have U3 := Lib.hid (UU.out.snoc hbl hub hmin)
          have hol2 := UU.out.lt hbl hub hmin
          obtain ⟨ad, B2, c2, rfl, hb2, g1, g2, _⟩ := (H.out.over K2.out) b hbl
          obtain ⟨z, hz⟩ : ∃ z, l[b].id = z := ⟨_, rfl⟩
          rw [hz] at g1 U3
          have p0 : decide ((b : Int) < 0) = false := decide_eq_false (by omega)
          clear U2 hub hmin hz g2 hb2
          go_wp2_with (at_builtin; refine app1U rfl _ _ rfl w.heap.size B _ d out z rfl rfl O2.out rfl K2.out.size (by omega) ?_; intro B' d' w6 hown6 hg6 hb6; have O6 := Lib.hid (And.intro hown6 (K2.out.trans hb6)); clear hown6 hg6 hb6)
          go_roundg (65 - (out.length + 1))
          case measure => omega
          case rel => exact ⟨B', d', out ++ [z], by rw [List.length_append]; rfl, O6.out.1, O6.out.2, U3.out, by rw [List.length_append, List.length_singleton]; omega⟩
end Go.Proofs.Ytceeopjmdfefjaa
