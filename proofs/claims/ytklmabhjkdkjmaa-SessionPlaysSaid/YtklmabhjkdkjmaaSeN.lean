/- The reference's clerk: Of. -/
import Derived.Test.YtklmabhjkdkjmaaSeL
import Derived.BigQuiet
namespace Go.Proofs.Ytklmabhjkdkjmaa
set_option linter.unusedVariables false
open Go.RowKit
theorem cls_take {l : List Tk} {k : Nat} (hk : k < l.length) : cls (l.take (k + 1)) = cls (l.take k) ++ [l[k].cl] := by
  rw [List.take_succ_eq_append_getElem hk]; simp only [cls, List.map_append, List.map_cons, List.map_nil]
theorem TkS.news {w : World} {ad : Addr} {ts : List Tk} (h : TkS w (some ad) ts) (j : Nat) (u : Value) (hu : (tkCs ts)[j]? = some u) : w.cell? (ad.add j) = some u := by
  have hj : j < ts.length * 4 := by
    have := (List.getElem?_eq_some_iff.1 hu).1
    rwa [tkCs_len] at this
  obtain ⟨q, hq⟩ : ∃ q, j / 4 = q := ⟨_, rfl⟩
  have hql : q < ts.length := by omega
  obtain ⟨ad', e, _, h1, h2, h3, h4⟩ := h q hql
  injection e with e
  subst e
  obtain ⟨g1, g2, g3, g4⟩ := tkCs_get ts q hql
  rcases (by omega : j = q * 4 ∨ j = q * 4 + 1 ∨ j = q * 4 + 2 ∨ j = q * 4 + 3) with e | e | e | e
  · rw [e] at hu ⊢; rw [h1, ← g1, hu]
  · rw [e] at hu ⊢; rw [h2, ← g2, hu]
  · rw [e] at hu ⊢; rw [h3, ← g3, hu]
  · rw [e] at hu ⊢; rw [h4, ← g4, hu]
/-- append(row, others...). -/
theorem appT {ops : Array Oper} {rest : List Oper} {o : Oper} {a : Act} {Q : Exit → Act → World → Prop} {w : World} (hgd : o.guard = none) (s x : Operand)
    (ho : o.op = .call { callee := .builtin .append, args := #[s, x], argTypes := #[22, 22] }) (base : Nat) (v : Value) (n : Nat) (xs : List Tk) (hn : n = xs.length) (hs : a.eval s = v) (hown : w.ownsRow base 32 4 v n (tkCs xs))
    (ad : Addr) (m c : Nat) (ts : List Tk) (hx : a.eval x = .slice (some ad) m c) (hm : m = ts.length) (hm0 : 0 < m) (htk : TkS w (some ad) ts) (hbase : base ≤ w.heap.size) (hlen : n + m ≤ 1000000)
    (h : ∀ B' d' w', OwnT base w' B' d' (xs ++ ts) → Below base w w' → wpList Try.prog ops Q rest (a.put o.dst (.slice B' (n + m) d')) w') :
    wpList Try.prog ops Q (o :: rest) a w := by
  obtain ⟨i0, hi, hz0, hz1, hz2⟩ := info_parts infoT
  subst hn hm
  refine wpList_append_own _ hgd s x _ ho base 32 i0 (.agg #[.int .u64 0, .int .u64 0, .int .i64 0, .int .u64 0]) 4 32 Try.underlying22 hi hz0 hz1 hz2 rfl (by decide) _ _ _ hs hown ad ts.length c (tkCs ts) hx (tkCs_len ts)
    (fun j u hu => htk.news j u hu) (tkCs_one ts) (by unfold maxLen; omega) (by omega) hbase ?_
  intro v' w' hown' hgrow _
  obtain ⟨B', d', rfl, -, -⟩ : ∃ B d, v' = .slice B (xs.length + ts.length) d ∧ xs.length + ts.length ≤ d ∧ d ≤ maxLen := by
    rcases hown'.2 with ⟨_, h0⟩ | ⟨g, cap, cur, rfl, _, _, h1, h2, _⟩
    · omega
    · exact ⟨_, _, rfl, h1, h2⟩
  have ho2 : OwnT base w' B' d' (xs ++ ts) := by
    unfold OwnT
    rw [List.length_append, tkCs_append]
    exact hown'
  refine h B' d' w' ho2 ((Below.refl base w).grown hgrow hbase fun g hg => ?_)
  rcases hown.2 with ⟨e, _⟩ | ⟨g', cap, cur, e, hb, _⟩
  · rw [e] at hg; simp [Value.ownBlock] at hg
  · rw [e] at hg; simp [Value.ownBlock] at hg; omega
set_option maxHeartbeats 2000000 in
set_option maxRecDepth 100000 in
theorem rof_any (A : Option Addr) (c : Nat) (l : List Tk) (w : World) (h : TkS w A l) (hl : l.length ≤ 1000) :
    Calls Try.prog 16 #[.slice A l.length c] w fun e w' => Below w.heap.size w w' ∧ ((¬ GoodT l ∧ e = .returned (.tuple #[.pointer none, .int .i64 2])) ∨
      (GoodT l ∧ ∃ r A' d', w.heap.size ≤ r ∧ e = .returned (.tuple #[.pointer (some ⟨r, 0, none⟩), .int .i64 0]) ∧ RfAt w' r A' d' l)) := by
  have H := Lib.hid h
  clear h
  go_enter Try.func16, Try.ntmps16
  by_cases h16 : 16 < l.length
  · have t1 : (16 : Int) < (l.length : Int) := by omega
    go_wp2_with fail
    go_ret2
    exact ⟨Below.refl _ _, .inl ⟨fun hg => by have := hg.few; omega, rfl⟩⟩
  have t1 : decide ((16 : Int) < (l.length : Int)) = false := decide_eq_false (by omega)
  go_wp2_with fail
  go_loopw [4] (fun i wr => ∃ k : Nat, k ≤ l.length ∧ i = .int .i64 k ∧ (cls (l.take k)).Nodup ∧ (∀ t ∈ l.take k, t.cl ≠ 0 ∧ t.sq ≠ 0) ∧ Below w.heap.size w wr) (fun i _ => l.length - (intOf i).toNat)
  case atStart => exact ⟨0, by omega, rfl, by simp [cls], by simp, Below.refl _ _⟩
  case round =>
    obtain ⟨k, hk, rfl, hnd, hso, hkp⟩ := hrel
    have ND := Lib.hid hnd
    have SO := Lib.hid hso
    have KP := Lib.hid hkp
    clear hnd hso hkp
    by_cases hlt : k < l.length
    · obtain ⟨ad, rfl, -⟩ := H.out k hlt
      have hkl : (k : Int) < (l.length : Int) := by omega
      obtain ⟨hab, h1, h2, -, -⟩ := (H.out.over KP.out).cells4 k hlt
      have hct := cls_take hlt
      have hin2 : (l[k].cl = 0 ∨ l[k].sq = 0) → ¬ GoodT l := fun h0 hg => by
        have := hg.some_ _ (List.getElem_mem hlt)
        omega
      have hin1 : ∀ j, (hj : j < k) → (l[j]'(by omega)).cl = l[k].cl → ¬ GoodT l := fun j hj he hg => by
        have hn := hg.once
        have hk2 : k < (cls l).length := by simpa [cls] using hlt
        have hj2 : j < (cls l).length := by omega
        have : (cls l)[j] = (cls l)[k] := by simpa [cls] using he
        exact (List.pairwise_iff_getElem.1 hn j k hj2 hk2 hj) this
      have hst : ∀ t ∈ l.take (k + 1), t.cl ≠ 0 ∧ t.sq ≠ 0 → True := fun _ _ _ => trivial
      have hall : l[k].cl ≠ 0 → l[k].sq ≠ 0 → ∀ t ∈ l.take (k + 1), t.cl ≠ 0 ∧ t.sq ≠ 0 := fun a b t ht => by
        rw [List.take_succ_eq_append_getElem hlt] at ht
        rcases List.mem_append.1 ht with h | h
        · exact SO.out t h
        · rw [List.mem_singleton] at h; subst h; exact ⟨a, b⟩
      have hnj : (∀ j, (hj : j < k) → (l[j]'(by omega)).cl ≠ l[k].cl) → (cls (l.take (k + 1))).Nodup := fun hj => by
        rw [hct]
        refine List.nodup_append.2 ⟨ND.out, by simp, fun a ha b hb e => ?_⟩
        rw [List.mem_singleton] at hb
        subst hb
        subst e
        unfold cls at ha
        obtain ⟨x, hx, he⟩ := List.mem_map.1 ha
        obtain ⟨i, hi, rfl⟩ := List.getElem_of_mem hx
        rw [List.length_take] at hi
        rw [List.getElem_take] at he
        exact hj i (by omega) he
      have HI1 := Lib.hid hin1
      have HI2 := Lib.hid hin2
      have HA := Lib.hid hall
      have HJ := Lib.hid hnj
      clear hin1 hin2 hall hnj hst hct
      by_cases hz : l[k].cl = 0 ∨ l[k].sq = 0
      · have hcase : (l[k].cl == 0) = true ∨ (l[k].cl == 0) = false ∧ (l[k].sq == 0) = true := by
          by_cases h0 : l[k].cl = 0
          · exact .inl (by simpa using h0)
          · exact .inr ⟨beq_eq_false_iff_ne.2 h0, by simpa using hz.resolve_left h0⟩
        have HB := Lib.hid (HI2.out hz)
        clear hz
        rcases hcase with h3 | ⟨h3, h4⟩
        all_goals
          go_wp2_with fail
          go_ret2
          exact ⟨KP.out, .inl ⟨HB.out, rfl⟩⟩
      · have h3 : (l[k].cl == 0) = false := beq_eq_false_iff_ne.2 (fun e => hz (.inl e))
        have h4 : (l[k].sq == 0) = false := beq_eq_false_iff_ne.2 (fun e => hz (.inr e))
        have HAL := Lib.hid (HA.out (fun e => hz (.inl e)) (fun e => hz (.inr e)))
        clear hz
        go_wp2_with fail
        go_loopw [5] (fun i wr2 => ∃ j : Nat, j ≤ k ∧ i = .int .i64 j ∧ (∀ i, (hi : i < j) → ∀ hj : i < l.length, l[i].cl ≠ l[k].cl) ∧ Below w.heap.size w wr2) (fun i _ => k - (intOf i).toNat)
        case atStart => exact ⟨0, by omega, rfl, fun i hi => absurd hi (by omega), KP.out⟩
        case round =>
          obtain ⟨j, hj, rfl, hne, hkp2⟩ := hrel
          have NE := Lib.hid hne
          have K2 := Lib.hid hkp2
          clear hne hkp2 KP h1 h2
          obtain ⟨hab2, q1, -⟩ := (H.out.over K2.out).cells4 k hlt
          by_cases hjk : j < k
          · have t3 : (j : Int) < (k : Int) := by omega
            have hjl : (j : Int) < (l.length : Int) := by omega
            have hjl2 : j < l.length := by omega
            obtain ⟨-, q2, -⟩ := (H.out.over K2.out).cells4 j hjl2
            by_cases he : l[j].cl = l[k].cl
            · have t4 : (l[j].cl == l[k].cl) = true := by simpa using he
              have HB := Lib.hid (HI1.out j hjk he)
              clear he
              go_wp2_with fail
              go_big_quiet (fail)
              go_wp2_with fail
              go_ret2
              exact ⟨below_drewN K2.out _, .inl ⟨HB.out, rfl⟩⟩
            · have t4 : (l[j].cl == l[k].cl) = false := beq_eq_false_iff_ne.2 he
              have HE := Lib.hid he
              clear he
              go_wp2_with fail
              go_big_quiet (fail)
              go_wp2_with fail
              go_roundw
              case rel => exact ⟨j + 1, by omega, by go_num, fun i hi hl => by
                by_cases hij : i < j
                · exact NE.out i hij hl
                · obtain rfl : i = j := by omega
                  exact HE.out, below_drewN K2.out _⟩
              case measure => simp [intOf]; omega
          · obtain rfl : j = k := by omega
            have HN := Lib.hid (HJ.out (fun i hi => NE.out i hi _))
            go_wp2_with fail
            go_roundw
            case rel => exact ⟨j + 1, by omega, by go_num, HN.out, HAL.out, K2.out⟩
            case measure => simp [intOf]; omega
    · obtain rfl : k = l.length := by omega
      rw [List.take_length] at ND SO
      have HG := Lib.hid (show GoodT l from ⟨ND.out, SO.out, by omega⟩)
      have tz : decide ((l.length : Int) < (l.length : Int)) = false := by simp
      clear ND SO
      rcases l with _ | ⟨t0, l2⟩
      · have hbw : Below w.heap.size w (wr.alloc (.cells #[] 32)) := KP.out.alloc KP.out.size _
        have KB := Lib.hid hbw
        have HRW := Lib.hid (Row.new (wr.alloc (.cells #[] 32)) 41 #[.slice (some ⟨wr.heap.size, 0, none⟩) 0 0])
        clear hbw
        cases A with
        | none =>
          go_wp2_with fail
          go_ret2
          exact ⟨KB.out.alloc KB.out.size _, .inr ⟨HG.out, wr.heap.size + 1, some ⟨wr.heap.size, 0, none⟩, 0, by have := KP.out.size; omega, by simp, by simpa using HRW.out, TkS.nil _ _, by simp, fun ad e => by
            injection e with e
            subst e
            exact ⟨#[], (0, 0), (Below.heap_alloc _ _ _ (by simp)).trans (heap_alloc_new wr _)⟩⟩⟩
        | some ad =>
          go_wp2_with fail
          go_ret2
          exact ⟨KB.out.alloc KB.out.size _, .inr ⟨HG.out, wr.heap.size + 1, some ⟨wr.heap.size, 0, none⟩, 0, by have := KP.out.size; omega, by simp, by simpa using HRW.out, TkS.nil _ _, by simp, fun ad e => by
            injection e with e
            subst e
            exact ⟨#[], (0, 0), (Below.heap_alloc _ _ _ (by simp)).trans (heap_alloc_new wr _)⟩⟩⟩
      · obtain ⟨ad, rfl, -⟩ := H.out 0 (by simp)
        obtain ⟨l, hle⟩ : ∃ l, t0 :: l2 = l := ⟨_, rfl⟩
        have hl0 : 0 < l.length := by rw [← hle]; simp
        rw [hle] at HG H hl h16 ⊢
        have hTW := Lib.hid ((H.out.over KP.out).over ((Below.refl wr.heap.size wr).alloc (Nat.le_refl _) (.cells #[] 32)))
        have hrow : (wr.alloc (.cells #[] 32)).ownsRow wr.heap.size 32 4 (.slice (some ⟨wr.heap.size, 0, none⟩) 0 0) 0 (tkCs []) :=
          ⟨rfl, .inr ⟨wr.heap.size, 0, #[], rfl, Nat.le_refl _, heap_alloc_new wr _, Nat.le_refl _, by unfold maxLen; omega, rfl, rfl⟩⟩
        go_wp2_with (at_builtin; refine appT rfl _ _ rfl wr.heap.size _ 0 [] rfl rfl hrow ad l.length c l rfl rfl hl0 hTW.out (by simp) (by omega) ?_)
        intro B' d' w6 hown6 hb6
        have O6 := Lib.hid hown6
        have K6 := Lib.hid (KP.out.trans (((Below.refl wr.heap.size wr).alloc (Nat.le_refl _) (.cells #[] 32)).trans hb6 |>.mono KP.out.size))
        clear hown6 hb6 hrow
        go_wp2_with fail
        go_ret2
        rw [hle]
        have hr := Row.new w6 41 #[.slice B' l.length d']
        exact ⟨K6.out.alloc K6.out.size _, .inr ⟨HG.out, w6.heap.size, B', d', K6.out.size, rfl, hr, O6.out.tks.over ((Below.refl _ _).alloc (Nat.le_refl _) _), by omega, (O6.out.alloc _).blk⟩⟩
end Go.Proofs.Ytklmabhjkdkjmaa
