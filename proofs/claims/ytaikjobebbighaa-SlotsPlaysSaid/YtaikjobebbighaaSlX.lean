/- Slots: Set at a book. -/
import Derived.Test.YtaikjobebbighaaSlV
namespace Go.Proofs.Ytaikjobebbighaa
set_option linter.unusedVariables false
set_option maxRecDepth 100000
open Go.RowKit
set_option maxHeartbeats 4000000 in
theorem set_yes (g b : Nat) (st : Bk) (ys : List Wh) (k : Key) (s : Pst) (y : Wh) (n : Int) (w : World) (h : BkAt w g b st ys) (hg : bkGet st ys k = some (s, y)) (hk0 : k ≠ []) (hk : k.length ≤ 32) (h0 : 1 ≤ n) (h1 : n ≤ 1048576) (ho : PoolOk s.size s.h s.l) :
    Calls Try.prog 11 #[.pointer (some ⟨g, 0, none⟩), nm k, .int .i64 n] w fun e w' => ∃ (B : Option Addr) (d : Nat) (ys' : List Wh), e = .returned (.tuple #[.slice B (servesF n s.h s.l).2.2.length d, .int .i64 0]) ∧ Gave w w' g b ys' B d (servesF n s.h s.l).2.2 ∧ Turn w w' g b ys (bkPut st k (serveP n s.h s.l)) ys' := by
  obtain ⟨es, hm, hd⟩ := h.map
  have hpool := hd.pool hg
  have cb := h.row.cell 0
  simp at cb
  have hl := h.look k (by omega)
  rw [hg] at hl
  have hl2 : (Instr.lookup 72 (.map (some b)) (nm k) false).run Try.prog w = .ok (.pointer (some ⟨y.p, 0, none⟩)) w := hl
  obtain ⟨c, c', r1, r2, r3, r4⟩ := id hpool
  have p0 := r1.cell 0
  have p1 := r1.free 0
  simp at p0
  have hb3 : But y.foot w (w.setCell ⟨y.p, 0, none⟩ (.int .i64 n)) := (But.refl _ w).put (.inl (.inl rfl)) _
  have SV := Lib.hid (serve_turn h hg hb3 (hpool.resize n) (fun j hj => .inl hj) (ho.resize (by omega) h1))
  have d0 : k.isEmpty = false := by simpa using hk0
  have d1 : decide ((32 : Int) < (k.length : Int)) = false := decide_eq_false (by omega)
  have d2 : decide (n < 1) = false := decide_eq_false (by omega)
  have d3 : decide ((1048576 : Int) < n) = false := decide_eq_false (by omega)
  clear hl h hm hd hpool r1 r2 r3 r4 hb3
  go_enter Try.func11, Try.ntmps11
  go_wp2_with fail
  refine SV.out.mono ?_
  rintro e w4 ⟨B, d, ys', rfl, hga, htu⟩
  have HG := Lib.hid hga
  have HT := Lib.hid htu
  clear hga htu SV
  go_wp2_with fail
  go_ret2
  exact ⟨B, d, ys', rfl, HG.out, HT.out⟩
theorem ownsMap_size {w : World} {P : Program} {k : TypeId} {R : Value → Option (DataW Value × List MemPlace)} {b n : Nat} {es : List (Lit × DataW Value)} (h : w.ownsMap P k R b n (.map es)) : w.ownsMap P k R b es.length (.map es) := by
  obtain ⟨es0, clock, hb, F, hs, hD⟩ := h
  refine ⟨es0, clock, hb, F, ?_, hD⟩
  injection hD with hD
  rw [hD, length_sorted]
  simp
theorem set_name (g b : Nat) (st : Bk) (ys : List Wh) (k : Key) (n : Int) (w : World) (h : BkAt w g b st ys) (hk0 : k.length = 0 ∨ 32 < k.length) (hk : k.length ≤ 1000000) :
    Calls Try.prog 11 #[.pointer (some ⟨g, 0, none⟩), nm k, .int .i64 n] w fun e w' => e = .returned (.tuple #[.slice none 0 0, .int .i64 140]) ∧ w' = w := by
  have cb := h.row.cell 0
  simp at cb
  have hl := h.look k hk
  obtain ⟨v, hv⟩ : ∃ v, ptrOf (bkGet st ys k) = v := ⟨_, rfl⟩
  rw [hv] at hl
  clear h
  by_cases hk1 : k = []
  · subst hk1
    go_enter Try.func11, Try.ntmps11
    go_wp2_with fail
    go_ret2
    exact ⟨rfl, rfl⟩
  · have d0 : k.isEmpty = false := by simpa using hk1
    have hne : k.length ≠ 0 := by simpa using hk1
    have d1 : (32 : Int) < (k.length : Int) := by omega
    go_enter Try.func11, Try.ntmps11
    go_wp2_with fail
    go_ret2
    exact ⟨rfl, rfl⟩
theorem set_arg (g b : Nat) (st : Bk) (ys : List Wh) (k : Key) (n : Int) (w : World) (h : BkAt w g b st ys) (hk0 : k ≠ []) (hk : k.length ≤ 32) (hn : n < 1 ∨ 1048576 < n) :
    Calls Try.prog 11 #[.pointer (some ⟨g, 0, none⟩), nm k, .int .i64 n] w fun e w' => e = .returned (.tuple #[.slice none 0 0, .int .i64 2]) ∧ w' = w := by
  have cb := h.row.cell 0
  simp at cb
  have hl := h.look k (by omega)
  obtain ⟨v, hv⟩ : ∃ v, ptrOf (bkGet st ys k) = v := ⟨_, rfl⟩
  rw [hv] at hl
  clear h
  have d0 : k.isEmpty = false := by simpa using hk0
  have d1 : decide ((32 : Int) < (k.length : Int)) = false := decide_eq_false (by omega)
  by_cases h1 : n < 1
  · go_enter Try.func11, Try.ntmps11
    go_wp2_with fail
    go_ret2
    exact ⟨rfl, rfl⟩
  · have d2 : decide (n < 1) = false := decide_eq_false h1
    have d3 : (1048576 : Int) < n := by omega
    go_enter Try.func11, Try.ntmps11
    go_wp2_with fail
    go_ret2
    exact ⟨rfl, rfl⟩
theorem BkAt.len_ {w : World} {g b : Nat} {st : Bk} {ys : List Wh} (h : BkAt w g b st ys) (ty : TypeId) : (Builtin.len_ #[72] ty #[.map (some b)]).run Try.prog w = .ok (.int .i64 st.length) w := by
  obtain ⟨es, hm, he⟩ := h.map
  rw [hm.len Try.underlying72]
  show Result.ok (Value.int IntKind.i64 (es.length : Int)) w = _
  rw [he.len.2]
theorem set_full (g b : Nat) (st : Bk) (ys : List Wh) (k : Key) (n : Int) (w : World) (h : BkAt w g b st ys) (hg : bkGet st ys k = none) (hk0 : k ≠ []) (hk : k.length ≤ 32) (h0 : 1 ≤ n) (h1 : n ≤ 1048576) (hf : 64 ≤ st.length) :
    Calls Try.prog 11 #[.pointer (some ⟨g, 0, none⟩), nm k, .int .i64 n] w fun e w' => e = .returned (.tuple #[.slice none 0 0, .int .i64 6]) ∧ w' = w := by
  have cb := h.row.cell 0
  simp at cb
  have hl := h.look k (by omega)
  rw [hg] at hl
  have hl2 : (Instr.lookup 72 (.map (some b)) (nm k) false).run Try.prog w = .ok (.pointer none) w := hl
  have hln := fun ty => h.len_ ty
  have d0 : k.isEmpty = false := by simpa using hk0
  have d1 : decide ((32 : Int) < (k.length : Int)) = false := decide_eq_false (by omega)
  have d2 : decide (n < 1) = false := decide_eq_false (by omega)
  have d3 : decide ((1048576 : Int) < n) = false := decide_eq_false (by omega)
  have d4 : (64 : Int) ≤ (st.length : Int) := by omega
  clear hl h
  go_enter Try.func11, Try.ntmps11
  go_wp2_with fail
  go_ret2
  exact ⟨rfl, rfl⟩
/-- A pool put into the book. -/
theorem BkAt.add {w w1 : World} {g b : Nat} {st : Bk} {ys : List Wh} {k : Key} {y : Wh} {s : Pst} (h : BkAt w g b st ys) (hw : Below w.heap.size w w1) (hy : y.p = w.heap.size ∧ y.A = none ∧ y.A' = none) (hp : PoolAt w1 y.p s.size s.h s.l y.A y.A') (hk : k.length ≤ 1000000) (hs : stGet st k = none) (hst : st.length ≤ 1000000) :
    ∃ w2, (Instr.mapUpdate 72 (.map (some b)) (nm k) (.pointer (some ⟨y.p, 0, none⟩))).run Try.prog w1 = .ok () w2 ∧ BkAt w2 g b (stIns (k, s) st) (whIns k y st ys) ∧ But (fun j => j = b) w1 w2 := by
  obtain ⟨es, hm, hd⟩ := (h.over hw).map
  obtain ⟨w2, hrun, hown, hgr⟩ := hm.update (Maps.string_keyed Try.underlying9) Try.underlying72 (by rw [hd.len.2]; unfold maxLen; omega) (key := nm k) (kl := .string k) (key_nm k hk) (val := .pointer (some ⟨y.p, 0, none⟩)) (d := .held (.pointer (some ⟨y.p, 0, none⟩))) (ps := []) rfl
  have hb2 : But (fun j => j = b) w1 w2 := But.of_grown hgr fun j e => by injection e with e; exact e.symm
  have hput : (DataW.map es).put (.string k) (.held (.pointer (some ⟨y.p, 0, none⟩))) = .map (DataW.insert (.string k, .held (.pointer (some ⟨y.p, 0, none⟩))) es) := by
    show DataW.map (DataW.insert _ (es.filter fun p => !p.1.sameKey (.string k))) = _
    rw [hd.del hs]
  rw [hput] at hown
  have hfoot : ∀ j, y.foot j → j = w.heap.size := fun j hj => by
    obtain ⟨e1, e2, e3⟩ := hy
    unfold Wh.foot Foot at hj
    rw [e2, e3] at hj
    rcases hj with rfl | e | e
    · exact e1
    · cases e
    · cases e
  have hmp : ∃ es0 clock, w1.heap[b]? = some (.map es0 clock) := by
    obtain ⟨es0, clock, h1, -⟩ := hm
    exact ⟨es0, clock, h1⟩
  obtain ⟨es0, clock, hmb⟩ := hmp
  have hnb : ∀ u ∈ whIns k y st ys, ∀ j, u.foot j → ¬ j = b := fun u hu j hj e => by
    subst e
    rcases List.mem_cons.1 ((whIns_perm k y st ys).mem_iff.1 hu) with rfl | hu
    · exact hp.not_map hmb hj
    · obtain ⟨es', hm', hd'⟩ := h.map
      have := hm'.lt
      have hl := hd'.lt u hu j hj
      obtain ⟨es1, clock1, h1, -⟩ := hm'
      have hpb : ∀ {es : List (Lit × DataW Value)} {st : Bk} {ys : List Wh}, BEnt w es st ys → u ∈ ys → ∃ s : Pst, PoolAt w u.p s.size s.h s.l u.A u.A' := by
        intro es st ys
        induction ys generalizing es st with
        | nil => intro _ h2; simp at h2
        | cons z ys ih =>
          intro hE h2
          rcases es with _ | ⟨e, es⟩ <;> rcases st with _ | ⟨q, st⟩
          · exact hE.elim
          · exact hE.elim
          · exact hE.elim
          · obtain ⟨k1, k2, k3, k4⟩ := hE
            rcases List.mem_cons.1 h2 with rfl | h2
            · exact ⟨_, k3⟩
            · exact ih k4 h2
      obtain ⟨s1, hs1⟩ := hpb hd' hu
      exact hs1.not_map h1 hj
  refine ⟨w2, hrun, ⟨(h.row.over hw).but hb2 (fun e => ?_), ⟨_, ownsMap_size hown, (hd.ins k hp).but hb2 hnb⟩, ?_⟩, hb2⟩
  · subst e
    have := (h.row.over hw).symm.trans hmb
    simp at this
  · refine (List.Perm.pairwise_iff (fun {u v} huv j h1 h2 => huv j h2 h1) (whIns_perm k y st ys)).2 (List.pairwise_cons.2 ⟨fun v hv j h1 h2 => ?_, h.apart⟩)
    have e := hfoot j h1
    have := h.mine_lt (j := j) (.inr (.inr ⟨v, hv, h2⟩))
    omega
end Go.Proofs.Ytaikjobebbighaa
