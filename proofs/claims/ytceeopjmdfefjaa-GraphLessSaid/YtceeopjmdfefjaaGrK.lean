/- Contract of graph.order. -/
import Derived.Test.YtceeopjmdfefjaaGrL
import Derived.WalkMore
namespace Go.Proofs.Ytceeopjmdfefjaa
set_option linter.unusedVariables false
open Go.RowKit Go.Sort
/-- The map while it is filled: j stores at most. -/
def LfN (l : List Nd) (w0 w : World) (b : Nat) (ks : List Int) (j : Nat) : Prop := ∃ (n : Nat) (D : DataW Value), w.ownsMap Try.prog 23 rawR b n D ∧ n ≤ j ∧ (∀ x, (Lit.int .u64 x).wf = true → (Maps.has D (.int .u64 x) = true ↔ x ∈ ks)) ∧
    (∀ m ∈ l, m.id ∈ ks → ∃ B c, D.atKey (.int .u64 m.id) (.held (.slice none 0 0)) = .held (.slice B m.deps.length c) ∧ Sl w0 .u64 B m.deps)
theorem LfN.below {l : List Nd} {w0 w w' : World} {b : Nat} {ks : List Int} {j : Nat} (h : LfN l w0 w b ks j) (hb : Below w.heap.size w w') : LfN l w0 w' b ks j := by
  obtain ⟨n, D, h1, h2⟩ := h
  exact ⟨n, D, h1.kept (row := none) ⟨hb.os, hb.tape, hb.output, hb.size, fun k hk _ => hb.block k hk⟩ (by simp), h2⟩
theorem box_ne {base : Nat} {w : World} {B : Option Addr} {d : Nat} {xs : List Int} {X : Nat} {v : Value} (ho : OwnU base w B d xs) (hr : Row w X 26 #[v]) (n : Nat) : some X ≠ Value.ownBlock (.slice B n d) := fun e => by
  rcases ho.2 with ⟨e1, _⟩ | ⟨g, cap, cur, e1, _, hg, _⟩
  · injection e1 with e1
    subst e1
    cases e
  · injection e1 with e1
    subst e1
    have : X = g := by simpa [Value.ownBlock] using e
    subst this
    have h2 := hr.symm.trans hg
    simp at h2
theorem LfM.row {l : List Nd} {w0 w : World} {b : Nat} {ks : List Int} (h : LfM l w0 w b ks) {base : Nat} {B : Option Addr} {d : Nat} {xs : List Int} (ho : OwnU base w B d xs) (n : Nat) : some b ≠ Value.ownBlock (.slice B n d) := fun e => by
  obtain ⟨m, D, ⟨es, clock, hb, _⟩, _⟩ := h.ex
  rcases ho.2 with ⟨e1, _⟩ | ⟨g, cap, cur, e1, _, hg, _⟩
  · injection e1 with e1
    subst e1
    cases e
  · injection e1 with e1
    subst e1
    have : b = g := by simpa [Value.ownBlock] using e
    subst this
    rw [hb] at hg
    cases hg
theorem dropL {l : List Nd} {w0 : World} {ops : Array Oper} {rest : List Oper} {o : Oper} {a : Act} {Q : Exit → Act → World → Prop} {w : World} (hgd : o.guard = none) (m x : Operand) (hop : o.op = Op.call { callee := Callee.builtin Builtin.delete, args := #[m, x], argTypes := #[47, 23] })
    (b : Nat) (ks : List Int) (y : Int) (hm : a.eval m = .map (some b)) (hx : a.eval x = .int .u64 y) (h : LfM l w0 w b ks) (hy : (Lit.int .u64 y).wf = true) (hl : ∀ m ∈ l, (Lit.int .u64 m.id).wf = true)
    (hK : ∀ w', LfM l w0 w' b (ks.filter (fun x => decide (x ≠ y))) → w.grownBy w' (some b) → wpList Try.prog ops Q rest (a.put o.dst (.tuple #[])) w') : wpList Try.prog ops Q (o :: rest) a w := by
  refine wpList_plain hgd fun K' hK' => ?_
  obtain ⟨w', hrun, r1, r2⟩ := h.drop hy hl o.type
  unfold Oper.wp
  simp [execOp, hop, resolve, invoke, builtin, hm, hx, hrun, Result.andThen]
  exact hK' _ _ (hK w' r1 r2)
set_option maxHeartbeats 4000000 in
set_option maxRecDepth 100000 in
theorem order_any (A : Option Addr) (c : Nat) (l : List Nd) (w : World) (h : NdS w A l) (hf : Fine l) (hw : ∀ n ∈ l, (Lit.int .u64 n.id).wf = true) :
    Calls Try.prog 17 #[.slice A l.length c] w fun e w' => ∃ B d out, e = .returned (.slice B out.length d) ∧ Ends l out ∧ OwnU w.heap.size w' B d out ∧ Below w.heap.size w w' := by
  have hmm := @run_makeMap Try.prog
  have H := Lib.hid h
  have HF := Lib.hid hf
  have HW := Lib.hid hw
  clear h hf hw
  go_enter Try.func17, Try.ntmps17
  go_wp2_with fail
  go_step3
  go_wp2_with fail
  go_loopw [12] (fun i wr => ∃ k : Nat, k ≤ l.length ∧ i = .int .i64 k ∧ Below w.heap.size w wr ∧ LfN l w wr w.heap.size (ids (l.take k)) k) (fun i _ => l.length - (intOf i).toNat)
  case atStart => exact ⟨0, by omega, rfl, (Below.refl _ w).alloc (Nat.le_refl _) _, ⟨0, .map [], World.ownsMap_made w _ _ _, by omega, fun x _ => by simp [Maps.has, ids], fun m _ hm => by simp [ids] at hm⟩⟩
  case round =>
    obtain ⟨k, hk, rfl, hkp, hlf⟩ := hrel
    have KP := Lib.hid hkp
    have LF := Lib.hid hlf
    clear hkp hlf hmm
    by_cases hlt : k < l.length
    · obtain ⟨ad, B1, c1, rfl, hb, h1, h2, hsl, hn1, hle1, hc1⟩ := H.out k hlt
      have h1 := (KP.out.cell (p := ad.add (k * 2)) (by rw [add_block]; exact hb)).trans h1
      have h2 := (KP.out.cell (p := ad.add (k * 2 + 1)) (by rw [add_block]; exact hb)).trans h2
      have hnd : l[k] ∈ l := List.getElem_mem _
      have hits := ids_take_succ hlt
      obtain ⟨nd, hndq⟩ : ∃ nd, l[k] = nd := ⟨_, rfl⟩
      rw [hndq] at h1 h2 hsl hnd hits
      have HSL := Lib.hid hsl
      have HND := Lib.hid hnd
      have HIT := Lib.hid hits
      rw [show ad.add (k * 2 + 1) = ⟨(ad.add (k * 2)).block, (ad.add (k * 2)).off + 1, none⟩ by rw [← add_add]; rfl] at h2
      clear hsl hnd hits hndq hn1 hle1 hc1 hb
      have hl64 := HF.out.long
      go_upto_region 5 with fail
      obtain ⟨W3, hW3⟩ : ∃ W3, wr.alloc (.cells #[.int .u64 nd.id, .slice B1 nd.deps.length c1] 35) = W3 := ⟨_, rfl⟩
      have rC : Row W3 wr.heap.size 35 #[.int .u64 nd.id, .slice B1 nd.deps.length c1] := by rw [← hW3]; exact Row.new wr _ _
      have b3 : Below wr.heap.size wr W3 := by rw [← hW3]; exact (Below.refl _ wr).alloc (Nat.le_refl _) _
      rw [hW3]
      have z0 := rC.cell 0
      have z1 := rC.cell 1
      simp at z0 z1
      have L3 := Lib.hid (LF.out.below b3)
      have K3 := Lib.hid (nextC KP.out b3)
      clear hW3 rC b3 LF KP h1 h2
      have hk9 : k ≤ 900 := by omega
      go_wp2_with (at_mapUpdate; refine putL rfl _ _ _ rfl w.heap.size (ids (l.take k)) nd B1 c1 rfl rfl rfl HSL.out HF.out.once HND.out ⟨by obtain ⟨n, D, q1, q2, q3⟩ := L3.out; exact ⟨n, D, q1, by omega, q3⟩⟩ (HW.out nd HND.out) k hk9 L3.out ?_; intro w5 hl5 hg5; have L5 := Lib.hid hl5; have K5 := Lib.hid (K3.out.grown hg5 K3.out.size (fun q hq => by cases hq; exact Nat.le_refl _)); clear hl5 hg5)
      go_roundw
      case rel => exact ⟨k + 1, by omega, by go_num, K5.out, by unfold LfN; rw [HIT.out]; exact L5.out⟩
      case measure => simp [intOf]; omega
    · obtain rfl : k = l.length := by omega
      rw [List.take_length] at LF
      have L0 := Lib.hid (LfM.mk (l := l) (w0 := w) (w := wr) (b := w.heap.size) (ks := ids l) (by obtain ⟨n, D, q1, q2, q3⟩ := LF.out; exact ⟨n, D, q1, by have := HF.out.long; omega, q3⟩))
      clear LF
      go_wp2_with fail
      go_step3
      go_wp2_with fail
      obtain ⟨X, hX⟩ : ∃ X, wr.heap.size = X := ⟨_, rfl⟩
      have hwX : w.heap.size < X := by
        rw [← hX]
        obtain ⟨n, D, q1, _⟩ := L0.out.ex
        exact q1.lt
      obtain ⟨W7, hW7⟩ : ∃ W7, wr.alloc (.cells #[.slice none 0 0] 26) = W7 := ⟨_, rfl⟩
      have rX : Row W7 X 26 #[.slice none 0 0] := by rw [← hW7, ← hX]; exact Row.new wr _ _
      have b7 : Below wr.heap.size wr W7 := by rw [← hW7]; exact (Below.refl _ wr).alloc (Nat.le_refl _) _
      rw [hW7]
      simp only [hX]
      have RX := Lib.hid rX
      have L7 := Lib.hid (L0.out.below b7)
      have K7 := Lib.hid (nextC KP.out b7)
      clear hW7 rX b7 L0 KP hX
      go_loopg [8] 65 (fun g v wr2 => ∃ (B : Option Addr) (d : Nat) (out : List Int), Row wr2 X 26 #[.slice B out.length d] ∧ OwnU w.heap.size wr2 B d out ∧ LfM l w wr2 w.heap.size ((ids l).filter fun x => decide (¬ x ∈ out)) ∧ Ord l out ∧ Below w.heap.size w wr2 ∧ 65 - out.length ≤ g)
      case atStart => exact ⟨none, 0, [], RX.out, OwnU.nil _ _, by rw [List.filter_eq_self.2 (by simp)]; exact L7.out, Ord.nil, K7.out, by simp⟩
      case round =>
        obtain ⟨B, d, out, hrx, hown, hlf, hord, hkp, hg⟩ := hrel
        have RX2 := Lib.hid hrx
        have OW := Lib.hid hown
        have L2 := Lib.hid hlf
        have UU := Lib.hid hord
        have K2 := Lib.hid hkp
        clear hrx hown hlf hord hkp RX L7 K7
        obtain ⟨ks, hks⟩ : ∃ ks, (ids l).filter (fun x => decide (¬ x ∈ out)) = ks := ⟨_, rfl⟩
        have hn : ks.Nodup := by rw [← hks]; exact HF.out.once.sublist List.filter_sublist
        have hkl : ks.length ≤ 64 := by
          rw [← hks]
          have := List.length_filter_le (fun x => decide (¬ x ∈ out)) (ids l)
          have h2 := HF.out.long
          rw [ids, List.length_map] at this
          unfold ids
          omega
        have hkm : ∀ x, x ∈ ks ↔ x ∈ ids l ∧ ¬ x ∈ out := fun x => by rw [← hks, List.mem_filter]; simp
        have hkw : ∀ x ∈ ks, (Lit.int .u64 x).wf = true := fun x hx => by
          obtain ⟨n, hn, rfl⟩ := mem_ids.1 ((hkm x).1 hx).1
          exact HW.out n hn
        rw [hks] at L2
        obtain ⟨n, D, hom, hsz, hperm⟩ := L2.out.keys hn (by omega) hkw
        have C1 := Lib.hid (it_keys (some w.heap.size) wr)
        have C2 := Lib.hid (sorted_keys w.heap.size n D wr hom (by omega))
        rw [hperm.length_eq, srt_of_perm hperm] at C2
        have HKM := Lib.hid hkm
        have HKW := Lib.hid hkw
        have HKS := Lib.hid hks
        clear hkm hkw hks hn hom hsz hperm
        go_wp2_with fail
        refine C1.out.mono ?_
        rintro e w2 ⟨rfl, rfl⟩
        go_wp2_with fail
        refine C2.out.mono ?_
        rintro e w3 ⟨Bs, ds, rfl, hos, hb3⟩
        have OS := Lib.hid hos
        have RX3 := Lib.hid (RX2.out.over hb3)
        have OW3 := Lib.hid (OW.out.over hb3)
        have L3 := Lib.hid (L2.out.below hb3)
        have K3 := Lib.hid (nextC K2.out hb3)
        clear hos hb3 C1 C2 RX2 OW L2 K2
        go_wp2_with fail
        have hsl : (srt ks).length = ks.length := srt_len ks
        go_loop [26] (fun i => ∃ k : Nat, k ≤ ks.length ∧ i = .int .i64 k ∧ ∀ y ∈ (srt ks).take k, ¬ Cand l out y) (fun i => ks.length - (intOf i).toNat)
        case atStart => exact ⟨0, by omega, rfl, fun y hy => by simp at hy⟩
        case round =>
          obtain ⟨k, hk2, rfl, hall⟩ := hrel
          have HA := Lib.hid hall
          clear hall
          by_cases hlt2 : k < ks.length
          · obtain ⟨sd, rfl, hsb, hsc⟩ := OS.out.sl k (by omega)
            have hyk : (srt ks)[k] ∈ ks := (srt_mem ks _).1 (List.getElem_mem _)
            have htk : ∀ z ∈ (srt ks).take (k + 1), z ∈ (srt ks).take k ∨ z = (srt ks)[k]'(by omega) := fun z hz => mem_take_succ (by omega) hz
            have hmin : ∀ z ∈ srt ks, z ∈ (srt ks).take k ∨ (srt ks)[k]'(by omega) ≤ z := fun z hz => by
              obtain ⟨i, hi, rfl⟩ := List.mem_iff_getElem.1 hz
              rcases Nat.lt_trichotomy i k with h | h | h
              · exact .inl (List.mem_take_iff_getElem.2 ⟨i, by omega, rfl⟩)
              · subst h; exact .inr (Int.le_refl _)
              · exact .inr (List.pairwise_iff_getElem.1 (srt_le ks) k i (by omega) hi h)
            obtain ⟨y, hy⟩ : ∃ y, (srt ks)[k]'(by omega) = y := ⟨_, rfl⟩
            rw [hy] at hsc hyk htk hmin
            obtain ⟨nd, hnd, rfl⟩ := mem_ids.1 ((HKM.out y).1 hyk).1
            obtain ⟨B1, c1, hlook, hsd⟩ := L3.out.look hnd hyk (HKW.out _ hyk)
            have C1 := Lib.hid (containsFunc_any X B d out w3 (by have := RX3.out.cell 0; simpa using this) OW3.out.sl (by have := UU.out.le; have := HF.out.long; omega) B1 c1 nd.deps (hsd.over K3.out) (by have := HF.out.deps nd hnd; omega))
            have HTK := Lib.hid htk
            have HYK := Lib.hid hyk
            have HND := Lib.hid hnd
            have HMN := Lib.hid hmin
            clear hsd hyk htk hnd hmin
            go_wp2_with fail
            refine C1.out.mono ?_
            rintro e w5 ⟨rfl, rfl⟩
            by_cases hr : ∃ dd ∈ nd.deps, ¬ dd ∈ out
            · rw [decide_eq_true hr]
              have HR := Lib.hid hr
              clear hr C1
              go_wp2_with fail
              go_round
              case rel => exact ⟨k + 1, by omega, by go_num, fun z hz => by
                rcases HTK.out z hz with h | rfl
                · exact HA.out z h
                · rintro ⟨m, hm, e, _, hall⟩
                  obtain ⟨dd, hdd, hno⟩ := HR.out
                  rw [uniq HF.out.once hm HND.out e] at hall
                  exact hno (hall dd hdd)⟩
              case measure => simp [intOf]; omega
            · rw [decide_eq_false hr]
              have HR := Lib.hid hr
              clear hr C1
              have hol : out.length ≤ 64 := by have := UU.out.le; have := HF.out.long; omega
              go_wp2_with (first
                | (at_delete; refine dropL rfl _ _ rfl w.heap.size ks nd.id rfl (by rfl) L3.out (HKW.out _ HYK.out) HW.out ?_; intro w6 hl6 hg6
                   have RX6 := Lib.hid (show Row w6 X 26 #[.slice B out.length d] from (hg6.block X RX3.out.lt (fun e => by injection e with e; omega)).trans RX3.out)
                   have OW6 := Lib.hid (show OwnU w.heap.size w6 B d out from World.ownsRow.kept OW3.out hg6 (.inr fun e => L3.out.row OW3.out out.length e.symm))
                   have K6 := Lib.hid (K3.out.grown hg6 K3.out.size (fun q hq => by cases hq; exact Nat.le_refl _))
                   have L6 := Lib.hid hl6
                   have x6 := RX6.out.cell 0
                   simp at x6
                   clear hl6 hg6)
                | (at_builtin; refine app1U rfl _ _ rfl w.heap.size B _ d out nd.id rfl rfl OW6.out rfl K6.out.size (by omega) ?_; intro B' d' w7 ho7 hg7 hb7
                   have RX7 := Lib.hid (show Row w7 X 26 #[.slice B out.length d] from (hg7.block X (by have := RX6.out.lt; simp; omega) (box_ne OW6.out RX6.out _)).trans (RX6.out.over ((Below.refl _ w6).alloc (Nat.le_refl _) _)))
                   have L7 := Lib.hid ((L6.out.below ((Below.refl _ w6).alloc (Nat.le_refl _) (.cells #[.int .u64 nd.id] 23))).grown hg7 (L6.out.row OW6.out _))
                   have K7 := Lib.hid (K6.out.trans hb7)
                   have OW7 := Lib.hid ho7
                   have x7 := RX7.out.cell 0
                   have f7 := RX7.out.free 0
                   simp at x7 f7
                   clear ho7 hg7 hb7 x6))
              have hpick : IsPick l out nd.id := ⟨⟨nd, HND.out, rfl, ((HKM.out _).1 HYK.out).2, fun dd hdd => Classical.byContradiction fun hno => HR.out ⟨dd, hdd, hno⟩⟩, fun j hc => by
                have hjk : j ∈ ks := (HKM.out j).2 ⟨by obtain ⟨n, hn, e, _⟩ := hc; exact mem_ids.2 ⟨n, hn, e⟩, by obtain ⟨n, hn, e, h2, _⟩ := hc; exact h2⟩
                rcases HMN.out j ((srt_mem ks j).2 hjk) with h | h
                · exact absurd hc (HA.out j h)
                · exact h⟩
              have hg8 := grownBy_setCell0_a w7 X (.slice B' (out.length + 1) d')
              have hset : (ids l).filter (fun x => decide (¬ x ∈ out ++ [nd.id])) = ks.filter (fun x => decide (x ≠ nd.id)) := by
                rw [← HKS.out, List.filter_filter]
                refine List.filter_congr fun x _ => ?_
                by_cases h1 : x ∈ out <;> by_cases h2 : x = nd.id <;> simp [h1, h2]
              go_roundg (65 - (out.length + 1))
              case measure => omega
              case rel => exact ⟨B', d', out ++ [nd.id], by rw [List.length_append]; exact (show Row _ X _ _ by simpa using RX7.out.put 0 (.slice B' (out.length + 1) d')), World.ownsRow.kept OW7.out hg8 (.inr fun e => box_ne OW7.out RX7.out _ e.symm), by rw [hset]; exact L7.out.grown hg8 (by intro e; injection e with e; omega), UU.out.snoc hpick, K7.out.grown hg8 K7.out.size (fun q hq => by cases hq; omega), by rw [List.length_append, List.length_singleton]; omega⟩
          · obtain rfl : k = ks.length := by omega
            have he : Ends l out := ⟨UU.out, fun i hc => by
              have hik : i ∈ ks := (HKM.out i).2 ⟨by obtain ⟨n, hn, e, _⟩ := hc; exact mem_ids.2 ⟨n, hn, e⟩, by obtain ⟨n, hn, e, h2, _⟩ := hc; exact h2⟩
              exact HA.out i (by rw [List.take_of_length_le (by omega)]; exact (srt_mem ks i).2 hik) hc⟩
            have HE := Lib.hid he
            have x0 := RX3.out.cell 0
            simp at x0
            clear he
            go_wp2_with fail
            try rw [Exit.noGoto_ret]
            go_ret
            exact ⟨B, d, out, rfl, HE.out, OW3.out, K3.out⟩
end Go.Proofs.Ytceeopjmdfefjaa
