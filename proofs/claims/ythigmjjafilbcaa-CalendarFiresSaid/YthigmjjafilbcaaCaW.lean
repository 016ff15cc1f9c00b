/- The reference's fields and expressions of the chapter's texts. -/
import Derived.Test.YthigmjjafilbcaaCaQ
namespace Go.Proofs.Ythigmjjafilbcaa
set_option linter.unusedVariables false
set_option maxRecDepth 100000
open Go.RowKit Go.Maps
/-- `m` bits, from the `a`-th. -/
def bv (a m : Nat) : Nat := 2 ^ a * (2 ^ m - 1)
theorem bv_succ (a m : Nat) : bv a m + 2 ^ (a + m) = bv a (m + 1) := by
  unfold bv
  have : 0 < 2 ^ m := Nat.two_pow_pos _
  rw [Nat.pow_add, ← Nat.mul_add, Nat.pow_succ]
  congr 1; omega
theorem bv_lt (a m : Nat) : bv a m < 2 ^ (a + m) := by
  have := bv_succ a m
  unfold bv at *
  have h1 : 0 < 2 ^ m := Nat.two_pow_pos _
  have h2 : 0 < 2 ^ a := Nat.two_pow_pos _
  rw [Nat.pow_add]
  exact Nat.mul_lt_mul_of_pos_left (by omega) h2
theorem bv_small {a m : Nat} (h : a + m ≤ 60) : bv a m < 1152921504606846977 := by
  have := bv_lt a m
  have := Nat.pow_le_pow_right (n := 2) (by decide) h
  omega
theorem pow_small {a : Nat} (h : a ≤ 60) : 2 ^ a < 1152921504606846977 := by
  have := Nat.pow_le_pow_right (n := 2) (by decide) h
  omega
theorem bv_has {a m : Nat} (n : Int) (e : n = (a : Int) + (m : Int)) : hasF (bv a m) n = false := by
  unfold hasF
  have : n.toNat = a + m := by omega
  rw [this, Nat.testBit_lt_two_pow (bv_lt a m)]; simp
theorem results_row_tmp {P : Program} {fn : Func} {p u : Tmp} {ty : TypeId} (h : fn.results = #[.cell p ty, .tmp u]) (tmps : Array Value) (w : World) (g : Nat) (t : TypeId) (cs : Array Value) (fr : Nat × Nat) (d : TypeDesc) (x : Value)
    (hp : tmps[p]?.getD undef = .pointer (some ⟨g, 0, none⟩)) (hg : w.heap[g]? = some (.cells cs t fr))
    (hu : P.underlying ty = some d) (hd : (match d with | .struct _ | .array _ _ => true | _ => false) = true) (hi : (P.info? ty).map (·.size) = some cs.size) (hx : tmps[u]?.getD undef = x) :
    (results fn tmps).run P w = .ok (.tuple #[.agg cs, x]) w := by
  have e1 : (asAddr (tmps[p]?.getD undef)).run P w = .ok ⟨g, 0, none⟩ w := by rw [hp]; rfl
  have e2 := run_loadVar_row w g t ty cs fr d hg hu hd hi
  subst hx
  simp only [results, h]
  simp [Sem.run_bind, Result.andThen, e1, e2]
theorem size_alloc' (w : World) (o : Obj) : (w.alloc o).heap.size = w.heap.size + 1 := Array.size_push _
set_option maxHeartbeats 1000000 in
theorem parseS (k : Int) (h0 : 0 ≤ k) (h4 : k ≤ 4) (s : ByteArray) (hs : 0 < s.size) (hs' : s.size ≤ 10) (c : Int)
    (st : Bool) (hst : (c == 42) = st)
    (hix : ∀ W, (Instr.index 9 (.string s) (.int .i64 0)).run Try.prog W = .ok (.int .u8 c) W) (hn : NoSep s 44) (a cnt : Nat) (hpos : 0 < cnt) (hc : a + cnt ≤ 60) (h7 : k = 4 ∧ a + cnt ≤ 7 ∨ (k == 4) = false)
    (CI : ∀ w, Calls Try.prog 76 #[.int .i64 k, .string s] w fun e w' => (∃ u, e = .returned (.tuple #[u, .int .i64 0]) ∧ w'.ownsRow w.heap.size 3 1 u cnt ((stepsL (a : Int) 1 cnt).map (Value.int .i64))) ∧ Below w.heap.size w w') (w : World) :
    Calls Try.prog 63 #[.int .i64 k, .string s] w fun e w' => e = .returned (.tuple #[.agg #[.int .u64 (bv a cnt), .bool st], .int .i64 0]) ∧ Below w.heap.size w w' := by
  rcases h7 with ⟨rfl, h7⟩ | hk4
  all_goals
    obtain ⟨n1, rfl⟩ : ∃ n1, cnt = n1 + 1 := ⟨cnt - 1, by omega⟩
    have CS := Lib.hid (refSplitS s 44 (by omega) hn)
    have CI := Lib.hid CI
    have CH := Lib.hid refHas_any
    go_enter Try.func63, Try.ntmps63
    go_wp2_with fail
    refine (CS.out _).mono ?_
    rintro e w1 ⟨⟨g, cap, rfl, hcs⟩, hb1⟩
    have qb := newC hb1
    have qa : Row w1 w.heap.size 38 #[.int .u64 0, .bool false] := (Row.alloc (Row.new w _ _) _).over hb1
    have hq : Below w.heap.size w w1 := nextA (nextB (Below.refl w.heap.size w)) hb1
    have hwz := hq.size
    simp only [size_alloc'] at qb
    have hgne0 : g ≠ w.heap.size + 1 := by
      intro e
      subst e
      rw [qb.cell 0] at hcs
      simp at hcs
    clear hb1
    go_wp2_with fail
    go_loopw [8] (fun i wr => ∃ b : Nat, (i = .int .i64 0 ∧ b = 0 ∨ i = .int .i64 1 ∧ b = bv a (n1 + 1)) ∧ Row wr w.heap.size 38 #[.int .u64 0, .bool false] ∧ Row wr (w.heap.size + 1) 38 #[.int .u64 b, .bool st] ∧ wr.cell? ⟨g, 0, none⟩ = some (.string s) ∧ Below w.heap.size w wr) (fun i _ => (1 - intOf i).toNat)
    case atStart => exact ⟨0, .inl ⟨rfl, rfl⟩, qa, qb, hcs, hq⟩
    case round =>
      obtain ⟨b, hb, ra, rb, hrs, rq⟩ := hrel
      rcases hb with ⟨rfl, rfl⟩ | ⟨rfl, rfl⟩
      · go_wp2_with fail
        refine (CI.out _).mono ?_
        rintro e w2 ⟨⟨u, rfl, hown⟩, hb2⟩
        have sa := ra.over hb2
        have sb := rb.over hb2
        have sq := nextC rq hb2
        obtain ⟨g', cap', rfl⟩ := ownsRow_succ hown
        have hcl : ∀ j : Nat, j < n1 + 1 → w2.cell? ⟨g', j, none⟩ = some (.int .i64 ((a : Int) + (j : Int))) := fun j hj => by
          have := hown.cellAt j (by omega)
          simpa [stepsL, hj] using this
        have hcg : w2.cell? ⟨g, 0, none⟩ = some (.string s) := by rw [hb2.cell (World.block_lt_of_cell? _ _ hrs)]; exact hrs
        have hg' : g' < w2.heap.size ∧ wr.heap.size ≤ g' := ⟨World.block_lt_of_cell? _ _ (hcl 0 (by omega)), (hown.lt g' rfl).1⟩
        have hg2 := rb.lt
        have hgne : g ≠ w.heap.size + 1 := by
          have := hgne0; exact this
        have hgl := World.block_lt_of_cell? _ _ hcg
        clear hb2 hown hrs
        have HCL := Lib.hid hcl
        clear hcl
        go_wp2_with fail
        go_loopw [11] (fun i wr => ∃ m : Nat, m ≤ n1 + 1 ∧ i = .int .i64 m ∧ Row wr w.heap.size 38 #[.int .u64 0, .bool false] ∧ Row wr (w.heap.size + 1) 38 #[.int .u64 (bv a m), .bool st] ∧ wr.heap[g]? = w2.heap[g]? ∧ wr.heap[g']? = w2.heap[g']? ∧ Below w.heap.size w wr) (fun i _ => (n1 + 1 - (intOf i).toNat))
        case atStart => exact ⟨0, by omega, rfl, sa, sb, rfl, rfl, sq⟩
        case round =>
          obtain ⟨m, hm, rfl, ta, tb, tg, tg', tq⟩ := hrel
          by_cases hlt : m < n1 + 1
          · obtain ⟨xx, hxx⟩ : ∃ xx, (a : Int) + (m : Int) = xx := ⟨_, rfl⟩
            have hx := HCL.out m hlt
            rw [← World.cell?_of_block (a := ⟨g', m, none⟩) tg', hxx] at hx
            have HXX := Lib.hid hxx
            have hx60 : xx < 60 := by omega
            have hx00 : 0 ≤ xx := by omega
            try (have h7x : (xx == 7) = false := by simp; omega)
            have HB := Lib.hid (bv_has (a := a) (m := m) xx hxx.symm)
            have HS := Lib.hid (bv_succ a m)
            have hp2 := pow_small (show a + m ≤ 60 by omega)
            have hb2 := bv_small (show a + m ≤ 60 by omega)
            have hb3 := bv_small (show a + (m + 1) ≤ 60 by omega)
            clear hxx
            generalize hR : bv a m = R at *
            have k1 := fun o => tb.cell o
            clear HCL
            go_wp2_with fail
            refine (CH.out _ _ _ _ (by omega)).mono ?_
            rintro e w4 ⟨rfl, hb4⟩
            rw [HB.out]
            have ta4 := ta.over hb4
            have tb4 := tb.over hb4
            have tq4 := nextC tq hb4
            have hgl2 : g < wr.heap.size := World.block_lt_of_cell? _ _ ((World.cell?_of_block (a := ⟨g, 0, none⟩) tg).trans hcg)
            have hgl3 : g' < wr.heap.size := World.block_lt_of_cell? _ _ hx
            have tg4 : w4.heap[g]? = w2.heap[g]? := (hb4.block g hgl2).trans tg
            have tg4' : w4.heap[g']? = w2.heap[g']? := (hb4.block g' hgl3).trans tg'
            have k4 := fun o => tb4.cell o
            have f4 := fun o => tb4.free o
            go_wp2_with fail
            go_roundw
            case rel =>
              refine ⟨m + 1, by omega, by go_num, ta4.far (by simp) _, ?_, ?_, ?_, tq4.setCell (by simp) _⟩
              · refine (tb4.put 0 _).eq ?_
                rw [← HS.out, show xx.toNat = a + m by have := HXX.out; omega]
                have he : IntKind.u64.wrap ((R : Int) + IntKind.u64.wrap (2 ^ (a + m))) = ((R + 2 ^ (a + m) : Nat) : Int) := by
                  have e1 : ((2 : Int) ^ (a + m)) = ((2 ^ (a + m) : Nat) : Int) := by push_cast; rfl
                  have := hp2
                  rw [e1]
                  generalize 2 ^ (a + m) = Z at *
                  rw [IntKind.wrap_u64, IntKind.wrap_u64]
                  omega
                rw [he]; rfl
              · exact (Below.heap_setCell _ _ _ _ hgne).trans tg4
              · exact (Below.heap_setCell _ _ _ _ (show g' ≠ w.heap.size + 1 by omega)).trans tg4'
            case measure => simp [intOf]; omega
          · have e : m = n1 + 1 := by omega
            subst e
            go_wp2_with fail
            go_roundw
            case rel =>
              refine ⟨bv a (n1 + 1), .inr ⟨rfl, rfl⟩, ta, tb, ?_, tq⟩
              rw [World.cell?_of_block (a := ⟨g, 0, none⟩) tg]; exact hcg
            case measure => simp [intOf]
      · have k1 := fun o => rb.cell o
        have f1 := fun o => ra.free o
        have k2 := fun o => ra.cell o
        go_wp2_with fail
        refine bodyPost_ret (results_row_tmp Try.results63 _ _ w.heap.size 38 #[.int .u64 (bv a (n1 + 1)), .bool st] (0, 0) _ (.int .i64 0) rfl ?_ Try.underlying38 rfl (by kernel_rfl) rfl) rfl ⟨rfl, ?_⟩
        · exact ((ra.put 0 _).put 1 _).eq rfl
        · exact (rq.setCell (by simp) _).setCell (by simp) _
end Go.Proofs.Ythigmjjafilbcaa
