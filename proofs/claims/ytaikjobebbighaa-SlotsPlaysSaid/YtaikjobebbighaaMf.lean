/- Slots: the document's book as it lies; Pool, find, Left. Slots: the document's Serve. Slots: the document's book: a name, a size, an entry put behind. -/
import Derived.Test.YtaikjobebbighaaMd
import Derived.Test.YtaikjobebbighaaMb
import Derived.Deep.RegionHeldLaw
namespace Go.Proofs.Ytaikjobebbighaa
set_option linter.unusedVariables false
set_option maxRecDepth 100000
open Go.RowKit
def enN (k : Key) : List Value := [nm k]
def enI (x : Int) : List Value := [.int .i64 x]
def enE (x : En) : List Value := [.int .i64 x.pool, .int .u64 x.tok, .int .i64 x.many, .bool x.holds]
theorem enN_len (k : Key) : (enN k).length = 1 := rfl
theorem enI_len (k : Int) : (enI k).length = 1 := rfl
theorem enE_len (k : En) : (enE k).length = 4 := rfl
theorem RkS.cells1 {α : Type} {en : α → List Value} {w : World} {ad : Addr} {ts : List α} (h : RkS en 1 w (some ad) ts) (j : Nat) (hj : j < ts.length) {u : Value} (he : en ts[j] = [u]) : ad.block < w.heap.size ∧ w.cell? (ad.add j) = some u := by
  obtain ⟨ad', e, hb, h1⟩ := h j hj
  injection e with e
  subst e
  have := h1 0 u (by rw [he]; rfl)
  simp only [Nat.mul_one, Nat.add_zero] at this
  exact ⟨hb, this⟩
theorem RkS.cellsE {w : World} {ad : Addr} {ts : List En} (h : RkS enE 4 w (some ad) ts) (j : Nat) (hj : j < ts.length) : ad.block < w.heap.size ∧ w.cell? (ad.add (j * 4)) = some (.int .i64 ts[j].pool) ∧ w.cell? ⟨(ad.add (j * 4)).block, (ad.add (j * 4)).off + 1, none⟩ = some (.int .u64 ts[j].tok) ∧
    w.cell? ⟨(ad.add (j * 4)).block, (ad.add (j * 4)).off + 2, none⟩ = some (.int .i64 ts[j].many) ∧ w.cell? ⟨(ad.add (j * 4)).block, (ad.add (j * 4)).off + 3, none⟩ = some (.bool ts[j].holds) := by
  obtain ⟨ad', e, hb, h1⟩ := h j hj
  injection e with e
  subst e
  have g1 := h1 1 _ rfl
  have g2 := h1 2 _ rfl
  have g3 := h1 3 _ rfl
  rw [← add_add] at g1 g2 g3
  exact ⟨hb, h1 0 _ rfl, g1, g2, g3⟩
/-- The document's book as it lies. -/
structure RfAt (w : World) (p : Nat) (r : Rb) (NA SA LA : Option Addr) (cN cS cL : Nat) : Prop where
  row : Row w p 56 #[.slice NA r.names.length cN, .slice SA r.sizes.length cS, .slice LA r.L.length cL]
  nms : RkO enN 1 9 0 w NA cN r.names
  szs : RkO enI 1 3 0 w SA cS r.sizes
  ens : RkO enE 4 87 0 w LA cL r.L
theorem RfAt.over {w w' : World} {p : Nat} {r : Rb} {NA SA LA : Option Addr} {cN cS cL : Nat} (h : RfAt w p r NA SA LA cN cS cL) (hb : Below w.heap.size w w') : RfAt w' p r NA SA LA cN cS cL := ⟨h.row.over hb, h.nms.over hb, h.szs.over hb, h.ens.over hb⟩
set_option maxHeartbeats 4000000 in
theorem refPool_any (p : Nat) (r : Rb) (NA SA LA : Option Addr) (cN cS cL : Nat) (k : Key) (w : World) (h : RfAt w p r NA SA LA cN cS cL) (hn : r.names.length ≤ 100) :
    Calls Try.prog 33 #[.pointer (some ⟨p, 0, none⟩), nm k] w fun e w' => e = .returned (.int .i64 (poolOf r k)) ∧ w' = w := by
  have c0 := h.row.cell 0
  simp only [List.getElem?_toArray, List.getElem?_cons_zero] at c0
  have HS := Lib.hid (RkO.rks enN_len h.nms)
  unfold poolOf
  clear h
  generalize r.names = l at *
  go_enter Try.func33, Try.ntmps33
  go_wp2_with fail
  go_loopw [5] (fun i wr => ∃ j : Nat, j ≤ l.length ∧ i = .int .i64 j ∧ wr = w ∧ Hid (idxN l k 0 = idxN (l.drop j) k j)) (fun i _ => l.length - (intOf i).toNat)
  case atStart => exact ⟨0, by omega, rfl, rfl, Lib.hid rfl⟩
  case round =>
    obtain ⟨j, hj, rfl, rfl, hE⟩ := hrel
    by_cases hlt : j < l.length
    · obtain ⟨ad, rfl, hb, hc⟩ := HS.out j hlt
      obtain ⟨-, c1⟩ := HS.out.cells1 j hlt (u := nm l[j]) rfl
      have HD := Lib.hid (List.drop_eq_getElem_cons hlt)
      generalize l[j] = x at *
      clear hb hc
      by_cases hx : x = k
      · subst hx
        have HM := Lib.hid (show idxN l x 0 = j by rw [hE.out, HD.out]; unfold idxN; rw [if_pos rfl])
        go_wp2_with fail
        go_ret
        exact ⟨by rw [HM.out]; rfl, rfl⟩
      · have HM := Lib.hid (show idxN l k 0 = idxN (l.drop (j + 1)) k (j + 1) by rw [hE.out, HD.out]; conv => lhs; unfold idxN; rw [if_neg hx])
        have d1 : (x == k) = false := by simpa using hx
        go_wp2_with fail
        go_roundw
        case rel => exact ⟨j + 1, by omega, by go_num, trivial, HM⟩
        case measure => simp [intOf]; omega
    · obtain rfl : j = l.length := by omega
      have HM := Lib.hid (show idxN l k 0 = -1 by rw [hE.out, List.drop_length]; rfl)
      go_wp2_with fail
      go_ret
      exact ⟨by rw [HM.out]; rfl, rfl⟩
set_option maxHeartbeats 4000000 in
theorem refFind_any (p : Nat) (r : Rb) (NA SA LA : Option Addr) (cN cS cL : Nat) (i tk : Int) (w : World) (h : RfAt w p r NA SA LA cN cS cL) (hn : r.L.length ≤ 1000000) :
    Calls Try.prog 35 #[.pointer (some ⟨p, 0, none⟩), .int .i64 i, .int .u64 tk] w fun e w' => e = .returned (.int .i64 (findN r.L i tk 0)) ∧ w' = w := by
  have c0 := h.row.cell 2
  simp only [List.getElem?_toArray, List.getElem?_cons_succ, List.getElem?_cons_zero] at c0
  have HS := Lib.hid (RkO.rks enE_len h.ens)
  clear h
  generalize r.L = l at *
  go_enter Try.func35, Try.ntmps35
  go_wp2_with fail
  go_loopw [7] (fun q wr => ∃ j : Nat, j ≤ l.length ∧ q = .int .i64 j ∧ wr = w ∧ Hid (findN l i tk 0 = findN (l.drop j) i tk j)) (fun q _ => l.length - (intOf q).toNat)
  case atStart => exact ⟨0, by omega, rfl, rfl, Lib.hid rfl⟩
  case round =>
    obtain ⟨j, hj, rfl, rfl, hE⟩ := hrel
    by_cases hlt : j < l.length
    · obtain ⟨ad, rfl, hb, hc⟩ := HS.out j hlt
      obtain ⟨-, c1, c2, c3, c4⟩ := HS.out.cellsE j hlt
      have HD := Lib.hid (List.drop_eq_getElem_cons hlt)
      generalize l[j] = x at *
      obtain ⟨xp, xt, xm, xh⟩ := x
      dsimp only at c1 c2 c3 c4
      clear hb hc
      by_cases h1 : xp = i
      · subst h1
        by_cases h2 : xt = tk
        · subst h2
          have HM := Lib.hid (show findN l xp xt 0 = j by rw [hE.out, HD.out]; unfold findN; rw [if_pos ⟨rfl, rfl⟩])
          go_wp2_with fail
          go_ret
          exact ⟨by rw [HM.out]; rfl, rfl⟩
        · have HM := Lib.hid (show findN l xp tk 0 = findN (l.drop (j + 1)) xp tk (j + 1) by rw [hE.out, HD.out]; conv => lhs; unfold findN; rw [if_neg (fun h => h2 h.2)])
          have d1 : (xt == tk) = false := by simpa using h2
          go_wp2_with fail
          go_roundw
          case rel => exact ⟨j + 1, by omega, by go_num, trivial, HM⟩
          case measure => simp [intOf]; omega
      · have HM := Lib.hid (show findN l i tk 0 = findN (l.drop (j + 1)) i tk (j + 1) by rw [hE.out, HD.out]; conv => lhs; unfold findN; rw [if_neg (fun h => h1 h.1)])
        have d1 : (xp == i) = false := by simpa using h1
        go_wp2_with fail
        go_roundw
        case rel => exact ⟨j + 1, by omega, by go_num, trivial, HM⟩
        case measure => simp [intOf]; omega
    · obtain rfl : j = l.length := by omega
      have HM := Lib.hid (show findN l i tk 0 = -1 by rw [hE.out, List.drop_length]; rfl)
      go_wp2_with fail
      go_ret
      exact ⟨by rw [HM.out]; rfl, rfl⟩
theorem holdE_take {L : List En} {i : Int} {k : Nat} (h : k < L.length) : sumM (holdE (L.take (k + 1)) i) = sumM (holdE (L.take k) i) + (if L[k].pool = i ∧ L[k].holds = true then L[k].many else 0) := by
  rw [List.take_succ_eq_append_getElem h, holdE_append, sumM_append, holdE_cons]
  split
  · rw [sumM_cons, holdE_nil, sumM_nil]
    show _ + (L[k].many + 0) = _
    omega
  · rw [holdE_nil, sumM_nil]
set_option maxHeartbeats 4000000 in
theorem refLeft_any (p : Nat) (r : Rb) (NA SA LA : Option Addr) (cN cS cL : Nat) (i : Nat) (w : World) (h : RfAt w p r NA SA LA cN cS cL) (hi : i < r.sizes.length) (hz : 0 ≤ sizeP r i ∧ sizeP r i ≤ 1048576) (hn : r.L.length ≤ 1000) (hm : ∀ x ∈ r.L, 1 ≤ x.many ∧ x.many ≤ 1048576) :
    Calls Try.prog 38 #[.pointer (some ⟨p, 0, none⟩), .int .i64 i] w fun e w' => e = .returned (.int .i64 (leftP r i)) ∧ w' = w := by
  have c0 := h.row.cell 2
  have c9 := h.row.cell 1
  simp only [List.getElem?_toArray, List.getElem?_cons_succ, List.getElem?_cons_zero] at c0 c9
  have HS := Lib.hid (RkO.rks enE_len h.ens)
  obtain ⟨adS, hadS, -⟩ := (RkO.rks enI_len h.szs) i hi
  have hsz := (RkO.rks enI_len h.szs)
  rw [hadS] at hsz c9
  obtain ⟨-, z1⟩ := hsz.cells1 i hi (u := .int .i64 r.sizes[i]) rfl
  have hsp : sizeP r i = r.sizes[i] := sizeP_at (List.getElem?_eq_getElem hi)
  rw [hsp] at hz
  have HE := Lib.hid (show leftP r i = max (r.sizes[i] - sumM (holdE r.L i)) 0 by unfold leftP leftE; rw [if_neg (by omega), hsp])
  have HM := Lib.hid hm
  clear h hsz hsp hm
  generalize r.sizes[i] = sz at *
  generalize r.sizes.length = sl at *
  generalize r.L = l at *
  go_enter Try.func38, Try.ntmps38
  go_wp2_with fail
  go_loopw [6, 5] (fun q v wr => ∃ j : Nat, j ≤ l.length ∧ q = .int .i64 j ∧ v = .int .i64 (sz - sumM (holdE (l.take j) i)) ∧ wr = w) (fun q _ _ => l.length - (intOf q).toNat)
  case atStart => exact ⟨0, by omega, rfl, by rw [List.take_zero, holdE_nil, sumM_nil]; simp, rfl⟩
  case round =>
    obtain ⟨j, hj, rfl, rfl, rfl⟩ := hrel
    have hst := Small.sum_le (l := holdE (l.take j) i) (fun x hx => by
      obtain ⟨y, hy, -, rfl⟩ := mem_holdE.1 hx
      exact HM.out y (List.mem_of_mem_take hy))
    have hle : ((holdE (l.take j) i).length : Int) ≤ 1000 := by
      have : (holdE (l.take j) i).length ≤ (l.take j).length := by unfold holdE; rw [List.length_map]; exact List.length_filter_le _ _
      rw [List.length_take] at this
      omega
    by_cases hlt : j < l.length
    · obtain ⟨ad, rfl, hb, hc⟩ := HS.out j hlt
      obtain ⟨-, c1, c2, c3, c4⟩ := HS.out.cellsE j hlt
      have hx := HM.out l[j] (List.getElem_mem hlt)
      have HT := Lib.hid (holdE_take (i := (i : Int)) hlt)
      generalize l[j] = x at *
      generalize sumM (holdE (l.take j) i) = sm at *
      obtain ⟨xp, xt, xm, xh⟩ := x
      dsimp only at c1 c2 c3 c4 hx
      clear hb hc
      by_cases h1 : xp = i
      · subst h1
        cases xh
        · have HT2 := Lib.hid (show sumM (holdE (l.take (j + 1)) i) = sm by rw [HT.out, if_neg (by simp)]; simp)
          go_wp2_with fail
          go_roundw
          case rel => exact ⟨j + 1, by omega, by go_num, by rw [HT2.out], trivial⟩
          case measure => simp [intOf]; omega
        · have HT2 := Lib.hid (show sumM (holdE (l.take (j + 1)) i) = sm + xm by rw [HT.out, if_pos ⟨rfl, rfl⟩])
          go_wp2_with fail
          go_roundw
          case rel => exact ⟨j + 1, by omega, by go_num, by rw [HT2.out]; exact congrArg (Value.int .i64) (by omega), trivial⟩
          case measure => simp [intOf]; omega
      · have HT2 := Lib.hid (show sumM (holdE (l.take (j + 1)) i) = sm by rw [HT.out, if_neg (fun h => h1 h.1)]; simp)
        have d1 : (xp == (i : Int)) = false := by simpa using h1
        go_wp2_with fail
        go_roundw
        case rel => exact ⟨j + 1, by omega, by go_num, by rw [HT2.out], trivial⟩
        case measure => simp [intOf]; omega
    · obtain rfl : j = l.length := by omega
      rw [List.take_length] at *
      obtain ⟨sm, hsm⟩ : ∃ sm, sumM (holdE l i) = sm := ⟨_, rfl⟩
      rw [hsm] at hst ⊢
      have HE2 := Lib.hid (show leftP r i = max (sz - sm) 0 by rw [HE.out, hsm])
      clear hsm HE
      go_wp2_with fail
      all_goals (go_ret; exact ⟨congrArg (fun z => Ending.returned (Value.int .i64 z)) (show _ = leftP r i by rw [HE2.out]; omega), rfl⟩)
end Go.Proofs.Ytaikjobebbighaa
namespace Go.Proofs.Ytaikjobebbighaa
set_option linter.unusedVariables false
set_option maxRecDepth 100000
open Go.RowKit
def enU (x : Int) : List Value := [.int .u64 x]
theorem enU_len (x : Int) : (enU x).length = 1 := rfl
theorem enU_one (x : Int) : ∀ v ∈ enU x, v.oneCell' = true := fun v hv => by simp [enU] at hv; subst hv; rfl
theorem infoU : (Try.prog.info? 28).map (fun i => (i.zero, i.size, i.bytes)) = some (some (.int .u64 0), 1, 8) := by kernel_rfl
/-- An entry marked as a holder. -/
theorem RkO.mark {w : World} {e : TypeId} {g d : Nat} {ts : List En} (h : RkO enE 4 e 0 w (some ⟨g, 0, none⟩) d ts) {j : Nat} (hj : j < ts.length) : RkO enE 4 e 0 (w.setCell ⟨g, j * 4 + 3, none⟩ (.bool true)) (some ⟨g, 0, none⟩) d (ts.take j ++ ts[j].held :: ts.drop (j + 1)) := by
  obtain ⟨cur, hr, hb, h1, h2, h3, h4⟩ := h.open_
  have hlen : (ts.take j ++ ts[j].held :: ts.drop (j + 1)).length = ts.length := by rw [List.length_append, List.length_take, List.length_cons, List.length_drop]; omega
  refine RkO.make enE_len (hr.put (j * 4 + 3) (.bool true)) hb (by rw [hlen]; exact h1) h2 (by rw [Array.size_setIfInBounds]; exact h3) fun q hq => ?_
  rw [hlen] at hq
  obtain ⟨a, b, hb4, rfl⟩ : ∃ a b, b < 4 ∧ q = a * 4 + b := ⟨q / 4, q % 4, Nat.mod_lt _ (by decide), by omega⟩
  have ha : a < ts.length := by omega
  rw [rkCs_get enE_len _ a (by rw [hlen]; exact ha) b hb4]
  have hold : cur[a * 4 + b]? = (enE ts[a])[b]? := by rw [RkO.at_ enE_len h4 hq, rkCs_get enE_len _ a ha b hb4]
  by_cases e : a = j
  · subst e
    have hta : (ts.take a ++ ts[a].held :: ts.drop (a + 1))[a]'(by rw [hlen]; exact ha) = ts[a].held := by
      rw [List.getElem_append_right (by rw [List.length_take]; omega)]
      simp [List.length_take, Nat.min_eq_left (Nat.le_of_lt ha)]
    rw [hta]
    by_cases e3 : b = 3
    · subst e3
      rw [Array.getElem?_setIfInBounds_self_of_lt (by rw [h3]; omega)]
      rfl
    · rw [Array.getElem?_setIfInBounds_ne (by omega), hold]
      match b, hb4, e3 with
      | 0, _, _ => rfl
      | 1, _, _ => rfl
      | 2, _, _ => rfl
      | 3, _, h => exact absurd rfl h
  · rw [Array.getElem?_setIfInBounds_ne (by omega), hold]
    have hta : (ts.take j ++ ts[j].held :: ts.drop (j + 1))[a]'(by rw [hlen]; exact ha) = ts[a] := by
      by_cases c : a < j
      · rw [List.getElem_append_left (by rw [List.length_take]; omega), List.getElem_take]
      · rw [List.getElem_append_right (by rw [List.length_take]; omega)]
        simp only [List.length_take, Nat.min_eq_left (Nat.le_of_lt hj)]
        rw [List.getElem_cons, dif_neg (by omega), List.getElem_drop]
        congr 1
        omega
    rw [hta]
/-- How a serving goes on. -/
theorem serveE_skip {size i : Int} {pre : List En} {x : En} {t : List En} (h : ¬ (x.pool = i ∧ x.holds = false)) : serveE size i pre (x :: t) = (x :: (serveE size i (pre ++ [x]) t).1, (serveE size i (pre ++ [x]) t).2) := by
  conv => lhs; unfold serveE
  rw [if_neg h]
theorem serveE_stop {size i : Int} {pre : List En} {x : En} {t : List En} (h : x.pool = i ∧ x.holds = false) (hm : leftE size (pre ++ x :: t) i < x.many) : serveE size i pre (x :: t) = (x :: t, []) := by
  conv => lhs; unfold serveE
  rw [if_pos h, if_pos hm]
theorem serveE_yes {size i : Int} {pre : List En} {x : En} {t : List En} (h : x.pool = i ∧ x.holds = false) (hm : ¬ leftE size (pre ++ x :: t) i < x.many) : serveE size i pre (x :: t) = (x.held :: (serveE size i (pre ++ [x.held]) t).1, x.tok :: (serveE size i (pre ++ [x.held]) t).2) := by
  conv => lhs; unfold serveE
  rw [if_pos h, if_neg hm]
/-- What a serving has come to. -/
structure SvR (p : Nat) (r : Rb) (NA SA : Option Addr) (gL : Nat) (cN cS cL : Nat) (i : Int) (w wr : World) (pre T : List En) (out : List Int) (B : Option Addr) (d : Nat) : Prop where
  at_ : RfAt wr p ⟨r.names, r.sizes, pre ++ T⟩ NA SA (some ⟨gL, 0, none⟩) cN cS cL
  res : RkO enU 1 28 w.heap.size wr B d out
  eq : serveE (sizeP r i) i [] r.L = (pre ++ (serveE (sizeP r i) i pre T).1, out ++ (serveE (sizeP r i) i pre T).2)
  many : ∀ x ∈ pre ++ T, 1 ≤ x.many ∧ x.many ≤ 1048576
  len : pre.length + T.length = r.L.length
  few : out.length ≤ pre.length
  but : But (fun j => j = gL) w wr
theorem mem_swap {α : Type} {P : α → Prop} {pre T : List α} {x y : α} (h : ∀ z ∈ pre ++ x :: T, P z) (hy : P y) : ∀ z ∈ (pre ++ [y]) ++ T, P z := fun z hz => by
  rcases List.mem_append.1 hz with hz | hz
  · rcases List.mem_append.1 hz with hz | hz
    · exact h z (List.mem_append_left _ hz)
    · rw [List.mem_singleton] at hz; rw [hz]; exact hy
  · exact h z (List.mem_append_right _ (List.mem_cons_of_mem _ hz))
set_option maxHeartbeats 8000000 in
theorem refServe_any (p : Nat) (r : Rb) (NA SA LA : Option Addr) (cN cS cL : Nat) (i : Nat) (w : World) (h : RfAt w p r NA SA LA cN cS cL) (hi : i < r.sizes.length) (hz : 0 ≤ sizeP r i ∧ sizeP r i ≤ 1048576) (hn : r.L.length ≤ 1000) (hm : ∀ x ∈ r.L, 1 ≤ x.many ∧ x.many ≤ 1048576) :
    Calls Try.prog 34 #[.pointer (some ⟨p, 0, none⟩), .int .i64 i] w fun e w' => ∃ (B : Option Addr) (d : Nat), e = .returned (.slice B (servedRb r i).length d) ∧ RkO enU 1 28 w.heap.size w' B d (servedRb r i) ∧ RfAt w' p (serveRb r i) NA SA LA cN cS cL ∧ But (fun j => LA = some ⟨j, 0, none⟩) w w' := by
  have c0 := h.row.cell 2
  simp only [List.getElem?_toArray, List.getElem?_cons_succ, List.getElem?_cons_zero] at c0
  rcases h.ens.form with ⟨hLA, hcL, hL0⟩ | ⟨gL, rfl, -, hgL, hlc⟩
  · -- nothing there
    have e1 : servedRb r i = [] := by unfold servedRb; rw [hL0]; rfl
    have e2 : serveRb r i = r := by unfold serveRb; rw [hL0]; show (⟨r.names, r.sizes, []⟩ : Rb) = r; rw [← hL0]
    have hll : r.L.length = 0 := by rw [hL0]; rfl
    have HA := Lib.hid h
    rw [e1, e2]
    rw [hLA, hll, hcL] at c0
    clear h hLA hcL hL0 e1 e2 hll
    go_enter Try.func34, Try.ntmps34
    go_wp2_with fail
    go_loopw [6, 5] (fun q v wr => q = .int .i64 (0 : Int) ∧ v = .slice none 0 0 ∧ wr = w) (fun q _ _ => 0)
    case atStart => exact ⟨rfl, rfl, rfl⟩
    case round =>
      obtain ⟨rfl, rfl, rfl⟩ := hrel
      go_wp2_with fail
      go_ret
      exact ⟨none, 0, rfl, RkO.nil _ _, HA.out, But.refl _ _⟩
  · have S0 : SvR p r NA SA gL cN cS cL i w w [] r.L [] none 0 := ⟨h, RkO.nil _ _, rfl, hm, by simp, by simp, But.refl _ _⟩
    have HS0 := Lib.hid S0
    have hpw : p < w.heap.size := h.row.lt
    have hpg : p ≠ gL := fun e => h.ens.off h.row (by decide) (by rw [e])
    clear h c0 hm S0 hlc
    have hc := hi
    go_enter Try.func34, Try.ntmps34
    go_wp2_with fail
    go_loopw [6, 5] (fun q v wr => ∃ (pre T : List En) (out : List Int) (B : Option Addr) (d : Nat), q = .int .i64 pre.length ∧ v = .slice B out.length d ∧ Hid (SvR p r NA SA gL cN cS cL i w wr pre T out B d)) (fun q _ _ => r.L.length - (intOf q).toNat)
    case atStart => exact ⟨[], r.L, [], none, 0, rfl, rfl, HS0⟩
    case round =>
      obtain ⟨pre, T, out, B, d, rfl, rfl, hS⟩ := hrel
      have K := hS.out
      have c0 := K.at_.row.cell 2
      simp only [List.getElem?_toArray, List.getElem?_cons_succ, List.getElem?_cons_zero] at c0
      have hlen := K.len
      have hltot : (pre ++ T).length = r.L.length := by rw [List.length_append]; exact hlen
      rw [hltot] at c0
      rcases T with _ | ⟨x, t⟩
      · have hpl : pre.length = r.L.length := by simpa using hlen
        have HE := Lib.hid K.eq
        have e1 : servedRb r i = out := by unfold servedRb; rw [HE.out]; simp [serveE]
        have e2 : serveRb r i = ⟨r.names, r.sizes, pre ++ []⟩ := by unfold serveRb; rw [HE.out]; simp [serveE]
        have HE1 := Lib.hid e1
        have HE2 := Lib.hid e2
        rw [← hpl] at c0
        clear hlen hltot hpl K HE e1 e2
        go_wp2_with fail
        go_ret
        exact ⟨B, d, by rw [HE1.out]; rfl, by rw [HE1.out]; exact hS.out.res, by rw [HE2.out]; exact hS.out.at_, hS.out.but.mono (fun j e => .inl (by rw [e]))⟩
      · have hlt : pre.length < (pre ++ x :: t).length := by simp
        have hget : (pre ++ x :: t)[pre.length] = x := by simp
        have hrs := RkO.rks enE_len K.at_.ens
        obtain ⟨ad, hadE⟩ : ∃ ad : Addr, (⟨gL, 0, none⟩ : Addr) = ad := ⟨_, rfl⟩
        have hrs2 := hrs
        rw [hadE] at hrs2 c0
        obtain ⟨-, c1, c2, c3, c4⟩ := hrs2.cellsE pre.length hlt
        rw [hget] at c1 c2 c3 c4
        have hxm := K.many x (by simp)
        have hpl : pre.length < r.L.length := by simp at hlen; omega
        have hplz : (pre.length : Int) < (r.L.length : Int) := by omega
        have HAD := Lib.hid hadE
        obtain ⟨xp, xt, xm, xh⟩ := x
        dsimp only at c1 c2 c3 c4 hxm
        clear hrs hrs2 hlt hget hltot hadE
        by_cases hw : xp = (i : Int) ∧ xh = false
        · obtain ⟨rfl, rfl⟩ := hw
          have hsz1 : sizeP ⟨r.names, r.sizes, pre ++ (⟨(i : Int), xt, xm, false⟩ : En) :: t⟩ i = sizeP r i := rfl
          obtain ⟨lf, hlf⟩ : ∃ lf, leftE (sizeP r i) (pre ++ (⟨(i : Int), xt, xm, false⟩ : En) :: t) i = lf := ⟨_, rfl⟩
          have hlp : leftP ⟨r.names, r.sizes, pre ++ (⟨(i : Int), xt, xm, false⟩ : En) :: t⟩ i = lf := by unfold leftP; rw [if_neg (by omega), hsz1, hlf]
          have HLF := Lib.hid hlf
          obtain ⟨T2, F, hT2, hF, hG⟩ := class_of (fun v => Below wr.heap.size wr v) wr.drew (Below.refl _ _).drew
          have hadb : ad.block < wr.heap.size := World.block_lt_of_cell? _ _ c1 |> fun hb => by rwa [add_block] at hb
          have f0 : ∀ n, (F n).cell? ⟨p, 2, none⟩ = some (.slice (some ad) r.L.length cL) := fun n => ((hF n).cell (p := ⟨p, 2, none⟩) K.at_.row.lt).trans c0
          have f3 : ∀ n, (F n).cell? ⟨(ad.add (pre.length * 4)).block, (ad.add (pre.length * 4)).off + 2, none⟩ = some (.int .i64 xm) := fun n => ((hF n).cell (p := ⟨(ad.add (pre.length * 4)).block, (ad.add (pre.length * 4)).off + 2, none⟩) (by show (ad.add (pre.length * 4)).block < _; rw [add_block]; exact hadb)).trans c3
          have CL := Lib.hid (fun n => (refLeft_any p _ NA SA _ cN cS cL i (F n) (K.at_.over (hF n)) hi (by rw [hsz1]; exact hz) (by show (pre ++ _).length ≤ 1000; rw [List.length_append]; omega) K.many).mono (R' := fun e w' => e = .returned (.int .i64 lf) ∧ ∃ m, w' = F m) fun e w' hh => ⟨by rw [hh.1, hlp], ⟨n, hh.2⟩⟩)
          have HF := Lib.hid hF
          have HG := Lib.hid hG
          clear hF hG hlp hlf hsz1 K hlen
          by_cases hst : lf < xm
          · have HST := Lib.hid hst
            go_upto_region 6 with fail
            refine wp_region_class F (by kernel_rfl) (by kernel_rfl) (HG.out _ (Below.refl _ _).drew) ?_
            repeat (go_big_quiet_step ((go_at_call 38; exact CL.out _)))
            refine wpQuiet_nil ?_
            rintro _ ⟨nq, rfl⟩
            have hbq := HF.out nq
            have hE : serveE (sizeP r i) i pre ((⟨(i : Int), xt, xm, false⟩ : En) :: t) = ((⟨(i : Int), xt, xm, false⟩ : En) :: t, []) := serveE_stop ⟨rfl, rfl⟩ (by rw [HLF.out]; exact HST.out)
            have HE1 := Lib.hid (show servedRb r i = out by unfold servedRb; rw [hS.out.eq, hE]; simp)
            have HE2 := Lib.hid (show serveRb r i = ⟨r.names, r.sizes, pre ++ (⟨(i : Int), xt, xm, false⟩ : En) :: t⟩ by unfold serveRb; rw [hS.out.eq, hE])
            have HR := Lib.hid (hS.out.res.over hbq)
            have HA := Lib.hid (hS.out.at_.over hbq)
            have HB := Lib.hid (hS.out.but.trans (But.of_below hbq (Nat.le_refl _)))
            clear hbq hE f0 f3 CL HF HG
            go_wp2_with fail
            go_ret
            exact ⟨B, d, by rw [HE1.out]; rfl, by rw [HE1.out]; exact HR.out, by rw [HE2.out]; exact HA.out, HB.out.mono (fun j e => .inl (by rw [e]))⟩
          · have hst2 : decide (lf < xm) = false := decide_eq_false hst
            have HST := Lib.hid hst
            clear hst
            go_upto_region 6 with fail
            refine wp_region_class F (by kernel_rfl) (by kernel_rfl) (HG.out _ (Below.refl _ _).drew) ?_
            repeat (go_big_quiet_step ((go_at_call 38; exact CL.out _)))
            refine wpQuiet_nil ?_
            rintro _ ⟨nq, rfl⟩
            have hbq := HF.out nq
            have hA := hS.out.at_.over hbq
            have hR := hS.out.res.over hbq
            have hB := hS.out.but.trans (But.of_below hbq (Nat.le_refl _))
            have a0 := f0 nq
            generalize F nq = wq at hbq hA hR hB a0 ⊢
            clear f0 f3 CL HF HG hT2
            have hlt : pre.length < (pre ++ (⟨(i : Int), xt, xm, false⟩ : En) :: t).length := by simp
            have hadd : (⟨(ad.add (pre.length * 4)).block, (ad.add (pre.length * 4)).off + 3, none⟩ : Addr) = ⟨gL, pre.length * 4 + 3, none⟩ := by rw [← HAD.out]; unfold Addr.add; split <;> simp_all
            obtain ⟨cur, hcr, -⟩ := hA.ens.open_
            have fz : wq.frozen? ⟨(ad.add (pre.length * 4)).block, (ad.add (pre.length * 4)).off + 3, none⟩ = false := by rw [hadd]; exact hcr.free _
            have a4 : wq.cell? ⟨(ad.add (pre.length * 4)).block, (ad.add (pre.length * 4)).off + 3, none⟩ = some (.bool false) := (hbq.cell (p := ⟨(ad.add (pre.length * 4)).block, (ad.add (pre.length * 4)).off + 3, none⟩) (by show (ad.add (pre.length * 4)).block < _; rw [add_block]; exact hadb)).trans c4
            obtain ⟨w4, hw4⟩ : ∃ w4, wq.setCell ⟨(ad.add (pre.length * 4)).block, (ad.add (pre.length * 4)).off + 3, none⟩ (.bool true) = w4 := ⟨_, rfl⟩
            have hw4' : wq.setCell ⟨gL, pre.length * 4 + 3, none⟩ (.bool true) = w4 := by rw [← hadd]; exact hw4
            have hmk := hA.ens.mark hlt
            have hlist : (pre ++ (⟨(i : Int), xt, xm, false⟩ : En) :: t).take pre.length ++ (pre ++ (⟨(i : Int), xt, xm, false⟩ : En) :: t)[pre.length].held :: (pre ++ (⟨(i : Int), xt, xm, false⟩ : En) :: t).drop (pre.length + 1) = (pre ++ [(⟨(i : Int), xt, xm, true⟩ : En)]) ++ t := by simp
            rw [hlist, hw4'] at hmk
            have hA4 : RfAt w4 p ⟨r.names, r.sizes, (pre ++ [(⟨(i : Int), xt, xm, true⟩ : En)]) ++ t⟩ NA SA (some ⟨gL, 0, none⟩) cN cS cL := by
              refine ⟨?_, ?_, ?_, hmk⟩
              · rw [← hw4']
                have := hA.row.far (p := ⟨gL, pre.length * 4 + 3, none⟩) hpg (.bool true)
                have hl2 : ((pre ++ [(⟨(i : Int), xt, xm, true⟩ : En)]) ++ t).length = (pre ++ (⟨(i : Int), xt, xm, false⟩ : En) :: t).length := by simp
                show Row _ p _ #[_, _, .slice _ ((pre ++ [(⟨(i : Int), xt, xm, true⟩ : En)]) ++ t).length cL]
                rw [hl2]
                exact this
              · rw [← hw4']; exact hA.nms.store hcr (by decide) _ _
              · rw [← hw4']; exact hA.szs.store hcr (by decide) _ _
            have hR4 : RkO enU 1 28 w.heap.size w4 B d out := by rw [← hw4']; exact hR.store hcr (by decide) _ _
            have hB4 : But (fun j => j = gL) w w4 := by rw [← hw4']; exact hB.put (.inl rfl) _
            have b0 := hA4.row.cell 2
            simp only [List.getElem?_toArray, List.getElem?_cons_succ, List.getElem?_cons_zero] at b0
            have hl3 : ((pre ++ [(⟨(i : Int), xt, xm, true⟩ : En)]) ++ t).length = r.L.length := by have := hS.out.len; simp at this ⊢; omega
            rw [hl3, HAD.out] at b0
            have hrs4 := RkO.rks enE_len hA4.ens
            rw [HAD.out] at hrs4
            obtain ⟨-, -, b2, -, -⟩ := hrs4.cellsE pre.length (by simp)
            have hg4 : ((pre ++ [(⟨(i : Int), xt, xm, true⟩ : En)]) ++ t)[pre.length]'(by simp) = (⟨(i : Int), xt, xm, true⟩ : En) := by simp
            rw [hg4] at b2
            dsimp only at b2
            obtain ⟨M, hM⟩ : ∃ M, w4.heap.size = M := ⟨_, rfl⟩
            obtain ⟨w5, hw5⟩ : ∃ w5, w4.alloc (.cells #[.int .u64 xt] 28) = w5 := ⟨_, rfl⟩
            have hv5 : RkS enU 1 w5 (some ⟨M, 0, none⟩) [xt] := by
              have := Row.new w4 28 #[.int .u64 xt]
              rw [hw5, hM] at this
              exact RkS.of_row (t := 28) enU_len (by simpa [rkCs, enU] using this)
            have hb5 : Below w4.heap.size w4 w5 := by rw [← hw5]; exact (Below.refl _ _).alloc (Nat.le_refl _) _
            have hR5 := hR4.over hb5
            have hwz : w.heap.size ≤ w4.heap.size := hB4.size
            have hfew := hS.out.few
            obtain ⟨B', d', w6, hrun, ho6, hg6, hn6⟩ := run_appK (P := Try.prog) (st := 57) (ty := 57) (ys := [xt]) Try.underlying57 infoU rfl (by decide) (by decide) enU_len enU_one hR5 ⟨M, 0, none⟩ 1 hv5 (by have := hb5.size; omega) (by simp; omega)
            have hb6 : But (fun j => B = some ⟨j, 0, none⟩) w4 w6 := (But.of_below hb5 (Nat.le_refl _)).trans (But.of_grown hg6 fun j e => by
              rcases hR4.form with ⟨e0, -, -⟩ | ⟨g', e0, -, -, -⟩
              · rw [e0] at e; simp [Value.ownBlock] at e
              · rw [e0] at e; simp [Value.ownBlock] at e; rw [e0, e])
            have hA6 : RfAt w6 p ⟨r.names, r.sizes, (pre ++ [(⟨(i : Int), xt, xm, true⟩ : En)]) ++ t⟩ NA SA (some ⟨gL, 0, none⟩) cN cS cL := by
              have off : ∀ {q : Nat} {ty : TypeId} {cs : Array Value}, Row w4 q ty cs → 28 ≠ ty → ¬ B = some ⟨q, 0, none⟩ := fun hr hne e => hR4.off hr hne e
              refine ⟨hA4.row.but hb6 (off hA4.row (by decide)), hA4.nms.but hb6 (fun q e => ?_), hA4.szs.but hb6 (fun q e => ?_), hA4.ens.but hb6 (fun q e => ?_)⟩
              · subst e; obtain ⟨cu, hcu, -⟩ := hA4.nms.open_; exact off hcu (by decide)
              · subst e; obtain ⟨cu, hcu, -⟩ := hA4.szs.open_; exact off hcu (by decide)
              · obtain ⟨cu, hcu, -⟩ := hA4.ens.open_
                injection e with e; injection e with e; subst e
                exact off hcu (by decide)
            have hB6 : But (fun j => j = gL) w w6 := hB4.next hb6 fun j e => by
              rcases hR4.fresh none j e with h1 | h1
              · cases h1
              · exact .inr h1
            have hrun' : (Builtin.append_ #[57, 57] 57 #[.slice B out.length d, .slice (some ⟨M, 0, none⟩) 1 1]).run Try.prog w5 = .ok (.slice B' (out.length + 1) d') w6 := hrun
            have hEq := hS.out.eq
            rw [serveE_yes (x := (⟨(i : Int), xt, xm, false⟩ : En)) (i := (i : Int)) ⟨rfl, rfl⟩ (by rw [HLF.out]; exact HST.out)] at hEq
            have SN := Lib.hid (show SvR p r NA SA gL cN cS cL i w w6 (pre ++ [(⟨(i : Int), xt, xm, true⟩ : En)]) t (out ++ [xt]) B' d' from ⟨hA6, ho6, by rw [hEq]; simp, mem_swap (x := (⟨(i : Int), xt, xm, false⟩ : En)) hS.out.many hxm, by have := hS.out.len; simp at this ⊢; omega, by simp; omega, hB6⟩)
            clear hA hR hB hA4 hR4 hB4 hA6 hB6 ho6 hg6 hn6 hb6 hv5 hb5 hR5 hmk hlist hrs4 hg4 hEq hrun hcr hbq hadd hw4' hl3 hlt
            go_wp2_with (at_builtin; refine Lib.wpList_append_run _ rfl _ _ 57 57 rfl _ _ (by simp [Act.eval]) (by simp [Act.eval]) _ _ hrun' ?_)
            go_roundw
            case rel => exact ⟨pre ++ [(⟨(i : Int), xt, xm, true⟩ : En)], t, out ++ [xt], B', d', by simp, by simp, SN⟩
            case measure => simp [intOf]; omega
        · have SN := Lib.hid (show SvR p r NA SA gL cN cS cL i w wr (pre ++ [(⟨xp, xt, xm, xh⟩ : En)]) t out B d from ⟨by have := hS.out.at_; rwa [show pre ++ (⟨xp, xt, xm, xh⟩ : En) :: t = (pre ++ [(⟨xp, xt, xm, xh⟩ : En)]) ++ t by simp] at this, hS.out.res, by rw [hS.out.eq, serveE_skip hw]; simp, mem_swap (x := (⟨xp, xt, xm, xh⟩ : En)) hS.out.many hxm, by have := hS.out.len; simp at this ⊢; omega, by have := hS.out.few; simp; omega, hS.out.but⟩)
          clear K hlen
          by_cases h1 : xp = (i : Int)
          · subst h1
            have hxh : xh = true := by
              cases xh
              · exact absurd ⟨rfl, rfl⟩ hw
              · rfl
            subst hxh
            go_wp2_with fail
            go_roundw
            case rel => exact ⟨_, t, out, B, d, by simp, rfl, SN⟩
            case measure => simp [intOf]; omega
          · have d1 : (xp == (i : Int)) = false := by simpa using h1
            have d2 : (xp != (i : Int)) = true := by simpa using h1
            go_wp2_with fail
            go_roundw
            case rel => exact ⟨_, t, out, B, d, by simp, rfl, SN⟩
            case measure => simp [intOf]; omega
end Go.Proofs.Ytaikjobebbighaa
namespace Go.Proofs.Ytaikjobebbighaa
set_option linter.unusedVariables false
set_option maxRecDepth 100000
open Go.RowKit
/-- Where the document's book lies. -/
structure Za where
  NA : Option Addr
  SA : Option Addr
  LA : Option Addr
  cN : Nat
  cS : Nat
  cL : Nat
abbrev RfZ (w : World) (p : Nat) (r : Rb) (z : Za) : Prop := RfAt w p r z.NA z.SA z.LA z.cN z.cS z.cL
def Zm (p : Nat) (z : Za) (j : Nat) : Prop := j = p ∨ z.NA = some ⟨j, 0, none⟩ ∨ z.SA = some ⟨j, 0, none⟩ ∨ z.LA = some ⟨j, 0, none⟩
structure RTurn (w w' : World) (p : Nat) (z : Za) (r' : Rb) (z' : Za) : Prop where
  at_ : RfZ w' p r' z'
  but : But (Zm p z) w w'
  mine : ∀ j, Zm p z' j → Zm p z j ∨ w.heap.size ≤ j
theorem RTurn.trans {w w1 w2 : World} {p : Nat} {z z1 z2 : Za} {r1 r2 : Rb} (h : RTurn w w1 p z r1 z1) (k : RTurn w1 w2 p z1 r2 z2) : RTurn w w2 p z r2 z2 :=
  ⟨k.at_, h.but.next k.but h.mine, fun j hj => by
    rcases k.mine j hj with h1 | h1
    · exact h.mine j h1
    · have := h.but.size; exact .inr (by omega)⟩
theorem RTurn.stay {w w' : World} {p : Nat} {z : Za} {r : Rb} (h : RfZ w p r z) (hb : Below w.heap.size w w') : RTurn w w' p z r z := ⟨h.over hb, But.of_below hb (Nat.le_refl _), fun j hj => .inl hj⟩
theorem ownK {α : Type} {en : α → List Value} {k : Nat} {e : TypeId} {base : Nat} {B : Option Addr} {d n : Nat} {l : List α} {w : World} (h : RkO en k e base w B d l) {q : Nat} (e2 : Value.ownBlock (.slice B n d) = some q) : B = some ⟨q, 0, none⟩ := by
  rcases h.form with ⟨rfl, -, -⟩ | ⟨g', rfl, -, -, -⟩
  · simp [Value.ownBlock] at e2
  · simp [Value.ownBlock] at e2; rw [e2]
theorem RkO.butK {α β : Type} {en : α → List Value} {k : Nat} {e : TypeId} {en' : β → List Value} {k' : Nat} {e' : TypeId} {B B' : Option Addr} {d d' : Nat} {l : List α} {l' : List β} {w w' : World} (h : RkO en k e 0 w B d l) (hb : But (fun j => B' = some ⟨j, 0, none⟩) w w') (h' : RkO en' k' e' 0 w B' d' l') (hne : e' ≠ e) : RkO en k e 0 w' B d l :=
  h.but hb fun q e2 e3 => by
    subst e2
    obtain ⟨cu, hcu, -⟩ := h.open_
    exact h'.off hcu hne e3
theorem infoN : (Try.prog.info? 9).map (fun i => (i.zero, i.size, i.bytes)) = some (some (.string ⟨#[]⟩), 1, 16) := by kernel_rfl
theorem infoI : (Try.prog.info? 3).map (fun i => (i.zero, i.size, i.bytes)) = some (some (.int .i64 0), 1, 8) := by kernel_rfl
theorem infoE : (Try.prog.info? 87).map (fun i => (i.zero, i.size, i.bytes)) = some (some (.agg #[.int .i64 0, .int .u64 0, .int .i64 0, .bool false]), 4, 32) := by kernel_rfl
theorem enN_one (x : Key) : ∀ v ∈ enN x, v.oneCell' = true := fun v hv => by simp [enN] at hv; subst hv; rfl
theorem enI_one (x : Int) : ∀ v ∈ enI x, v.oneCell' = true := fun v hv => by simp [enI] at hv; subst hv; rfl
theorem enE_one (x : En) : ∀ v ∈ enE x, v.oneCell' = true := fun v hv => by
  simp [enE] at hv
  rcases hv with rfl | rfl | rfl | rfl <;> rfl
theorem RfAt.name {w : World} {p : Nat} {r : Rb} {z : Za} (h : RfZ w p r z) (hn : r.names.length ≤ 100000) (k : Key) :
    ∃ (B' : Option Addr) (d' : Nat) (w6 : World), (Builtin.append_ #[52, 52] 52 #[.slice z.NA r.names.length z.cN, .slice (some ⟨w.heap.size, 0, none⟩) 1 1]).run Try.prog (w.alloc (.cells #[nm k] 9)) = .ok (.slice B' (r.names.length + 1) d') w6 ∧
      w6.cell? ⟨p, 0, none⟩ = some (.slice z.NA r.names.length z.cN) ∧ w6.frozen? ⟨p, 0, none⟩ = false ∧ RTurn w (w6.setCell ⟨p, 0, none⟩ (.slice B' (r.names.length + 1) d')) p z ⟨r.names ++ [k], r.sizes, r.L⟩ { z with NA := B', cN := d' } := by
  obtain ⟨w5, hw5⟩ : ∃ w5, w.alloc (.cells #[nm k] 9) = w5 := ⟨_, rfl⟩
  have hv5 : RkS enN 1 w5 (some ⟨w.heap.size, 0, none⟩) [k] := by
    have := Row.new w 9 #[nm k]
    rw [hw5] at this
    exact RkS.of_row (t := 9) enN_len (by simpa [rkCs, enN] using this)
  have hb5 : Below w.heap.size w w5 := by rw [← hw5]; exact (Below.refl _ _).alloc (Nat.le_refl _) _
  have h5 := h.over hb5
  obtain ⟨B', d', w6, hrun, ho6, hg6, hn6⟩ := run_appK (P := Try.prog) (st := 52) (ty := 52) (ys := [k]) Try.underlying52 infoN rfl (by decide) (by decide) enN_len enN_one h5.nms ⟨w.heap.size, 0, none⟩ 1 hv5 (Nat.zero_le _) (by simp; omega)
  have hb6 : But (fun j => z.NA = some ⟨j, 0, none⟩) w5 w6 := But.of_grown hg6 fun j e => ownK h5.nms e
  have hr6 := h5.row.but hb6 (fun e => h5.nms.off h5.row (by decide) e)
  have hz := hb5.size
  rw [hw5]
  refine ⟨B', d', w6, hrun, (hr6.cell 0).trans rfl, hr6.free 0, ⟨⟨?_, ?_, ?_, ?_⟩, ?_, fun j hj => ?_⟩⟩
  · have := hr6.put 0 (.slice B' (r.names.length + 1) d')
    refine this.eq ?_
    simp
  · exact (ho6.store hr6 (by decide) 0 _)
  · exact ((h5.szs.butK hb6 h5.nms (by decide)).store hr6 (by decide) 0 _)
  · exact ((h5.ens.butK hb6 h5.nms (by decide)).store hr6 (by decide) 0 _)
  · exact ((But.of_below hb5 (Nat.le_refl _)).trans (hb6.mono fun j e => .inl (.inr (.inl e)))).put (.inl (.inl rfl)) _
  · rcases hj with e | e | e | e
    · exact .inl (.inl e)
    · rcases hn6 j e with e | e
      · exact .inl (.inr (.inl e))
      · exact .inr (by omega)
    · exact .inl (.inr (.inr (.inl e)))
    · exact .inl (.inr (.inr (.inr e)))
theorem RfAt.size0 {w : World} {p : Nat} {r : Rb} {z : Za} (h : RfZ w p r z) (hn : r.sizes.length ≤ 100000) (n : Int) :
    ∃ (B' : Option Addr) (d' : Nat) (w6 : World), (Builtin.append_ #[53, 53] 53 #[.slice z.SA r.sizes.length z.cS, .slice (some ⟨w.heap.size, 0, none⟩) 1 1]).run Try.prog (w.alloc (.cells #[.int .i64 n] 3)) = .ok (.slice B' (r.sizes.length + 1) d') w6 ∧
      w6.cell? ⟨p, 1, none⟩ = some (.slice z.SA r.sizes.length z.cS) ∧ w6.frozen? ⟨p, 1, none⟩ = false ∧ RTurn w (w6.setCell ⟨p, 1, none⟩ (.slice B' (r.sizes.length + 1) d')) p z ⟨r.names, r.sizes ++ [n], r.L⟩ { z with SA := B', cS := d' } := by
  obtain ⟨w5, hw5⟩ : ∃ w5, w.alloc (.cells #[.int .i64 n] 3) = w5 := ⟨_, rfl⟩
  have hv5 : RkS enI 1 w5 (some ⟨w.heap.size, 0, none⟩) [n] := by
    have := Row.new w 3 #[.int .i64 n]
    rw [hw5] at this
    exact RkS.of_row (t := 3) enI_len (by simpa [rkCs, enI] using this)
  have hb5 : Below w.heap.size w w5 := by rw [← hw5]; exact (Below.refl _ _).alloc (Nat.le_refl _) _
  have h5 := h.over hb5
  obtain ⟨B', d', w6, hrun, ho6, hg6, hn6⟩ := run_appK (P := Try.prog) (st := 53) (ty := 53) (ys := [n]) Try.underlying53 infoI rfl (by decide) (by decide) enI_len enI_one h5.szs ⟨w.heap.size, 0, none⟩ 1 hv5 (Nat.zero_le _) (by simp; omega)
  have hb6 : But (fun j => z.SA = some ⟨j, 0, none⟩) w5 w6 := But.of_grown hg6 fun j e => ownK h5.szs e
  have hr6 := h5.row.but hb6 (fun e => h5.szs.off h5.row (by decide) e)
  have hz := hb5.size
  rw [hw5]
  refine ⟨B', d', w6, hrun, (hr6.cell 1).trans rfl, hr6.free 1, ⟨⟨?_, ?_, ?_, ?_⟩, ?_, fun j hj => ?_⟩⟩
  · have := hr6.put 1 (.slice B' (r.sizes.length + 1) d')
    refine this.eq ?_
    simp
  · exact ((h5.nms.butK hb6 h5.szs (by decide)).store hr6 (by decide) 1 _)
  · exact (ho6.store hr6 (by decide) 1 _)
  · exact ((h5.ens.butK hb6 h5.szs (by decide)).store hr6 (by decide) 1 _)
  · exact ((But.of_below hb5 (Nat.le_refl _)).trans (hb6.mono fun j e => .inl (.inr (.inr (.inl e))))).put (.inl (.inl rfl)) _
  · rcases hj with e | e | e | e
    · exact .inl (.inl e)
    · exact .inl (.inr (.inl e))
    · rcases hn6 j e with e | e
      · exact .inl (.inr (.inr (.inl e)))
      · exact .inr (by omega)
    · exact .inl (.inr (.inr (.inr e)))
theorem RfAt.entry {w : World} {p : Nat} {r : Rb} {z : Za} (h : RfZ w p r z) (hn : r.L.length ≤ 100000) (x : En) :
    ∃ (B' : Option Addr) (d' : Nat) (w6 : World), (Builtin.append_ #[54, 54] 54 #[.slice z.LA r.L.length z.cL, .slice (some ⟨w.heap.size, 0, none⟩) 1 1]).run Try.prog (w.alloc (.cells #[.int .i64 x.pool, .int .u64 x.tok, .int .i64 x.many, .bool x.holds] 87)) = .ok (.slice B' (r.L.length + 1) d') w6 ∧
      w6.cell? ⟨p, 2, none⟩ = some (.slice z.LA r.L.length z.cL) ∧ w6.frozen? ⟨p, 2, none⟩ = false ∧ RTurn w (w6.setCell ⟨p, 2, none⟩ (.slice B' (r.L.length + 1) d')) p z ⟨r.names, r.sizes, r.L ++ [x]⟩ { z with LA := B', cL := d' } := by
  obtain ⟨w5, hw5⟩ : ∃ w5, w.alloc (.cells #[.int .i64 x.pool, .int .u64 x.tok, .int .i64 x.many, .bool x.holds] 87) = w5 := ⟨_, rfl⟩
  have hv5 : RkS enE 4 w5 (some ⟨w.heap.size, 0, none⟩) [x] := by
    have := Row.new w 87 #[.int .i64 x.pool, .int .u64 x.tok, .int .i64 x.many, .bool x.holds]
    rw [hw5] at this
    exact RkS.of_row (t := 87) enE_len (by simpa [rkCs, enE] using this)
  have hb5 : Below w.heap.size w w5 := by rw [← hw5]; exact (Below.refl _ _).alloc (Nat.le_refl _) _
  have h5 := h.over hb5
  obtain ⟨B', d', w6, hrun, ho6, hg6, hn6⟩ := run_appK (P := Try.prog) (st := 54) (ty := 54) (ys := [x]) Try.underlying54 infoE rfl (by decide) (by decide) enE_len enE_one h5.ens ⟨w.heap.size, 0, none⟩ 1 hv5 (Nat.zero_le _) (by simp; omega)
  have hb6 : But (fun j => z.LA = some ⟨j, 0, none⟩) w5 w6 := But.of_grown hg6 fun j e => ownK h5.ens e
  have hr6 := h5.row.but hb6 (fun e => h5.ens.off h5.row (by decide) e)
  have hz := hb5.size
  rw [hw5]
  refine ⟨B', d', w6, hrun, (hr6.cell 2).trans rfl, hr6.free 2, ⟨⟨?_, ?_, ?_, ?_⟩, ?_, fun j hj => ?_⟩⟩
  · have := hr6.put 2 (.slice B' (r.L.length + 1) d')
    refine this.eq ?_
    simp
  · exact ((h5.nms.butK hb6 h5.ens (by decide)).store hr6 (by decide) 2 _)
  · exact ((h5.szs.butK hb6 h5.ens (by decide)).store hr6 (by decide) 2 _)
  · exact (ho6.store hr6 (by decide) 2 _)
  · exact ((But.of_below hb5 (Nat.le_refl _)).trans (hb6.mono fun j e => .inl (.inr (.inr (.inr e))))).put (.inl (.inl rfl)) _
  · rcases hj with e | e | e | e
    · exact .inl (.inl e)
    · exact .inl (.inr (.inl e))
    · exact .inl (.inr (.inr (.inl e)))
    · rcases hn6 j e with e | e
      · exact .inl (.inr (.inr (.inr e)))
      · exact .inr (by omega)
end Go.Proofs.Ytaikjobebbighaa
