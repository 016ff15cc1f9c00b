/- The plain arithmetic of dates: no program in sight. -/
namespace Go.Proofs.YthigmjjafilbcaaDoor
set_option linter.unusedVariables false
def leapB (y : Int) : Bool := (y.tmod 4 == 0 && !(y.tmod 100 == 0)) || y.tmod 400 == 0

/-- How long a month is. -/
def longI (y m : Int) : Int :=
  if m < 1 ∨ 12 < m then 0
  else if m = 2 then (if leapB y = true then 29 else 28)
  else if m = 4 ∨ m = 6 ∨ m = 9 ∨ m = 11 then 30 else 31

/-- Which dates may be. -/
def mayB (y m d : Int) : Bool := decide (1970 ≤ y) && decide (y ≤ 2399) && decide (1 ≤ d) && decide (d ≤ longI y m)

theorem mayB_iff {y m d : Int} : mayB y m d = true ↔ 1970 ≤ y ∧ y ≤ 2399 ∧ 1 ≤ d ∧ d ≤ longI y m := by
  unfold mayB; simp only [Bool.and_eq_true, decide_eq_true_eq, and_assoc]

theorem longI_bd (y m : Int) : 0 ≤ longI y m ∧ longI y m ≤ 31 := by
  unfold longI; (repeat' split) <;> omega

theorem mayB_bds {y m d : Int} (h : mayB y m d = true) : 1970 ≤ y ∧ y ≤ 2399 ∧ 1 ≤ m ∧ m ≤ 12 ∧ 1 ≤ d ∧ d ≤ 31 ∧ d ≤ longI y m := by
  obtain ⟨h1, h2, h3, h4⟩ := mayB_iff.1 h
  have hb := longI_bd y m
  refine ⟨h1, h2, ?_, ?_, h3, by omega, h4⟩
  all_goals
    unfold longI at h4
    (repeat' split at h4) <;> omega

theorem leapB_iff {y : Int} (h : 0 ≤ y) : leapB y = true ↔ (y % 4 = 0 ∧ y % 100 ≠ 0) ∨ y % 400 = 0 := by
  unfold leapB
  rw [Int.tmod_eq_emod_of_nonneg h, Int.tmod_eq_emod_of_nonneg h, Int.tmod_eq_emod_of_nonneg h]
  simp

/-- The days before a year, but for a constant. -/
def dby (y : Int) : Int := 365 * y + (y - 1) / 4 - (y - 1) / 100 + (y - 1) / 400
theorem dby_succ {y : Int} (h : 0 ≤ y) : dby (y + 1) = dby y + 365 + (if leapB y = true then 1 else 0) := by
  unfold dby
  split
  · rename_i h1; rw [leapB_iff h] at h1; omega
  · rename_i h1; rw [leapB_iff h] at h1; omega

/-- The days of a year before a month. -/
def cum (y m : Int) : Int :=
  (if m = 1 then 0 else if m = 2 then 31 else if m = 3 then 59 else if m = 4 then 90 else if m = 5 then 120 else if m = 6 then 151 else if m = 7 then 181
   else if m = 8 then 212 else if m = 9 then 243 else if m = 10 then 273 else if m = 11 then 304 else if m = 12 then 334 else 365) + (if 2 < m ∧ leapB y = true then 1 else 0)
theorem cum_succ {y m : Int} (h1 : 1 ≤ m) (h2 : m ≤ 12) : cum y (m + 1) = cum y m + longI y m := by
  have hm : m = 1 ∨ m = 2 ∨ m = 3 ∨ m = 4 ∨ m = 5 ∨ m = 6 ∨ m = 7 ∨ m = 8 ∨ m = 9 ∨ m = 10 ∨ m = 11 ∨ m = 12 := by omega
  cases hl : leapB y <;> rcases hm with rfl | rfl | rfl | rfl | rfl | rfl | rfl | rfl | rfl | rfl | rfl | rfl <;> simp [cum, longI, hl]
theorem cum_13 (y : Int) : cum y 13 = 365 + (if leapB y = true then 1 else 0) := by unfold cum; cases leapB y <;> simp
theorem cum_1 (y : Int) : cum y 1 = 0 := by unfold cum; simp

/-- A date's day. -/
def numI (y m d : Int) : Int := dby y - 719527 + cum y m + d - 1
theorem dby_1970 : dby 1970 = 719527 := by decide
theorem dby_2400 : dby 2400 = 719527 + 157054 := by decide

/-- A date's day, as package civil reckons it. -/
def daysA (y m d : Int) : Int :=
  if m ≤ 2 then 365 * (y - 1) + (y - 1) / 4 - (y - 1) / 100 + (y - 1) / 400 + (153 * (m + 12 - 3) + 2) / 5 + d - 719469
  else 365 * y + y / 4 - y / 100 + y / 400 + (153 * (m - 3) + 2) / 5 + d - 719469

set_option maxHeartbeats 4000000 in
theorem daysA_num {y m d : Int} (h : mayB y m d = true) : daysA y m d = numI y m d := by
  obtain ⟨h1, h2, h3, h4, -⟩ := mayB_bds h
  have hl := leapB_iff (y := y) (by omega)
  have hm : m = 1 ∨ m = 2 ∨ m = 3 ∨ m = 4 ∨ m = 5 ∨ m = 6 ∨ m = 7 ∨ m = 8 ∨ m = 9 ∨ m = 10 ∨ m = 11 ∨ m = 12 := by omega
  unfold daysA numI dby cum
  by_cases hly : leapB y = true
  · have h9 := hl.1 hly
    rw [hly]
    rcases hm with rfl | rfl | rfl | rfl | rfl | rfl | rfl | rfl | rfl | rfl | rfl | rfl <;> simp <;> omega
  · have h9 : ¬ ((y % 4 = 0 ∧ y % 100 ≠ 0) ∨ y % 400 = 0) := fun h => hly (hl.2 h)
    simp only [Bool.not_eq_true] at hly
    rw [hly]
    rcases hm with rfl | rfl | rfl | rfl | rfl | rfl | rfl | rfl | rfl | rfl | rfl | rfl <;> simp <;> omega

theorem cum_le {y m : Int} (h1 : 1 ≤ m) (k : Nat) (h : m + k ≤ 13) : cum y m ≤ cum y (m + k) := by
  induction k with
  | zero => simp
  | succ k ih =>
    have := ih (by omega)
    have e := cum_succ (y := y) (m := m + k) (by omega) (by omega)
    have b := longI_bd y (m + k)
    rw [show m + ((k + 1 : Nat) : Int) = m + k + 1 by omega, e]
    omega
theorem cum_bd (y m : Int) (h1 : 1 ≤ m) (h2 : m ≤ 13) : 0 ≤ cum y m ∧ cum y m ≤ 366 := by
  have a := cum_le (y := y) (m := 1) (by omega) (m - 1).toNat (by omega)
  have b := cum_le (y := y) (m := m) (by omega) (13 - m).toNat (by omega)
  rw [cum_1, show (1 : Int) + ((m - 1).toNat : Int) = m by omega] at a
  rw [show m + ((13 - m).toNat : Int) = 13 by omega, cum_13] at b
  refine ⟨a, ?_⟩
  split at b <;> omega
theorem cum_mono {y m m' : Int} (h1 : 1 ≤ m) (h : m < m') (h2 : m' ≤ 13) : cum y m + longI y m ≤ cum y m' := by
  rw [← cum_succ h1 (by omega)]
  have := cum_le (y := y) (m := m + 1) (by omega) (m' - m - 1).toNat (by omega)
  rwa [show m + 1 + ((m' - m - 1).toNat : Int) = m' by omega] at this

theorem dby_mono {y y' : Int} (h0 : 0 ≤ y) (h : y < y') : dby y + 365 + (if leapB y = true then 1 else 0) ≤ dby y' := by
  rw [← dby_succ h0]; unfold dby; omega

theorem num_bd {y m d : Int} (h : mayB y m d = true) : dby y - 719527 ≤ numI y m d ∧ numI y m d < dby (y + 1) - 719527 := by
  obtain ⟨h1, h2, h3, h4, h5, h6, h7⟩ := mayB_bds h
  have hc := cum_mono (y := y) (m := m) (m' := 13) h3 (by omega) (by omega)
  rw [cum_13] at hc
  have hc0 := cum_le (y := y) (m := 1) (by omega) (m - 1).toNat (by omega)
  rw [cum_1, show (1 : Int) + ((m - 1).toNat : Int) = m by omega] at hc0
  rw [dby_succ (by omega)]
  unfold numI
  omega

/-- Dates are in order as their days are. -/
theorem num_lt {y m d y' m' d' : Int} (h : mayB y m d = true) (h' : mayB y' m' d' = true) (hlt : y < y' ∨ y = y' ∧ (m < m' ∨ m = m' ∧ d < d')) : numI y m d < numI y' m' d' := by
  obtain ⟨h1, h2, h3, h4, h5, h6, h7⟩ := mayB_bds h
  obtain ⟨k1, k2, k3, k4, k5, k6, k7⟩ := mayB_bds h'
  rcases hlt with hlt | ⟨rfl, hlt | ⟨rfl, hlt⟩⟩
  · have b := num_bd h
    have b' := num_bd h'
    have : dby (y + 1) ≤ dby y' := by unfold dby; omega
    omega
  · have := cum_mono (y := y) h3 hlt (by omega)
    unfold numI; omega
  · unfold numI; omega
theorem num_inj {y m d y' m' d' : Int} (h : mayB y m d = true) (h' : mayB y' m' d' = true) (he : numI y m d = numI y' m' d') : y = y' ∧ m = m' ∧ d = d' := by
  have a := fun x => num_lt h h' x
  have b := fun x => num_lt h' h x
  by_cases c1 : y = y'
  · by_cases c2 : m = m'
    · by_cases c3 : d = d'
      · exact ⟨c1, c2, c3⟩
      · exfalso
        rcases Int.lt_or_gt_of_ne c3 with c | c
        · have := a (.inr ⟨c1, .inr ⟨c2, c⟩⟩); omega
        · have := b (.inr ⟨c1.symm, .inr ⟨c2.symm, c⟩⟩); omega
    · exfalso
      rcases Int.lt_or_gt_of_ne c2 with c | c
      · have := a (.inr ⟨c1, .inl c⟩); omega
      · have := b (.inr ⟨c1.symm, .inl c⟩); omega
  · exfalso
    rcases Int.lt_or_gt_of_ne c1 with c | c
    · have := a (.inl c); omega
    · have := b (.inl c); omega
theorem num_range {y m d : Int} (h : mayB y m d = true) : 0 ≤ numI y m d ∧ numI y m d < 157054 := by
  have b := num_bd h
  obtain ⟨h1, h2, -⟩ := mayB_bds h
  have e1 : dby 1970 ≤ dby y := by unfold dby; omega
  have e2 : dby (y + 1) ≤ dby 2400 := by unfold dby; omega
  rw [dby_1970] at e1
  rw [dby_2400] at e2
  omega

/-- The day's date, as package civil reckons it: the year and the day in a year that begins in March. -/
def ofDay (n : Int) : Int := (n + 719468) % 146097
def ofYr (n : Int) : Int := (ofDay n - ofDay n / 1460 + ofDay n / 36524 - ofDay n / 146096) / 365
def ofDoy (n : Int) : Int := ofDay n - (365 * ofYr n + ofYr n / 4 - ofYr n / 100)
def ofMp (n : Int) : Int := (5 * ofDoy n + 2) / 153
def ofD (n : Int) : Int := ofDoy n - (153 * ofMp n + 2) / 5 + 1
def ofY (n : Int) : Int := if 12 < ofMp n + 3 then (n + 719468) / 146097 * 400 + ofYr n + 1 else (n + 719468) / 146097 * 400 + ofYr n
def ofM (n : Int) : Int := if 12 < ofMp n + 3 then ofMp n + 3 - 12 else ofMp n + 3

theorem ofYr_lem (day : Int) (h0 : 0 ≤ day) (h1 : day < 146097) :
    ∃ yr, (day - day / 1460 + day / 36524 - day / 146096) / 365 = yr ∧ 0 ≤ yr ∧ yr ≤ 399 ∧ 0 ≤ day - (365 * yr + yr / 4 - yr / 100) ∧
      (day - (365 * yr + yr / 4 - yr / 100) ≤ 364 ∨ day - (365 * yr + yr / 4 - yr / 100) = 365 ∧ (yr % 4 = 3 ∧ yr % 100 ≠ 99 ∨ yr = 399)) := by
  by_cases hd : day = 146096
  · subst hd; exact ⟨399, by decide⟩
  have e3 : day / 146096 = 0 := by omega
  obtain ⟨c, hc⟩ : ∃ c, day / 36524 = c := ⟨_, rfl⟩
  have b1 : 0 ≤ c ∧ c ≤ 3 ∧ 0 ≤ day - 36524 * c ∧ day - 36524 * c ≤ 36523 := by omega
  obtain ⟨r, hr⟩ : ∃ r, day - 36524 * c = r := ⟨_, rfl⟩
  rw [hr] at b1
  obtain ⟨q, hq⟩ : ∃ q, r / 1461 = q := ⟨_, rfl⟩
  have b2 : 0 ≤ q ∧ q ≤ 24 ∧ 0 ≤ r - 1461 * q ∧ r - 1461 * q ≤ 1460 := by clear e3 hc h0 h1 hd; omega
  obtain ⟨s, hs⟩ : ∃ s, r - 1461 * q = s := ⟨_, rfl⟩
  rw [hs] at b2
  obtain ⟨t, ht⟩ : ∃ t, (if s = 1460 then 3 else s / 365) = t := ⟨_, rfl⟩
  have b3 : 0 ≤ t ∧ t ≤ 3 ∧ 0 ≤ s - 365 * t ∧ (s - 365 * t ≤ 364 ∨ s - 365 * t = 365 ∧ t = 3) := by
    clear e3 hc h0 h1 hd hs hr hq
    split at ht <;> omega
  clear ht
  obtain ⟨f, hf⟩ : ∃ f, s - 365 * t = f := ⟨_, rfl⟩
  rw [hf] at b3
  have hday : day = 36524 * c + 1461 * q + 365 * t + f := by clear e3 hc h0 h1 hd b1 b2 b3 hq; omega
  have h24 : f = 365 → t = 3 → q ≤ 23 := by clear e3 hc h0 h1 hd hq hr; omega
  clear hq hr hs hf
  obtain ⟨e, he⟩ : ∃ e, (24 * c + q + 365 * t + f) / 1460 = e := ⟨_, rfl⟩
  have e1 : day / 1460 = 25 * c + q + e := by rw [hday]; clear b1 b2 b3 e3 hc hday; omega
  have b4 : (e = 0 ∧ f ≤ 364) ∨ (e = 1 ∧ 1 ≤ f) := by
    obtain ⟨x, hx⟩ : ∃ x, 24 * c + q = x := ⟨_, rfl⟩
    rw [hx] at he
    have : 0 ≤ x ∧ x ≤ 96 := by omega
    clear hday e1 hc e3 h0 h1 hd hx b1 b2
    rcases b3 with ⟨t0, t3, f0, f1⟩
    have ht : t = 0 ∨ t = 1 ∨ t = 2 ∨ t = 3 := by omega
    rcases ht with rfl | rfl | rfl | rfl <;> omega
  have hy : (day - day / 1460 + day / 36524 - day / 146096) / 365 = 100 * c + 4 * q + t := by
    rw [e3, hc, e1]
    obtain ⟨Y, hY⟩ : ∃ Y, 100 * c + 4 * q + t = Y := ⟨_, rfl⟩
    have : day - (25 * c + q + e) + c - 0 = 365 * Y + (f - e) := by omega
    rw [this, hY]
    clear this hY hday e1 he hc e3 b1 b2 h0 h1 hd
    omega
  have hg : 365 * (100 * c + 4 * q + t) + (100 * c + 4 * q + t) / 4 - (100 * c + 4 * q + t) / 100 = day - f := by
    have g1 : (100 * c + 4 * q + t) / 4 = 25 * c + q := by clear hy hday e1 he hc e3 h0 h1 hd b4; omega
    have g2 : (100 * c + 4 * q + t) / 100 = c := by clear hy hday e1 he hc e3 h0 h1 hd b4; omega
    rw [g1, g2]; omega
  refine ⟨_, hy, by omega, by omega, ?_, ?_⟩
  · rw [hg]; omega
  · rw [hg, show day - (day - f) = f by omega]
    clear hg hy e1 he hc e3 h0 h1 hd b4
    rcases b3 with ⟨t0, t3, f0, f1 | ⟨f1, rfl⟩⟩
    · exact .inl f1
    · have := h24 f1 rfl
      exact .inr ⟨f1, .inl (by omega)⟩
theorem doy_lem (f : Int) (h0 : 0 ≤ f) (h1 : f ≤ 365) : ∃ mp, (5 * f + 2) / 153 = mp ∧ 0 ≤ mp ∧ mp ≤ 11 ∧ 0 ≤ f - (153 * mp + 2) / 5 ∧
    (mp = 0 ∧ f - (153 * mp + 2) / 5 ≤ 30 ∨ mp = 1 ∧ f - (153 * mp + 2) / 5 ≤ 29 ∨ mp = 2 ∧ f - (153 * mp + 2) / 5 ≤ 30 ∨ mp = 3 ∧ f - (153 * mp + 2) / 5 ≤ 29 ∨
     mp = 4 ∧ f - (153 * mp + 2) / 5 ≤ 30 ∨ mp = 5 ∧ f - (153 * mp + 2) / 5 ≤ 30 ∨ mp = 6 ∧ f - (153 * mp + 2) / 5 ≤ 29 ∨ mp = 7 ∧ f - (153 * mp + 2) / 5 ≤ 30 ∨
     mp = 8 ∧ f - (153 * mp + 2) / 5 ≤ 29 ∨ mp = 9 ∧ f - (153 * mp + 2) / 5 ≤ 30 ∨ mp = 10 ∧ f - (153 * mp + 2) / 5 ≤ 30 ∨ mp = 11 ∧ (f - (153 * mp + 2) / 5 ≤ 27 ∨ f = 365 ∧ f - (153 * mp + 2) / 5 = 28)) := by
  obtain ⟨mp, hm⟩ : ∃ mp, (5 * f + 2) / 153 = mp := ⟨_, rfl⟩
  refine ⟨mp, hm, by omega, by omega, by omega, ?_⟩
  have hc : mp = 0 ∨ mp = 1 ∨ mp = 2 ∨ mp = 3 ∨ mp = 4 ∨ mp = 5 ∨ mp = 6 ∨ mp = 7 ∨ mp = 8 ∨ mp = 9 ∨ mp = 10 ∨ mp = 11 := by omega
  rcases hc with rfl | rfl | rfl | rfl | rfl | rfl | rfl | rfl | rfl | rfl | rfl | rfl <;> simp <;> omega
theorem core1 (era yr mp f dd : Int) (hl : leapB (era * 400 + yr + 1) = true ↔ ((era * 400 + yr + 1) % 4 = 0 ∧ (era * 400 + yr + 1) % 100 ≠ 0) ∨ (era * 400 + yr + 1) % 400 = 0)
   (y0 : 0 ≤ yr) (y1 : yr ≤ 399) (he : era = 4 ∨ era = 5)
   (d0 : 0 ≤ dd) (f1 : f ≤ 364 ∨ f = 365 ∧ (yr % 4 = 3 ∧ yr % 100 ≠ 99 ∨ yr = 399))
   (d1 : mp = 10 ∧ dd ≤ 30 ∨ mp = 11 ∧ (dd ≤ 27 ∨ f = 365 ∧ dd = 28)) : dd + 1 ≤ longI (era * 400 + yr + 1) (mp + 3 - 12) := by
  unfold longI
  rcases d1 with ⟨rfl, d1⟩ | ⟨rfl, d1⟩
  · simp; omega
  · simp only [show (11 : Int) + 3 - 12 = 2 by rfl]
    rw [if_neg (by omega), if_pos trivial]
    split
    · omega
    · rename_i h
      rw [hl] at h
      rcases d1 with d1 | ⟨rfl, d1⟩
      · omega
      · exfalso
        rcases he with rfl | rfl <;> omega
theorem core2 (n era yr mp f dd : Int) (hday : n + 719468 = 146097 * era + (365 * yr + yr / 4 - yr / 100) + f) (hdd : f - (153 * mp + 2) / 5 = dd) (y0 : 0 ≤ yr) (y1 : yr ≤ 399) (h : 10 ≤ mp) (h11 : mp ≤ 11) :
    daysA (era * 400 + yr + 1) (mp + 3 - 12) (dd + 1) = n := by
  unfold daysA
  rw [if_pos (by omega), show era * 400 + yr + 1 - 1 = era * 400 + yr by omega, show mp + 3 - 12 + 12 - 3 = mp by omega]
  have a1 : (era * 400 + yr) / 4 = era * 100 + yr / 4 := by omega
  have a2 : (era * 400 + yr) / 100 = era * 4 + yr / 100 := by omega
  have a3 : (era * 400 + yr) / 400 = era := by omega
  rw [a1, a2, a3]
  generalize (153 * mp + 2) / 5 = k at *
  generalize yr / 4 = k4 at *
  generalize yr / 100 = k5 at *
  omega
theorem core3 (n era yr mp f dd : Int) (hday : n + 719468 = 146097 * era + (365 * yr + yr / 4 - yr / 100) + f) (hdd : f - (153 * mp + 2) / 5 = dd) (y0 : 0 ≤ yr) (y1 : yr ≤ 399) (h : mp ≤ 9) (h0 : 0 ≤ mp) :
    daysA (era * 400 + yr) (mp + 3) (dd + 1) = n := by
  unfold daysA
  rw [if_neg (by omega), show mp + 3 - 3 = mp by omega]
  have a1 : (era * 400 + yr) / 4 = era * 100 + yr / 4 := by omega
  have a2 : (era * 400 + yr) / 100 = era * 4 + yr / 100 := by omega
  have a3 : (era * 400 + yr) / 400 = era := by omega
  rw [a1, a2, a3]
  generalize (153 * mp + 2) / 5 = k at *
  generalize yr / 4 = k4 at *
  generalize yr / 100 = k5 at *
  omega
theorem core4 (y mp dd : Int) (d1 : mp = 0 ∧ dd ≤ 30 ∨ mp = 1 ∧ dd ≤ 29 ∨ mp = 2 ∧ dd ≤ 30 ∨ mp = 3 ∧ dd ≤ 29 ∨ mp = 4 ∧ dd ≤ 30 ∨ mp = 5 ∧ dd ≤ 30 ∨ mp = 6 ∧ dd ≤ 29 ∨ mp = 7 ∧ dd ≤ 30 ∨ mp = 8 ∧ dd ≤ 29 ∨ mp = 9 ∧ dd ≤ 30) : dd + 1 ≤ longI y (mp + 3) := by
  unfold longI
  rcases d1 with ⟨rfl, d1⟩ | ⟨rfl, d1⟩ | ⟨rfl, d1⟩ | ⟨rfl, d1⟩ | ⟨rfl, d1⟩ | ⟨rfl, d1⟩ | ⟨rfl, d1⟩ | ⟨rfl, d1⟩ | ⟨rfl, d1⟩ | ⟨rfl, d1⟩ <;> simp <;> omega
theorem core5 (n era yr f : Int) (h0 : 0 ≤ n) (h1 : n < 157054) (hday : n + 719468 = 146097 * era + (365 * yr + yr / 4 - yr / 100) + f) (y0 : 0 ≤ yr) (y1 : yr ≤ 399) (f0 : 0 ≤ f) (f1 : f ≤ 365) (he : era = 4 ∨ era = 5) :
   (306 ≤ f → 1970 ≤ era * 400 + yr + 1 ∧ era * 400 + yr + 1 ≤ 2399) ∧ (f ≤ 305 → 1970 ≤ era * 400 + yr ∧ era * 400 + yr ≤ 2399) := by
  rcases he with rfl | rfl
  · have : 369 ≤ yr := by omega
    omega
  · have : yr ≤ 399 := y1
    omega

theorem doy_split (mp f dd : Int) (h : mp = 0 ∧ dd ≤ 30 ∨ mp = 1 ∧ dd ≤ 29 ∨ mp = 2 ∧ dd ≤ 30 ∨ mp = 3 ∧ dd ≤ 29 ∨ mp = 4 ∧ dd ≤ 30 ∨ mp = 5 ∧ dd ≤ 30 ∨ mp = 6 ∧ dd ≤ 29 ∨ mp = 7 ∧ dd ≤ 30 ∨
     mp = 8 ∧ dd ≤ 29 ∨ mp = 9 ∧ dd ≤ 30 ∨ mp = 10 ∧ dd ≤ 30 ∨ mp = 11 ∧ (dd ≤ 27 ∨ f = 365 ∧ dd = 28)) :
    (10 ≤ mp → mp = 10 ∧ dd ≤ 30 ∨ mp = 11 ∧ (dd ≤ 27 ∨ f = 365 ∧ dd = 28)) ∧ (mp ≤ 9 → mp = 0 ∧ dd ≤ 30 ∨ mp = 1 ∧ dd ≤ 29 ∨ mp = 2 ∧ dd ≤ 30 ∨ mp = 3 ∧ dd ≤ 29 ∨ mp = 4 ∧ dd ≤ 30 ∨ mp = 5 ∧ dd ≤ 30 ∨ mp = 6 ∧ dd ≤ 29 ∨ mp = 7 ∧ dd ≤ 30 ∨ mp = 8 ∧ dd ≤ 29 ∨ mp = 9 ∧ dd ≤ 30) := by
  rcases h with h | h | h | h | h | h | h | h | h | h | h | h
  all_goals first | (refine ⟨fun _ => by omega, fun _ => ?_⟩; simp [h]; done) | (exact ⟨fun _ => by simp [h], fun _ => by omega⟩)

theorem of_num (n : Int) (h0 : 0 ≤ n) (h1 : n < 157054) : mayB (ofY n) (ofM n) (ofD n) = true ∧ daysA (ofY n) (ofM n) (ofD n) = n := by
  obtain ⟨yr, hy, y0, y1, f0, f1⟩ := ofYr_lem (ofDay n) (by unfold ofDay; omega) (by unfold ofDay; omega)
  have e1 : ofYr n = yr := hy
  obtain ⟨f, hf⟩ : ∃ f, ofDay n - (365 * yr + yr / 4 - yr / 100) = f := ⟨_, rfl⟩
  have e2 : ofDoy n = f := by unfold ofDoy; rw [e1, hf]
  rw [hf] at f0 f1
  obtain ⟨era, her⟩ : ∃ era, (n + 719468) / 146097 = era := ⟨_, rfl⟩
  have he : era = 4 ∨ era = 5 := by clear f1 hf e1 e2 hy; omega
  have hday : n + 719468 = 146097 * era + (365 * yr + yr / 4 - yr / 100) + f := by rw [← hf]; unfold ofDay; clear f1 e1 e2 hy he; omega
  have h5 := core5 n era yr f h0 h1 hday y0 y1 f0 (by clear hday he hf; omega) he
  obtain ⟨mp, hm, m0, m1, d0, d1⟩ := doy_lem f f0 (by clear hday he hf h5; omega)
  have e3 : ofMp n = mp := by unfold ofMp; rw [e2, hm]
  unfold ofY ofM ofD
  rw [e1, e2, e3, her]
  obtain ⟨dd, hdd⟩ : ∃ dd, f - (153 * mp + 2) / 5 = dd := ⟨_, rfl⟩
  rw [hdd] at d0 d1
  rw [hdd]
  have d2 := doy_split mp f dd d1
  clear d1
  by_cases h12 : 12 < mp + 3
  · rw [if_pos h12, if_pos h12]
    have h10 : 10 ≤ mp := by clear d2 h5 hday he f1; omega
    have hl := leapB_iff (y := era * 400 + yr + 1) (by clear d2 h5 hday f1; omega)
    constructor
    · rw [mayB_iff]
      have h6 := h5.1 (by clear d2 h5 hday he f1 hl; omega)
      exact ⟨h6.1, h6.2, by clear d2 h5 hday he f1 hl; omega, core1 era yr mp f dd hl y0 y1 he d0 f1 (d2.1 h10)⟩
    · exact core2 n era yr mp f dd hday hdd y0 y1 h10 m1
  · rw [if_neg h12, if_neg h12]
    have h10 : mp ≤ 9 := by clear d2 h5 hday he f1; omega
    constructor
    · rw [mayB_iff]
      have h6 := h5.2 (by clear d2 h5 hday he f1; omega)
      exact ⟨h6.1, h6.2, by clear d2 h5 hday he f1; omega, core4 _ mp dd (d2.2 h10)⟩
    · exact core3 n era yr mp f dd hday hdd y0 y1 h10 m0

/-- The steps of Of, each with its bounds. -/
theorem of_steps (n : Int) (h0 : 0 ≤ n) (h1 : n < 157054) : ∃ day era yr f mp dd : Int,
    (n + 719468) % 146097 = day ∧ (n + 719468) / 146097 = era ∧ (day - day / 1460 + day / 36524 - day / 146096) / 365 = yr ∧ day - (365 * yr + yr / 4 - yr / 100) = f ∧
    (5 * f + 2) / 153 = mp ∧ f - (153 * mp + 2) / 5 = dd ∧ 0 ≤ day ∧ day < 146097 ∧ 0 ≤ era ∧ era ≤ 5 ∧ 0 ≤ yr ∧ yr ≤ 399 ∧ 0 ≤ f ∧ f ≤ 365 ∧ 0 ≤ mp ∧ mp ≤ 11 ∧ 0 ≤ dd ∧ dd ≤ 30 ∧
    (12 < mp + 3 → ofY n = era * 400 + yr + 1 ∧ ofM n = mp + 3 - 12 ∧ ofD n = dd + 1) ∧ (¬ 12 < mp + 3 → ofY n = era * 400 + yr ∧ ofM n = mp + 3 ∧ ofD n = dd + 1) := by
  obtain ⟨yr, hy, y0, y1, f0, f1⟩ := ofYr_lem (ofDay n) (by unfold ofDay; omega) (by unfold ofDay; omega)
  have e1 : ofYr n = yr := hy
  obtain ⟨f, hf⟩ : ∃ f, ofDay n - (365 * yr + yr / 4 - yr / 100) = f := ⟨_, rfl⟩
  have e2 : ofDoy n = f := by unfold ofDoy; rw [e1, hf]
  rw [hf] at f0 f1
  obtain ⟨mp, hm, m0, m1, d0, d1⟩ := doy_lem f f0 (by clear hf; omega)
  have e3 : ofMp n = mp := by unfold ofMp; rw [e2, hm]
  refine ⟨ofDay n, (n + 719468) / 146097, yr, f, mp, f - (153 * mp + 2) / 5, rfl, rfl, hy, hf, hm, rfl, ?_⟩
  have hd : f - (153 * mp + 2) / 5 ≤ 30 := by
    clear hf hy e1 e2 e3 hm
    generalize f - (153 * mp + 2) / 5 = dd at d1
    rcases d1 with d | d | d | d | d | d | d | d | d | d | d | d <;> omega
  clear d1
  refine ⟨by unfold ofDay; omega, by unfold ofDay; omega, by omega, by omega, y0, y1, f0, by clear hf; omega, m0, m1, d0, hd, ?_, ?_⟩
  · intro h12
    unfold ofY ofM ofD
    rw [e1, e2, e3, if_pos h12, if_pos h12]
    exact ⟨rfl, rfl, rfl⟩
  · intro h12
    unfold ofY ofM ofD
    rw [e1, e2, e3, if_neg h12, if_neg h12]
    exact ⟨rfl, rfl, rfl⟩
theorem tmod7 (n : Int) : -6 ≤ n.tmod 7 ∧ n.tmod 7 ≤ 6 ∧ (n.tmod 7 + 11) % 7 = (n + 4) % 7 ∧ (0 ≤ (n.tmod 7 + 4).tmod 7 → (n.tmod 7 + 4).tmod 7 = (n + 4) % 7) ∧
    ((n.tmod 7 + 4).tmod 7 < 0 → (n.tmod 7 + 4).tmod 7 + 7 = (n + 4) % 7) := by
  have a := Int.lt_tmod_of_pos n (b := 7) (by omega)
  have b := Int.tmod_lt_of_pos n (b := 7) (by omega)
  obtain ⟨k, hk⟩ : ∃ k, n.tmod 7 = k := ⟨_, rfl⟩
  have c : n = 7 * (n.tdiv 7) + k := by rw [← hk]; exact (Int.mul_tdiv_add_tmod n 7).symm
  rw [hk] at a b ⊢
  refine ⟨by omega, by omega, ?_, ?_, ?_⟩
  · omega
  · intro h9
    by_cases h : 0 ≤ k + 4
    · rw [Int.tmod_eq_emod_of_nonneg h]; omega
    · have hk' : k = -5 ∨ k = -6 := by omega
      rcases hk' with hk' | hk' <;> rw [hk'] at h9 <;> exact absurd h9 (by decide)
  · intro h9
    by_cases h : 0 ≤ k + 4
    · rw [Int.tmod_eq_emod_of_nonneg h] at h9; omega
    · have hk' : k = -5 ∨ k = -6 := by omega
      rcases hk' with hk' | hk'
      · rw [hk', show ((-5 : Int) + 4).tmod 7 = -1 by decide]; omega
      · rw [hk', show ((-6 : Int) + 4).tmod 7 = -2 by decide]; omega
theorem tmod7b (n : Int) : -6 ≤ (n.tmod 7 + 4).tmod 7 ∧ (n.tmod 7 + 4).tmod 7 ≤ 6 := by
  have a := Int.lt_tmod_of_pos (n.tmod 7 + 4) (b := 7) (by omega)
  have b := Int.tmod_lt_of_pos (n.tmod 7 + 4) (b := 7) (by omega)
  omega

theorem ofs_eq {n y m d : Int} (h0 : 0 ≤ n) (h1 : n < 157054) (h : mayB y m d = true) (he : numI y m d = n) : ofY n = y ∧ ofM n = m ∧ ofD n = d := by
  obtain ⟨hm, hd⟩ := of_num n h0 h1
  rw [daysA_num hm] at hd
  exact num_inj hm h (by rw [hd, he])

/-- The next day is the next one of the month, the first one of the next month, or of the next year. -/
theorem of_next (n : Int) (h0 : 0 ≤ n) (h1 : n < 157053) : ∃ y m d : Int, ofY n = y ∧ ofM n = m ∧ ofD n = d ∧ mayB y m d = true ∧ numI y m d = n ∧
    (d + 1 ≤ longI y m ∧ ofY (n + 1) = y ∧ ofM (n + 1) = m ∧ ofD (n + 1) = d + 1 ∨
     d = longI y m ∧ m ≤ 11 ∧ ofY (n + 1) = y ∧ ofM (n + 1) = m + 1 ∧ ofD (n + 1) = 1 ∨
     d = longI y m ∧ m = 12 ∧ ofY (n + 1) = y + 1 ∧ ofM (n + 1) = 1 ∧ ofD (n + 1) = 1) := by
  obtain ⟨hm, hd⟩ := of_num n h0 (by omega)
  rw [daysA_num hm] at hd
  refine ⟨_, _, _, rfl, rfl, rfl, hm, hd, ?_⟩
  generalize ofY n = y at *
  generalize ofM n = m at *
  generalize ofD n = d at *
  obtain ⟨k1, k2, k3, k4, k5, k6, k7⟩ := mayB_bds hm
  by_cases c : d + 1 ≤ longI y m
  · exact .inl ⟨c, ofs_eq (by omega) (by omega) (mayB_iff.2 ⟨k1, k2, by omega, c⟩) (by unfold numI at *; omega)⟩
  · have e : d = longI y m := by omega
    by_cases c2 : m ≤ 11
    · have cs := cum_succ (y := y) (m := m) k3 k4
      refine .inr (.inl ⟨e, c2, ofs_eq (by omega) (by omega) (mayB_iff.2 ⟨k1, k2, by omega, ?_⟩) (by unfold numI at *; omega)⟩)
      unfold longI; (repeat' split) <;> omega
    · have e2 : m = 12 := by omega
      subst e2
      have cs := cum_succ (y := y) (m := 12) k3 k4
      rw [show (12 : Int) + 1 = 13 by rfl, cum_13] at cs
      have ds := dby_succ (y := y) (by omega)
      have hy : y + 1 ≤ 2399 := by
        have : y ≠ 2399 := by
          rintro rfl
          have := dby_2400
          rw [show (2399 : Int) + 1 = 2400 by rfl] at ds
          unfold numI at hd
          omega
        omega
      refine .inr (.inr ⟨e, rfl, ofs_eq (by omega) (by omega) (mayB_iff.2 ⟨by omega, hy, by omega, by unfold longI; simp⟩) ?_⟩)
      have c1 := cum_1 (y + 1)
      unfold numI at *
      omega
end Go.Proofs.YthigmjjafilbcaaDoor
