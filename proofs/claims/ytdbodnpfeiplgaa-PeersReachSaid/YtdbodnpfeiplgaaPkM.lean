/- The plain law of packed numbers (layer 1): seven bits a byte, the lowest first. No program in sight. -/
namespace Go.Proofs.Ytdbodnpfeiplgaa
set_option linter.unusedVariables false
/-- A number's bytes. -/
def putN (n : Nat) : List Int := if h : n < 128 then [(n : Int)] else ((n % 128 + 128 : Nat) : Int) :: putN (n / 128)
termination_by n
decreasing_by omega
theorem putN_small {n : Nat} (h : n < 128) : putN n = [(n : Int)] := by rw [putN, dif_pos h]
theorem putN_big {n : Nat} (h : ¬ n < 128) : putN n = ((n % 128 + 128 : Nat) : Int) :: putN (n / 128) := by rw [putN, dif_neg h]
theorem putN_len : ∀ (k n : Nat), n < 128 ^ (k + 1) → 1 ≤ (putN n).length ∧ (putN n).length ≤ k + 1
  | 0, n, h => by rw [putN_small (by simpa using h)]; simp
  | k + 1, n, h => by
    by_cases hn : n < 128
    · rw [putN_small hn]; simp
    · rw [putN_big hn]
      have := putN_len k (n / 128) (by rw [Nat.pow_succ] at h; omega)
      simp; omega
theorem putN_bytes (n : Nat) : ∀ x ∈ putN n, 0 ≤ x ∧ x < 256 := by
  induction n using putN.induct with
  | case1 n h => rw [putN_small h]; intro x hx; rw [List.mem_singleton] at hx; omega
  | case2 n h ih =>
    rw [putN_big h]
    intro x hx
    rcases List.mem_cons.1 hx with rfl | hx
    · omega
    · exact ih x hx

/-- Taking a number: at place i, with what has been gathered: the number, and how many bytes it has. -/
def tk : Nat → Nat → List Int → Option (Nat × Nat)
  | _, _, [] => none
  | i, acc, x :: xs => if (i = 9 ∧ 1 < x) ∨ (0 < i ∧ x = 0) then none else if x < 128 then some (acc + x.toNat * 128 ^ i, i + 1) else tk (i + 1) (acc + x.toNat % 128 * 128 ^ i) xs
theorem pow_step {i : Nat} (h : i ≤ 8) : 2 ^ (64 - 7 * i) = 2 ^ (64 - 7 * (i + 1)) * 128 := by
  rw [show 64 - 7 * i = 64 - 7 * (i + 1) + 7 by omega, Nat.pow_add]
theorem mul_parts128 (n p : Nat) : n * p = n % 128 * p + n / 128 * (p * 128) := by
  have h : n = n % 128 + 128 * (n / 128) := by omega
  conv => lhs; rw [h]
  rw [Nat.add_mul, Nat.mul_comm 128 (n / 128), Nat.mul_assoc, Nat.mul_comm 128 p]
theorem tk_put (n : Nat) : ∀ (i acc : Nat) (rest : List Int), (0 < i → n ≠ 0) → i ≤ 9 → n < 2 ^ (64 - 7 * i) → tk i acc (putN n ++ rest) = some (acc + n * 128 ^ i, i + (putN n).length) := by
  induction n using putN.induct with
  | case1 n h =>
    intro i acc rest h0 hi hb
    rw [putN_small h, List.cons_append, List.nil_append, tk, if_neg, if_pos (by omega)]
    · simp
    · rintro (⟨rfl, h1⟩ | ⟨h1, h2⟩)
      · have : (2 : Nat) ^ (64 - 7 * 9) = 2 := by decide
        omega
      · exact h0 h1 (by omega)
  | case2 n h ih =>
    intro i acc rest h0 hi hb
    have hi8 : i ≤ 8 := by
      rcases Nat.lt_or_ge i 9 with h | h
      · omega
      · have e : i = 9 := by omega
        subst e
        have : (2 : Nat) ^ (64 - 7 * 9) = 2 := by decide
        omega
    rw [pow_step hi8] at hb
    rw [putN_big h, List.cons_append, tk, if_neg (by omega), if_neg (by omega), ih (i + 1) _ rest (fun _ => by omega) (by omega) (by omega)]
    have e1 : (((n % 128 + 128 : Nat) : Int)).toNat % 128 = n % 128 := by omega
    rw [e1, Nat.add_assoc, Nat.pow_succ, ← mul_parts128 n (128 ^ i)]
    simp
    omega
theorem tk_some : ∀ (l : List Int) (i acc n m : Nat), (∀ x ∈ l, 0 ≤ x ∧ x < 256) → tk i acc l = some (n, m) →
    ∃ v j, m = i + j ∧ j ≤ l.length ∧ n = acc + v * 128 ^ i ∧ l.take j = putN v ∧ (0 < i → v ≠ 0) ∧ (i ≤ 9 → v < 2 ^ (64 - 7 * i)) := by
  intro l
  induction l with
  | nil => intro i acc n m _ h; simp [tk] at h
  | cons x xs ih =>
    intro i acc n m hx h
    have hx0 := hx x (by simp)
    rw [tk] at h
    by_cases hbad : (i = 9 ∧ 1 < x) ∨ (0 < i ∧ x = 0)
    · rw [if_pos hbad] at h; cases h
    rw [if_neg hbad] at h
    by_cases h128 : x < 128
    · rw [if_pos h128] at h
      injection h with h
      injection h with h1 h2
      refine ⟨x.toNat, 1, h2.symm, by simp, h1.symm, ?_, fun hi => ?_, fun hi => ?_⟩
      · rw [putN_small (by omega)]
        simp
        omega
      · intro e
        exact hbad (.inr ⟨hi, by omega⟩)
      · rcases Nat.lt_or_ge i 9 with h9 | h9
        · have : 2 ^ (64 - 7 * i) ≥ 128 := by
            rw [pow_step (by omega)]
            have := Nat.one_le_two_pow (n := 64 - 7 * (i + 1))
            omega
          omega
        · have e : i = 9 := by omega
          subst e
          have : (2 : Nat) ^ (64 - 7 * 9) = 2 := by decide
          have : ¬ 1 < x := fun h => hbad (.inl ⟨rfl, h⟩)
          omega
    · rw [if_neg h128] at h
      obtain ⟨v, j, e1, e2, e3, e4, e5, e6⟩ := ih (i + 1) _ n m (fun y hy => hx y (by simp [hy])) h
      have hv := e5 (by omega)
      refine ⟨x.toNat % 128 + 128 * v, j + 1, by omega, by simp; omega, ?_, ?_, fun _ => by omega, fun hi => ?_⟩
      · rw [e3, mul_parts128 (x.toNat % 128 + 128 * v) (128 ^ i), Nat.pow_succ, show (x.toNat % 128 + 128 * v) % 128 = x.toNat % 128 by omega, show (x.toNat % 128 + 128 * v) / 128 = v by omega, Nat.add_assoc]
      · rw [putN_big (by omega), show (x.toNat % 128 + 128 * v) / 128 = v by omega, ← e4, List.take_succ_cons, show (((x.toNat % 128 + 128 * v) % 128 + 128 : Nat) : Int) = x by omega]
      · have hi8 : i ≤ 8 := by
          rcases Nat.lt_or_ge i 9 with h | h
          · omega
          · exact absurd (.inl ⟨by omega, by omega⟩) hbad
        rw [pow_step hi8]
        have := e6 (by omega)
        omega
/-- What bytes come to. -/
def valL : List Int → Nat
  | [] => 0
  | x :: xs => x.toNat % 128 + 128 * valL xs
theorem valL_put (n : Nat) : valL (putN n) = n := by
  induction n using putN.induct with
  | case1 n h => rw [putN_small h]; simp [valL]; omega
  | case2 n h ih => rw [putN_big h, valL, ih]; omega
theorem valL_snoc (l : List Int) (x : Int) : valL (l ++ [x]) = valL l + x.toNat % 128 * 128 ^ l.length := by
  induction l with
  | nil => simp [valL]
  | cons y ys ih =>
    rw [List.cons_append, valL, valL, ih, List.length_cons, Nat.pow_succ, Nat.mul_add, ← Nat.add_assoc]
    congr 1
    rw [Nat.mul_comm 128, Nat.mul_assoc]
/-- A number's bytes: all but the last are 128 or more, the last is not. -/
theorem putN_last (n : Nat) : ∀ j, j < (putN n).length → (j + 1 < (putN n).length → 128 ≤ (putN n).getD j 0) ∧ (j + 1 = (putN n).length → (putN n).getD j 0 < 128) := by
  induction n using putN.induct with
  | case1 n h =>
    rw [putN_small h]
    intro j hj
    simp at hj
    subst hj
    simp
    omega
  | case2 n h ih =>
    rw [putN_big h]
    intro j hj
    have h1 : 1 ≤ (putN (n / 128)).length := by
      by_cases hn : n / 128 < 128
      · rw [putN_small hn]; simp
      · rw [putN_big hn]; simp
    cases j with
    | zero => simp; refine ⟨fun _ => by omega, fun e => by rw [e] at h1; simp at h1⟩
    | succ j =>
      have := ih j (by simpa using hj)
      simpa using this

theorem getD_take {l : List Int} {j i : Nat} (h : i < j) : (l.take j).getD i 0 = l.getD i 0 := by
  rw [List.getD_eq_getElem?_getD, List.getD_eq_getElem?_getD, List.getElem?_take_of_lt h]
theorem tk_found {L : List Int} {n m : Nat} (hb : ∀ x ∈ L, 0 ≤ x ∧ x < 256) (h : tk 0 0 L = some (n, m)) :
    m ≤ L.length ∧ L.take m = putN n ∧ n < 18446744073709551616 ∧ 1 ≤ m ∧ m ≤ 10 ∧ (∀ j, j + 1 < m → 128 ≤ L.getD j 0) ∧ L.getD (m - 1) 0 < 128 := by
  obtain ⟨v, j, e1, e2, e3, e4, -, e6⟩ := tk_some L 0 0 n m hb h
  have hv := e6 (by omega)
  have e1' : m = j := by omega
  have e3' : n = v := by simpa using e3
  subst e1' e3'
  have hl := putN_len 9 n (by omega)
  have hlen : (putN n).length = m := by rw [← e4, List.length_take]; omega
  rw [hlen] at hl
  refine ⟨e2, e4, hv, hl.1, hl.2, fun i hi => ?_, ?_⟩
  · have := (putN_last n i (by omega)).1 (by omega)
    rwa [← e4, getD_take (by omega)] at this
  · have := (putN_last n (m - 1) (by omega)).2 (by omega)
    rwa [← e4, getD_take (by omega)] at this
theorem tk_stop {L : List Int} {k n : Nat} (hb : ∀ x ∈ L, 0 ≤ x ∧ x < 256) (hk : k < L.length) (hge : ∀ j, j < k → 128 ≤ L.getD j 0) (hx : L.getD k 0 < 128) (hn : n = valL (L.take (k + 1)) % 18446744073709551616) :
    (putN n = L.take (k + 1) → tk 0 0 L = some (n, k + 1)) ∧ (putN n ≠ L.take (k + 1) → tk 0 0 L = none) := by
  have hn2 : n < 18446744073709551616 := by omega
  refine ⟨fun h => ?_, fun h => ?_⟩
  · have := tk_put n 0 0 (L.drop (k + 1)) (by omega) (by omega) hn2
    rw [h, List.take_append_drop] at this
    rw [this, List.length_take]
    congr 2
    · simp
    · omega
  · cases ht : tk 0 0 L with
    | none => rfl
    | some r =>
      obtain ⟨n', m⟩ := r
      obtain ⟨h1, h2, h3, h4, h5, h6, h7⟩ := tk_found hb ht
      have hm : m = k + 1 := by
        rcases Nat.lt_trichotomy m (k + 1) with hlt | he | hgt
        · have := hge (m - 1) (by omega)
          omega
        · exact he
        · have := h6 k (by omega)
          omega
      subst hm
      exfalso
      apply h
      have hv : valL (L.take (k + 1)) = n' := by rw [h2, valL_put]
      have : n = n' := by omega
      rw [this, h2]
theorem tk_nostop {L : List Int} (hb : ∀ x ∈ L, 0 ≤ x ∧ x < 256) (hge : ∀ j, j < L.length → j < 10 → 128 ≤ L.getD j 0) : tk 0 0 L = none := by
  cases ht : tk 0 0 L with
  | none => rfl
  | some r =>
    obtain ⟨n, m⟩ := r
    obtain ⟨h1, h2, h3, h4, h5, h6, h7⟩ := tk_found hb ht
    have := hge (m - 1) (by omega) (by omega)
    omega
end Go.Proofs.Ytdbodnpfeiplgaa
