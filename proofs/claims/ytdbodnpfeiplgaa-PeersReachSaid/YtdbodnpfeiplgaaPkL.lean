/- Plain law of parsing a row. -/
import Derived.Test.YtdbodnpfeiplgaaPkD
namespace Go.Proofs.Ytdbodnpfeiplgaa
set_option linter.unusedVariables false
/-- n numbers read one behind the other, ahead of them o. -/
def tkA : Nat → List Int → Nat → List Int → Option (List Int × Nat)
  | 0, o, p, _ => some (o, p)
  | n + 1, o, p, b => match tk 0 0 (b.drop p) with | none => none | some (v, m) => tkA n (o ++ [(v : Int)]) (p + m) b
/-- Every number fits in 64 bits. -/
def fit (l : List Int) : Prop := ∀ x ∈ l, 0 ≤ x ∧ x < 18446744073709551616
theorem tkA_put : ∀ (l o : List Int) (p : Nat) (b rest : List Int), fit l → b.drop p = catN l ++ rest → tkA l.length o p b = some (o ++ l, p + (catN l).length)
  | [], o, p, b, rest, _, _ => by simp [tkA, catN]
  | x :: t, o, p, b, rest, hf, h => by
    rw [List.length_cons, tkA]
    have hx := hf x (by simp)
    have e : b.drop p = putN x.toNat ++ (catN t ++ rest) := by rw [h, catN, List.append_assoc]
    have := tk_put x.toNat 0 0 (catN t ++ rest) (by omega) (by omega) (by omega)
    rw [e, this]
    simp only [Nat.pow_zero, Nat.mul_one, Nat.zero_add]
    have e2 : b.drop (p + (putN x.toNat).length) = catN t ++ rest := by
      rw [← List.drop_drop, e, List.drop_left']
      rfl
    rw [tkA_put t (o ++ [((x.toNat : Nat) : Int)]) (p + (putN x.toNat).length) b rest (fun z hz => hf z (by simp [hz])) e2]
    have e3 : ((x.toNat : Nat) : Int) = x := by omega
    rw [e3, catN, List.length_append, List.append_assoc, Nat.add_assoc]
    rfl
theorem tkA_found : ∀ (n : Nat) (o : List Int) (p : Nat) (b o' : List Int) (q : Nat), (∀ x ∈ b, 0 ≤ x ∧ x < 256) → p ≤ b.length → tkA n o p b = some (o', q) →
    ∃ l, o' = o ++ l ∧ l.length = n ∧ fit l ∧ (b.drop p).take (catN l).length = catN l ∧ q = p + (catN l).length ∧ q ≤ b.length
  | 0, o, p, b, o', q, hb, hp, h => by
    rw [tkA, Option.some.injEq, Prod.mk.injEq] at h
    obtain ⟨rfl, rfl⟩ := h
    exact ⟨[], by simp, rfl, fun x hx => by simp at hx, by simp [catN], by simp [catN], hp⟩
  | n + 1, o, p, b, o', q, hb, hp, h => by
    rw [tkA] at h
    cases ht : tk 0 0 (b.drop p) with
    | none => rw [ht] at h; cases h
    | some r =>
      obtain ⟨v, m⟩ := r
      rw [ht] at h
      simp only at h
      obtain ⟨h1, h2, h3, h4, -⟩ := tk_found (fun x hx => hb x (List.mem_of_mem_drop hx)) ht
      rw [List.length_drop] at h1
      obtain ⟨l, e1, e2, e3, e4, e5, e6⟩ := tkA_found n _ (p + m) b o' q hb (by omega) h
      have hm : (putN v).length = m := by rw [← h2, List.length_take, List.length_drop]; omega
      have ec : catN ((v : Int) :: l) = putN v ++ catN l := by rw [catN, Int.toNat_natCast]
      refine ⟨(v : Int) :: l, by rw [e1]; simp, by simp [e2], ?_, ?_, ?_, e6⟩
      · intro x hx
        rcases List.mem_cons.1 hx with rfl | hx
        · omega
        · exact e3 x hx
      · rw [ec, List.length_append, hm, List.take_add, h2, List.drop_drop, e4]
      · rw [ec, List.length_append, hm, e5]; omega
/-- Parsing, as the program does. -/
def prsP (b : List Int) : Option (List Int) := match tk 0 0 b with
  | none => none
  | some (n, m) => if 7 < n then none else match tkA n [] m b with
    | none => none
    | some (l, q) => if q = b.length ∧ mayP l = true then some l else none
/-- Parsing, as the reference does. -/
def prsR (b : List Int) : Option (List Int) := match b with
  | [] => none
  | x :: _ => if 7 < x then none else match tkA x.toNat [] 1 b with
    | none => none
    | some (l, _) => if mayP l = true ∧ putL l = b then some l else none
theorem prsP_iff {b l : List Int} (hb : ∀ x ∈ b, 0 ≤ x ∧ x < 256) : prsP b = some l ↔ mayP l = true ∧ fit l ∧ putL l = b := by
  constructor
  · intro h
    unfold prsP at h
    cases ht : tk 0 0 b with
    | none => rw [ht] at h; cases h
    | some r =>
      obtain ⟨n, m⟩ := r
      rw [ht] at h
      simp only at h
      obtain ⟨h1, h2, h3, h4, -⟩ := tk_found hb ht
      by_cases h7 : 7 < n
      · rw [if_pos h7] at h; cases h
      · rw [if_neg h7] at h
        cases hA : tkA n [] m b with
        | none => rw [hA] at h; cases h
        | some r =>
          obtain ⟨l', q⟩ := r
          rw [hA] at h
          simp only at h
          by_cases hq : q = b.length ∧ mayP l' = true
          · rw [if_pos hq, Option.some.injEq] at h
            subst h
            obtain ⟨l2, e1, e2, e3, e4, e5, e6⟩ := tkA_found n [] m b l' q hb h1 hA
            rw [List.nil_append] at e1
            subst e1
            refine ⟨hq.2, e3, ?_⟩
            have : b.drop m = catN l' := by
              rw [← e4, List.take_of_length_le]
              rw [List.length_drop]; omega
            rw [putL, e2, ← h2, ← this, List.take_append_drop]
          · rw [if_neg hq] at h; cases h
  · rintro ⟨h1, h2, h3⟩
    have h7 := (mayP_iff.1 h1).2
    have := tk_put l.length 0 0 (catN l) (by omega) (by omega) (by omega)
    unfold prsP
    rw [← h3, putL, this]
    simp only [Nat.pow_zero, Nat.mul_one, Nat.zero_add]
    rw [if_neg (by omega), tkA_put l [] (putN l.length).length (putN l.length ++ catN l) [] h2 (by rw [List.drop_left', List.append_nil]; rfl)]
    simp only
    rw [if_pos ⟨by rw [List.length_append], h1⟩, List.nil_append]
theorem prsR_iff {b l : List Int} (hb : ∀ x ∈ b, 0 ≤ x ∧ x < 256) : prsR b = some l ↔ mayP l = true ∧ fit l ∧ putL l = b := by
  constructor
  · intro h
    unfold prsR at h
    cases b with
    | nil => cases h
    | cons x t =>
      simp only at h
      by_cases h7 : 7 < x
      · rw [if_pos h7] at h; cases h
      · rw [if_neg h7] at h
        cases hA : tkA x.toNat [] 1 (x :: t) with
        | none => rw [hA] at h; cases h
        | some r =>
          obtain ⟨l', q⟩ := r
          rw [hA] at h
          simp only at h
          by_cases hq : mayP l' = true ∧ putL l' = x :: t
          · rw [if_pos hq, Option.some.injEq] at h
            subst h
            obtain ⟨l2, e1, e2, e3, -⟩ := tkA_found x.toNat [] 1 (x :: t) l' q hb (by simp) hA
            rw [List.nil_append] at e1
            subst e1
            exact ⟨hq.1, e3, hq.2⟩
          · rw [if_neg hq] at h; cases h
  · rintro ⟨h1, h2, h3⟩
    have h7 := (mayP_iff.1 h1).2
    have e : putL l = (l.length : Int) :: catN l := by rw [putL, putN_small (by omega)]; rfl
    unfold prsR
    rw [← h3, e]
    simp only
    rw [if_neg (by omega), Int.toNat_natCast, tkA_put l [] 1 ((l.length : Int) :: catN l) [] h2 (by simp)]
    simp only
    rw [List.nil_append, if_pos ⟨h1, e⟩]
theorem prs_same {b : List Int} (hb : ∀ x ∈ b, 0 ≤ x ∧ x < 256) : prsR b = prsP b := by
  apply Option.ext
  intro l
  rw [prsR_iff hb, prsP_iff hb]
end Go.Proofs.Ytdbodnpfeiplgaa
