/- Texts of clocks, in plain terms: digits, and that texts are in order as clocks are. -/
import Derived.Test.YtldfppjeelfahaaDoorStM
import Derived.Lib.ItoaMem
import Derived.Lib.ItoaNum
import Derived.Sort.Walk0
import Derived.WideShapes
namespace Go.Proofs.YtldfppjeelfahaaDoor
set_option linter.unusedVariables false
/-- A digit. -/
def ch (n : Int) : UInt8 := UInt8.ofNat (48 + n.toNat)
/-- So many digits of a number. -/
def digL (n : Int) : Nat → List UInt8
  | 0 => []
  | k + 1 => digL (n / 10) k ++ [ch (n % 10)]
/-- A string of bytes. -/
def bts (l : List UInt8) : ByteArray := ⟨l.toArray⟩
theorem bts_data (l : List UInt8) : (bts l).data.toList = l := rfl
theorem bts_eq {a : ByteArray} {l : List UInt8} (h : a.data.toList = l) : a = bts l := WideShapes.bytes_inj h
theorem append_data (a b : ByteArray) : (a ++ b).data.toList = a.data.toList ++ b.data.toList := by simp
theorem bts_append (a b : List UInt8) : bts a ++ bts b = bts (a ++ b) := bts_eq (by rw [append_data]; rfl)
theorem bts_size (l : List UInt8) : (bts l).size = l.length := by simp [bts, ByteArray.size]
theorem digL_len (n : Int) (k : Nat) : (digL n k).length = k := by
  induction k generalizing n with
  | zero => rfl
  | succ k ih => simp [digL, ih]
theorem ch_of {a b : Nat} (h : a = b) : UInt8.ofNat (48 + a) = UInt8.ofNat (48 + b) := by rw [h]
theorem itoa_two (n : Int) (h0 : 0 ≤ n) (h1 : n < 100) : Lib.itoa (100 + n) = 49 :: digL n 2 := by
  obtain ⟨k, rfl⟩ : ∃ k : Nat, n = k := ⟨n.toNat, by omega⟩
  rw [show (100 : Int) + k = ((100 + k : Nat) : Int) by omega, Lib.itoa_nonneg, Lib.decDigits, dif_neg (by omega), Lib.decDigits_two (by omega) (by omega)]
  simp only [digL, ch, List.nil_append, List.cons_append]
  rw [show 48 + (100 + k) / 10 / 10 = 49 by omega, show (48 + (100 + k) / 10 % 10) = 48 + ((k : Int) / 10 % 10).toNat by omega, show (48 + (100 + k) % 10) = 48 + ((k : Int) % 10).toNat by omega]
  rfl
theorem itoa_four (n : Int) (h0 : 1000 ≤ n) (h1 : n < 10000) : Lib.itoa n = digL n 4 := by
  obtain ⟨k, rfl⟩ : ∃ k : Nat, n = k := ⟨n.toNat, by omega⟩
  rw [Lib.itoa_nonneg, Lib.decDigits, dif_neg (by omega), Lib.decDigits, dif_neg (by omega), Lib.decDigits_two (by omega) (by omega)]
  simp only [digL, ch, List.nil_append, List.cons_append, List.append_assoc]
  rw [show (48 + k / 10 / 10 / 10) = 48 + ((k : Int) / 10 / 10 / 10 % 10).toNat by omega, show (48 + k / 10 / 10 % 10) = 48 + ((k : Int) / 10 / 10 % 10).toNat by omega,
    show (48 + k / 10 % 10) = 48 + ((k : Int) / 10 % 10).toNat by omega, show (48 + k % 10) = 48 + ((k : Int) % 10).toNat by omega]
/-- A clock's text. -/
def txtL (y m d h mi s : Int) : List UInt8 := digL y 4 ++ (45 :: (digL m 2 ++ (45 :: (digL d 2 ++ (84 :: (digL h 2 ++ (58 :: (digL mi 2 ++ (58 :: digL s 2)))))))))
def textL (y m d h mi s wd : Int) : List UInt8 := if clkB y m d h mi s wd = true then txtL y m d h mi s else []
theorem txtL_len (y m d h mi s : Int) : (txtL y m d h mi s).length = 19 := by simp [txtL, digL_len]

/-- Two texts, one behind the other. -/
theorem bts_add (a b : List UInt8) (h : a.length + b.length ≤ 1000000) : Op.stringOp .add (bts a) (bts b) = pure (.string (bts (a ++ b))) := by
  unfold Op.stringOp
  rw [bts_size, bts_size, bts_append]
  simp only
  rw [if_neg]
  have : IntKind.i64.max = 9223372036854775807 := by decide
  rw [this]
  omega

/-- The text, step by step. -/
theorem txt_steps (y m d h mi s : Int) : ∃ a1 a2 a3 a4 a5 a6 a7 a8 a9 aa : List UInt8, Op.stringOp .add (bts (digL y 4)) (ByteArray.mk #[45]) = pure (.string (bts a1)) ∧ Op.stringOp .add (bts a1) (bts (digL m 2)) = pure (.string (bts a2)) ∧ Op.stringOp .add (bts a2) (ByteArray.mk #[45]) = pure (.string (bts a3)) ∧ Op.stringOp .add (bts a3) (bts (digL d 2)) = pure (.string (bts a4)) ∧ Op.stringOp .add (bts a4) (ByteArray.mk #[84]) = pure (.string (bts a5)) ∧ Op.stringOp .add (bts a5) (bts (digL h 2)) = pure (.string (bts a6)) ∧ Op.stringOp .add (bts a6) (ByteArray.mk #[58]) = pure (.string (bts a7)) ∧ Op.stringOp .add (bts a7) (bts (digL mi 2)) = pure (.string (bts a8)) ∧ Op.stringOp .add (bts a8) (ByteArray.mk #[58]) = pure (.string (bts a9)) ∧ Op.stringOp .add (bts a9) (bts (digL s 2)) = pure (.string (bts aa)) ∧ aa = txtL y m d h mi s := by
  refine ⟨(digL y 4 ++ [45]), ((digL y 4 ++ [45]) ++ digL m 2), (((digL y 4 ++ [45]) ++ digL m 2) ++ [45]), ((((digL y 4 ++ [45]) ++ digL m 2) ++ [45]) ++ digL d 2), (((((digL y 4 ++ [45]) ++ digL m 2) ++ [45]) ++ digL d 2) ++ [84]), ((((((digL y 4 ++ [45]) ++ digL m 2) ++ [45]) ++ digL d 2) ++ [84]) ++ digL h 2), (((((((digL y 4 ++ [45]) ++ digL m 2) ++ [45]) ++ digL d 2) ++ [84]) ++ digL h 2) ++ [58]), ((((((((digL y 4 ++ [45]) ++ digL m 2) ++ [45]) ++ digL d 2) ++ [84]) ++ digL h 2) ++ [58]) ++ digL mi 2), (((((((((digL y 4 ++ [45]) ++ digL m 2) ++ [45]) ++ digL d 2) ++ [84]) ++ digL h 2) ++ [58]) ++ digL mi 2) ++ [58]), ((((((((((digL y 4 ++ [45]) ++ digL m 2) ++ [45]) ++ digL d 2) ++ [84]) ++ digL h 2) ++ [58]) ++ digL mi 2) ++ [58]) ++ digL s 2), ?_, ?_, ?_, ?_, ?_, ?_, ?_, ?_, ?_, ?_, ?_⟩
  rotate_left 10
  · simp [txtL]
  all_goals exact bts_add _ _ (by simp [digL_len])

/-! ### Order -/
theorem ltL_same {a : List UInt8} (x y : List UInt8) : a ++ x < a ++ y ↔ x < y := by
  induction a with
  | nil => simp
  | cons c a ih => simp [List.cons_lt_cons_iff, ih]
theorem ltL_app {a b x y : List UInt8} (hl : a.length = b.length) (h : a < b) : a ++ x < b ++ y := by
  induction a generalizing b with
  | nil => cases b with
    | nil => exact absurd h (List.lt_irrefl _)
    | cons c b => simp at hl
  | cons c a ih => cases b with
    | nil => simp at hl
    | cons e b =>
      simp only [List.cons_append, List.cons_lt_cons_iff] at h ⊢
      rcases h with h | ⟨h1, h2⟩
      · exact .inl h
      · exact .inr ⟨h1, ih (by simpa using hl) h2⟩
theorem ch_lt {a b : Int} (h0 : 0 ≤ a) (h : a < b) (hb : b ≤ 9) : ch a < ch b := by
  unfold ch
  rw [UInt8.lt_iff_toNat_lt, UInt8.toNat_ofNat', UInt8.toNat_ofNat']
  omega
theorem digL_lt {k : Nat} : ∀ {a b : Int}, 0 ≤ a → a < b → b < 10 ^ k → digL a k < digL b k := by
  induction k with
  | zero => intro a b h0 h hb; simp at hb; omega
  | succ k ih =>
    intro a b h0 h hb
    rw [Int.pow_succ] at hb
    simp only [digL]
    by_cases he : a / 10 = b / 10
    · rw [he, ltL_same, List.cons_lt_cons_iff]
      exact .inl (ch_lt (by omega) (by omega) (by omega))
    · exact ltL_app (by rw [digL_len, digL_len]) (ih (by omega) (by omega) (by omega))
theorem ltL_cons {c : UInt8} {x y : List UInt8} (h : x < y) : c :: x < c :: y := List.cons_lt_cons_iff.2 (.inr ⟨rfl, h⟩)
theorem txt_lt {y m d h mi s y' m' d' h' mi' s' : Int} (b1 : 0 ≤ y) (b1' : y' < 10000) (b2 : 0 ≤ m) (b2' : m' < 100) (b3 : 0 ≤ d) (b3' : d' < 100) (b4 : 0 ≤ h) (b4' : h' < 100) (b5 : 0 ≤ mi) (b5' : mi' < 100) (b6 : 0 ≤ s) (b6' : s' < 100)
    (hlt : y < y' ∨ y = y' ∧ (m < m' ∨ m = m' ∧ (d < d' ∨ d = d' ∧ (h < h' ∨ h = h' ∧ (mi < mi' ∨ mi = mi' ∧ s < s'))))) : txtL y m d h mi s < txtL y' m' d' h' mi' s' := by
  unfold txtL
  rcases hlt with hlt | ⟨rfl, hlt⟩
  · exact ltL_app (by rw [digL_len, digL_len]) (digL_lt b1 hlt b1')
  rw [ltL_same]
  refine ltL_cons ?_
  rcases hlt with hlt | ⟨rfl, hlt⟩
  · exact ltL_app (by rw [digL_len, digL_len]) (digL_lt b2 hlt b2')
  rw [ltL_same]
  refine ltL_cons ?_
  rcases hlt with hlt | ⟨rfl, hlt⟩
  · exact ltL_app (by rw [digL_len, digL_len]) (digL_lt b3 hlt b3')
  rw [ltL_same]
  refine ltL_cons ?_
  rcases hlt with hlt | ⟨rfl, hlt⟩
  · exact ltL_app (by rw [digL_len, digL_len]) (digL_lt b4 hlt b4')
  rw [ltL_same]
  refine ltL_cons ?_
  rcases hlt with hlt | ⟨rfl, hlt⟩
  · exact ltL_app (by rw [digL_len, digL_len]) (digL_lt b5 hlt b5')
  rw [ltL_same]
  exact ltL_cons (digL_lt b6 hlt b6')
end Go.Proofs.YtldfppjeelfahaaDoor
