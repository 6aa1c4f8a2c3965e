/- Plain: the order of float64s and the numbers by which they are laid. No program in sight. -/
import Ieee.Arith
namespace Go.Proofs.Ythicjpkomigacaa
open Ieee

/-- The number as which a float64 is laid. -/
def keyU (x : Nat) : Nat := if (double.order x x != some .eq) = true then 0 else if 9223372036854775808 ≤ x then 18446744073709551615 - x else x + 9223372036854775808

/-- A rung's worth, in units of the least number. -/
def worth (r : Nat) : Nat := if r < 4503599627370496 then r else (4503599627370496 + r % 4503599627370496) * 2 ^ (r / 4503599627370496 - 1)

theorem worth_step {r : Nat} (h : 4503599627370496 ≤ r) : worth r = (4503599627370496 + r % 4503599627370496) * 2 ^ (r / 4503599627370496 - 1) := by
  unfold worth; rw [if_neg (by omega)]

theorem worth_lt {a b : Nat} (h : a < b) : worth a < worth b := by
  by_cases ha : a < 4503599627370496
  · by_cases hb : b < 4503599627370496
    · unfold worth; rw [if_pos ha, if_pos hb]; exact h
    · rw [worth_step (r := b) (by omega)]
      have h1 : worth a = a := by unfold worth; rw [if_pos ha]
      have h2 : 1 ≤ 2 ^ (b / 4503599627370496 - 1) := Nat.one_le_two_pow
      have h3 : 4503599627370496 * 1 ≤ (4503599627370496 + b % 4503599627370496) * 2 ^ (b / 4503599627370496 - 1) := Nat.mul_le_mul (by omega) h2
      rw [h1]; omega
  · rw [worth_step (r := a) (by omega), worth_step (r := b) (by omega)]
    by_cases he : a / 4503599627370496 = b / 4503599627370496
    · rw [he]
      exact Nat.mul_lt_mul_of_pos_right (by omega) (Nat.two_pow_pos _)
    · have hlt : a / 4503599627370496 < b / 4503599627370496 := by omega
      have h1 : (4503599627370496 + a % 4503599627370496) * 2 ^ (a / 4503599627370496 - 1) < 9007199254740992 * 2 ^ (a / 4503599627370496 - 1) := Nat.mul_lt_mul_of_pos_right (by omega) (Nat.two_pow_pos _)
      have h2 : 9007199254740992 * 2 ^ (a / 4503599627370496 - 1) = 4503599627370496 * 2 ^ (a / 4503599627370496 - 1 + 1) := by rw [Nat.pow_succ]; omega
      have h3 : 2 ^ (a / 4503599627370496 - 1 + 1) ≤ 2 ^ (b / 4503599627370496 - 1) := Nat.pow_le_pow_right (by omega) (by omega)
      have h4 : 4503599627370496 * 2 ^ (a / 4503599627370496 - 1 + 1) ≤ (4503599627370496 + b % 4503599627370496) * 2 ^ (b / 4503599627370496 - 1) := Nat.mul_le_mul (by omega) h3
      omega

theorem read_small {x : Nat} (hx : x < 18446744073709551616) (h : x % 9223372036854775808 < 4503599627370496) : double.read x = .number (decide (9223372036854775808 ≤ x)) (x % 9223372036854775808) (-1074) := by
  have hs : (x / 9223372036854775808 % 2 == 1) = decide (9223372036854775808 ≤ x) := by
    by_cases c : 9223372036854775808 ≤ x
    · rw [decide_eq_true c, beq_iff_eq]; omega
    · rw [decide_eq_false c, beq_eq_false_iff_ne]; omega
  show (if x % 9223372036854775808 < 4503599627370496 then _ else _) = _
  rw [if_pos h, ← hs]
  rfl
theorem read_normal {x : Nat} (hx : x < 18446744073709551616) (h : ¬ x % 9223372036854775808 < 4503599627370496) (h' : x % 9223372036854775808 < 9218868437227405312) :
    double.read x = .number (decide (9223372036854775808 ≤ x)) (4503599627370496 + x % 9223372036854775808 % 4503599627370496) (-1074 + (x % 9223372036854775808 / 4503599627370496 - 1 : Nat)) := by
  have hs : (x / 9223372036854775808 % 2 == 1) = decide (9223372036854775808 ≤ x) := by
    by_cases c : 9223372036854775808 ≤ x
    · rw [decide_eq_true c, beq_iff_eq]; omega
    · rw [decide_eq_false c, beq_eq_false_iff_ne]; omega
  show (if x % 9223372036854775808 < 4503599627370496 then _ else if x % 9223372036854775808 < 9218868437227405312 then _ else _) = _
  rw [if_neg h, if_pos h', ← hs]
  rfl
theorem read_inf {x : Nat} (hx : x < 18446744073709551616) (h' : x % 9223372036854775808 = 9218868437227405312) :
    double.read x = .infinity (decide (9223372036854775808 ≤ x)) := by
  have hs : (x / 9223372036854775808 % 2 == 1) = decide (9223372036854775808 ≤ x) := by
    by_cases c : 9223372036854775808 ≤ x
    · rw [decide_eq_true c, beq_iff_eq]; omega
    · rw [decide_eq_false c, beq_eq_false_iff_ne]; omega
  show (if x % 9223372036854775808 < 4503599627370496 then _ else if x % 9223372036854775808 < 9218868437227405312 then _ else if x % 9223372036854775808 = 9218868437227405312 then _ else _) = _
  rw [if_neg (by omega), if_neg (by omega), if_pos h', ← hs]
  rfl
theorem read_nan {x : Nat} (h' : 9218868437227405312 < x % 9223372036854775808) : double.read x = .nan (x / 9223372036854775808 % 2 == 1) (x % 9223372036854775808 - 9218868437227405312) := by
  show (if x % 9223372036854775808 < 4503599627370496 then _ else if x % 9223372036854775808 < 9218868437227405312 then _ else if x % 9223372036854775808 = 9218868437227405312 then _ else _) = _
  rw [if_neg (by omega), if_neg (by omega), if_neg (by omega)]
  rfl

/-- A number's worth with its sign. -/
def sworth (x : Nat) : Int := if 9223372036854775808 ≤ x then -(worth (x % 9223372036854775808) : Int) else worth (x % 9223372036854775808)

/-- A finite number: its magnitude and its place. -/
theorem read_finite {x : Nat} (hx : x < 18446744073709551616) (h : x % 9223372036854775808 < 9218868437227405312) : ∃ (m k : Nat), double.read x = .number (decide (9223372036854775808 ≤ x)) m (-1074 + (k : Int)) ∧ m * 2 ^ k = worth (x % 9223372036854775808) := by
  by_cases c : x % 9223372036854775808 < 4503599627370496
  · exact ⟨_, 0, by rw [read_small hx c]; rfl, by unfold worth; rw [if_pos c]; omega⟩
  · exact ⟨_, _, read_normal hx c h, by rw [worth_step (by omega)]⟩

theorem compare_int (a b : Int) : compare a b = if a < b then .lt else if a = b then .eq else .gt := by
  simp only [compare, compareOfLessAndEq]

theorem compare_nat (a b : Nat) : compare a b = if a < b then .lt else if a = b then .eq else .gt := by
  simp only [compare, compareOfLessAndEq]

theorem compare_mul (a b c : Int) (hc : 0 < c) : compare (a * c) (b * c) = compare a b := by
  rw [compare_int, compare_int]
  by_cases h1 : a < b
  · rw [if_pos h1, if_pos (Int.mul_lt_mul_of_pos_right h1 hc)]
  · by_cases h2 : a = b
    · subst h2; rw [if_neg (by omega), if_pos rfl, if_neg (by omega), if_pos rfl]
    · have h3 : b * c < a * c := Int.mul_lt_mul_of_pos_right (by omega) hc
      rw [if_neg h1, if_neg h2, if_neg (by omega), if_neg (by omega)]

/-- The number as which one is laid that is no NaN. -/
def keyU' (x : Nat) : Nat := if 9223372036854775808 ≤ x then 18446744073709551615 - x else x + 9223372036854775808

theorem order_finite {x y : Nat} (hx : x < 18446744073709551616) (hy : y < 18446744073709551616) (h : x % 9223372036854775808 < 9218868437227405312) (h' : y % 9223372036854775808 < 9218868437227405312) :
    double.order x y = some (compare (sworth x) (sworth y)) := by
  obtain ⟨m, k, e1, w1⟩ := read_finite hx h
  obtain ⟨n, l, e2, w2⟩ := read_finite hy h'
  unfold Format.order
  rw [e1, e2]
  simp only [Datum.order, Option.some.injEq]
  have b1 : min (-1074 + (k : Int)) (-1074 + (l : Int)) = -1074 + ((min k l : Nat) : Int) := by omega
  have b2 : (-1074 + (k : Int) - (-1074 + ((min k l : Nat) : Int))).toNat = k - min k l := by omega
  have b3 : (-1074 + (l : Int) - (-1074 + ((min k l : Nat) : Int))).toNat = l - min k l := by omega
  rw [b1, b2, b3]
  have sg : ∀ (x m k q : Nat), q ≤ k → m * 2 ^ k = worth (x % 9223372036854775808) → sworth x = signed (decide (9223372036854775808 ≤ x)) m (k - q) * ((2 ^ q : Nat) : Int) := fun x m k q hq hw => by
    have e : m <<< (k - q) * 2 ^ q = worth (x % 9223372036854775808) := by
      rw [Nat.shiftLeft_eq, Nat.mul_assoc, ← Nat.pow_add, show k - q + q = k by omega, hw]
    unfold sworth signed
    by_cases c : 9223372036854775808 ≤ x
    · rw [if_pos c, decide_eq_true c, if_pos rfl, ← e, Int.neg_mul, Int.natCast_mul]
    · rw [if_neg c, decide_eq_false c, if_neg (by simp), ← e, Int.natCast_mul]
  rw [sg x m k (min k l) (by omega) w1, sg y n l (min k l) (by omega) w2]
  exact (compare_mul _ _ _ (by exact_mod_cast Nat.two_pow_pos _)).symm

theorem worth_le {a b : Nat} (h : worth a < worth b) : a < b := by
  rcases Nat.lt_or_ge a b with h1 | h1
  · exact h1
  · rcases Nat.lt_or_ge b a with h2 | h2
    · have := worth_lt h2; omega
    · have : a = b := by omega
      subst this; omega

theorem order_nan_left {x : Nat} (y : Nat) (h : 9218868437227405312 < x % 9223372036854775808) : double.order x y = none := by
  unfold Format.order; rw [read_nan h]; rfl
theorem order_nan_right {x y : Nat} (h : 9218868437227405312 < y % 9223372036854775808) : double.order x y = none := by
  unfold Format.order; rw [read_nan h]; cases double.read x <;> rfl

theorem fin_of {x : Nat} (hx : x < 18446744073709551616) (h : ¬ 9218868437227405312 < x % 9223372036854775808) : double.read x = .infinity (decide (9223372036854775808 ≤ x)) ∧ x % 9223372036854775808 = 9218868437227405312 ∨ (∃ m k, double.read x = .number (decide (9223372036854775808 ≤ x)) m k) ∧ x % 9223372036854775808 < 9218868437227405312 := by
  by_cases c : x % 9223372036854775808 = 9218868437227405312
  · exact .inl ⟨read_inf hx c, c⟩
  · have c' : x % 9223372036854775808 < 9218868437227405312 := by omega
    obtain ⟨m, k, e, _⟩ := read_finite hx c'
    exact .inr ⟨⟨m, _, e⟩, c'⟩

theorem order_self {x : Nat} (hx : x < 18446744073709551616) (h : ¬ 9218868437227405312 < x % 9223372036854775808) : double.order x x = some .eq := by
  rcases fin_of hx h with ⟨e, _⟩ | ⟨_, c⟩
  · unfold Format.order; rw [e]; simp [Datum.order]
  · rw [order_finite hx hx c c, compare_int]; simp

theorem keyU_nan {x : Nat} (h : 9218868437227405312 < x % 9223372036854775808) : keyU x = 0 := by
  unfold keyU; rw [order_nan_left x h]; rfl
theorem keyU_num {x : Nat} (hx : x < 18446744073709551616) (h : ¬ 9218868437227405312 < x % 9223372036854775808) : keyU x = keyU' x := by
  unfold keyU keyU'; rw [order_self hx h]; rfl

theorem cmp_lt {a b : Int} (h : some (compare a b) = some Ordering.lt) : a < b := by
  rw [compare_int] at h
  by_cases c : a < b
  · exact c
  · rw [if_neg c] at h
    split at h <;> simp at h
theorem cmp_gt {a b : Int} (h : some (compare a b) = some Ordering.gt) : b < a := by
  rw [compare_int] at h
  by_cases c : a < b
  · rw [if_pos c] at h; simp at h
  · rw [if_neg c] at h
    by_cases c' : a = b
    · rw [if_pos c'] at h; simp at h
    · omega

theorem sworth_key {x y : Nat} (hx : x < 18446744073709551616) (hy : y < 18446744073709551616) (h : sworth x < sworth y) : keyU' x < keyU' y := by
  unfold sworth at h
  unfold keyU'
  by_cases c : 9223372036854775808 ≤ x
  · by_cases c' : 9223372036854775808 ≤ y
    · rw [if_pos c, if_pos c'] at h
      rw [if_pos c, if_pos c']
      have := worth_le (show worth (y % 9223372036854775808) < worth (x % 9223372036854775808) by omega)
      omega
    · rw [if_pos c, if_neg c']; omega
  · by_cases c' : 9223372036854775808 ≤ y
    · rw [if_neg c, if_pos c'] at h; omega
    · rw [if_neg c, if_neg c'] at h
      rw [if_neg c, if_neg c']
      have := worth_le (show worth (x % 9223372036854775808) < worth (y % 9223372036854775808) by omega)
      omega

theorem order_lt {x y : Nat} (hx : x < 18446744073709551616) (hy : y < 18446744073709551616) (h : double.order x y = some .lt) : keyU x < keyU y := by
  by_cases nx : 9218868437227405312 < x % 9223372036854775808
  · rw [order_nan_left y nx] at h; cases h
  · by_cases ny : 9218868437227405312 < y % 9223372036854775808
    · rw [order_nan_right ny] at h; cases h
    · rw [keyU_num hx nx, keyU_num hy ny]
      rcases fin_of hx nx with ⟨e1, c1⟩ | ⟨⟨m, k, e1⟩, c1⟩ <;> rcases fin_of hy ny with ⟨e2, c2⟩ | ⟨⟨n, l, e2⟩, c2⟩
      · unfold Format.order at h; rw [e1, e2] at h
        unfold keyU'
        by_cases c : 9223372036854775808 ≤ x <;> by_cases c' : 9223372036854775808 ≤ y <;> simp [Datum.order, c, c', compare_nat] at h ⊢
        omega
      · unfold Format.order at h; rw [e1, e2] at h
        unfold keyU'
        by_cases c : 9223372036854775808 ≤ x
        · by_cases c' : 9223372036854775808 ≤ y
          · rw [if_pos c, if_pos c']; omega
          · rw [if_pos c, if_neg c']; omega
        · simp [Datum.order, c] at h
      · unfold Format.order at h; rw [e1, e2] at h
        unfold keyU'
        by_cases c' : 9223372036854775808 ≤ y
        · simp [Datum.order, c'] at h
        · by_cases c : 9223372036854775808 ≤ x
          · rw [if_pos c, if_neg c']; omega
          · rw [if_neg c, if_neg c']; omega
      · rw [order_finite hx hy c1 c2] at h
        exact sworth_key hx hy (cmp_lt h)

theorem order_gt {x y : Nat} (hx : x < 18446744073709551616) (hy : y < 18446744073709551616) (h : double.order x y = some .gt) : keyU y < keyU x := by
  by_cases nx : 9218868437227405312 < x % 9223372036854775808
  · rw [order_nan_left y nx] at h; cases h
  · by_cases ny : 9218868437227405312 < y % 9223372036854775808
    · rw [order_nan_right ny] at h; cases h
    · rw [keyU_num hx nx, keyU_num hy ny]
      rcases fin_of hx nx with ⟨e1, c1⟩ | ⟨⟨m, k, e1⟩, c1⟩ <;> rcases fin_of hy ny with ⟨e2, c2⟩ | ⟨⟨n, l, e2⟩, c2⟩
      · unfold Format.order at h; rw [e1, e2] at h
        unfold keyU'
        by_cases c : 9223372036854775808 ≤ x <;> by_cases c' : 9223372036854775808 ≤ y <;> simp [Datum.order, c, c', compare_nat] at h ⊢
        omega
      · unfold Format.order at h; rw [e1, e2] at h
        unfold keyU'
        by_cases c : 9223372036854775808 ≤ x
        · simp [Datum.order, c] at h
        · by_cases c' : 9223372036854775808 ≤ y
          · rw [if_neg c, if_pos c']; omega
          · rw [if_neg c, if_neg c']; omega
      · unfold Format.order at h; rw [e1, e2] at h
        unfold keyU'
        by_cases c' : 9223372036854775808 ≤ y
        · by_cases c : 9223372036854775808 ≤ x
          · rw [if_pos c, if_pos c']; omega
          · rw [if_neg c, if_pos c']; omega
        · simp [Datum.order, c'] at h
      · rw [order_finite hx hy c1 c2] at h
        exact sworth_key hy hx (cmp_gt h)

theorem keyU_lt {x : Nat} (hx : x < 18446744073709551616) : keyU x < 18446744073709551616 := by
  unfold keyU
  split
  · omega
  · split <;> omega

/-- What real.Compare says. -/
def cmpF (x y : Nat) : Int := if keyU x < keyU y then -1 else if keyU y < keyU x then 1 else 0

end Go.Proofs.Ythicjpkomigacaa
