/- Plain words: comparing ints and lists of ints. No program in sight. -/
import Derived.Lib.Hide
namespace Go.Proofs.Ythicjpkomigacaa

theorem getD_lt {α : Type} (xs : List α) (d : α) {k : Nat} (h : k < xs.length) : xs.getD k d = xs[k] := by simp [List.getD, h]

def cmpI (x y : Int) : Int := if x < y then -1 else if y < x then 1 else 0

def cmpL : List Int → List Int → Int
  | [], [] => 0
  | [], _ :: _ => -1
  | _ :: _, [] => 1
  | x :: xs, y :: ys => if x < y then -1 else if y < x then 1 else cmpL xs ys

def orL : List Int → Int
  | [] => 0
  | x :: xs => if x = 0 then orL xs else x

theorem cmpL_refl (xs : List Int) : cmpL xs xs = 0 := by
  induction xs with
  | nil => rfl
  | cons x xs ih => simp [cmpL, ih]

theorem cmpL_anti (xs ys : List Int) : cmpL ys xs = - cmpL xs ys := by
  induction xs generalizing ys with
  | nil => cases ys <;> simp [cmpL]
  | cons x xs ih => cases ys with
    | nil => simp [cmpL]
    | cons y ys =>
      simp only [cmpL]
      by_cases h1 : x < y
      · rw [if_neg (by omega), if_pos h1, if_pos h1]; rfl
      · by_cases h2 : y < x
        · rw [if_pos h2, if_neg h1, if_pos h2]
        · rw [if_neg h2, if_neg h1, if_neg h1, if_neg h2, ih]

theorem cmpL_eq {xs ys : List Int} (h : cmpL xs ys = 0) : xs = ys := by
  induction xs generalizing ys with
  | nil => cases ys <;> simp [cmpL] at h ⊢
  | cons x xs ih => cases ys with
    | nil => simp [cmpL] at h
    | cons y ys =>
      simp only [cmpL] at h
      by_cases h1 : x < y
      · simp [h1] at h
      · by_cases h2 : y < x
        · simp [h1, h2] at h
        · rw [if_neg h1, if_neg h2] at h
          rw [ih h, show x = y by omega]

theorem cmpL_lt_trans {xs ys zs : List Int} (h1 : cmpL xs ys < 0) (h2 : cmpL ys zs < 0) : cmpL xs zs < 0 := by
  induction xs generalizing ys zs with
  | nil => cases ys with
    | nil => simp [cmpL] at h1
    | cons y ys => cases zs with
      | nil => simp [cmpL] at h2
      | cons z zs => simp [cmpL]
  | cons x xs ih => cases ys with
    | nil => simp [cmpL] at h1
    | cons y ys => cases zs with
      | nil => simp [cmpL] at h2
      | cons z zs =>
        simp only [cmpL] at h1 h2 ⊢
        by_cases a1 : x < y
        · by_cases b1 : y < z
          · rw [if_pos (by omega)]; omega
          · by_cases b2 : z < y
            · rw [if_neg b1, if_pos b2] at h2; omega
            · rw [if_pos (by omega)]; omega
        · by_cases a2 : y < x
          · rw [if_neg a1, if_pos a2] at h1; omega
          · rw [if_neg a1, if_neg a2] at h1
            by_cases b1 : y < z
            · rw [if_pos (by omega)]; omega
            · by_cases b2 : z < y
              · rw [if_neg b1, if_pos b2] at h2; omega
              · rw [if_neg b1, if_neg b2] at h2
                rw [if_neg (by omega), if_neg (by omega)]
                exact ih h1 h2

theorem cmpL_range (xs ys : List Int) : cmpL xs ys = -1 ∨ cmpL xs ys = 0 ∨ cmpL xs ys = 1 := by
  induction xs generalizing ys with
  | nil => cases ys <;> simp [cmpL]
  | cons x xs ih => cases ys with
    | nil => simp [cmpL]
    | cons y ys =>
      simp only [cmpL]
      split
      · simp
      · split
        · simp
        · exact ih ys

/-- The prefix that is alike up to k decides nothing. -/
theorem cmpL_drop {xs ys : List Int} (k : Nat) (hx : k ≤ xs.length) (hy : k ≤ ys.length) (h : ∀ i, i < k → xs.getD i 0 = ys.getD i 0) : cmpL xs ys = cmpL (xs.drop k) (ys.drop k) := by
  induction k generalizing xs ys with
  | zero => rfl
  | succ k ih =>
    cases xs with
    | nil => simp at hx
    | cons x xs => cases ys with
      | nil => simp at hy
      | cons y ys =>
        have h0 : x = y := by simpa using h 0 (by omega)
        subst h0
        simp only [cmpL, List.drop_succ_cons]
        rw [if_neg (by omega), if_neg (by omega)]
        exact ih (by simpa using hx) (by simpa using hy) fun i hi => by simpa using h (i + 1) (by omega)

theorem cmpL_at {xs ys : List Int} (k : Nat) (hx : k < xs.length) (hy : k < ys.length) (h : ∀ i, i < k → xs.getD i 0 = ys.getD i 0) (hc : cmpI (xs.getD k 0) (ys.getD k 0) ≠ 0) : cmpL xs ys = cmpI (xs.getD k 0) (ys.getD k 0) := by
  rw [cmpL_drop k (by omega) (by omega) h, List.drop_eq_getElem_cons hx, List.drop_eq_getElem_cons hy]
  rw [getD_lt _ _ hx, getD_lt _ _ hy] at hc ⊢
  unfold cmpI at hc ⊢
  simp only [cmpL]
  by_cases h1 : xs[k] < ys[k]
  · rw [if_pos h1, if_pos h1]
  · by_cases h2 : ys[k] < xs[k]
    · rw [if_neg h1, if_pos h2, if_neg h1, if_pos h2]
    · simp [h1, h2] at hc

theorem cmpL_short {xs ys : List Int} (hl : ys.length < xs.length) (h : ∀ i, i < ys.length → xs.getD i 0 = ys.getD i 0) : cmpL xs ys = 1 := by
  rw [cmpL_drop ys.length (by omega) (Nat.le_refl _) h, List.drop_eq_getElem_cons hl, List.drop_eq_nil_of_le (Nat.le_refl _)]
  rfl

theorem cmpL_end {xs ys : List Int} (hl : xs.length ≤ ys.length) (h : ∀ i, i < xs.length → xs.getD i 0 = ys.getD i 0) : cmpL xs ys = if xs.length < ys.length then -1 else 0 := by
  rw [cmpL_drop xs.length (Nat.le_refl _) hl h, List.drop_eq_nil_of_le (Nat.le_refl xs.length)]
  by_cases h2 : xs.length < ys.length
  · rw [List.drop_eq_getElem_cons h2, if_pos h2]; rfl
  · rw [List.drop_eq_nil_of_le (by omega), if_neg h2]; rfl

theorem cmpI_zero {x y : Int} (h : cmpI x y = 0) : x = y := by
  unfold cmpI at h
  split at h
  · omega
  · split at h <;> omega

theorem orL_at {xs : List Int} (k : Nat) (hk : k < xs.length) (h : ∀ i, i < k → xs.getD i 0 = 0) (hx : xs.getD k 0 ≠ 0) : orL xs = xs.getD k 0 := by
  induction xs generalizing k with
  | nil => simp at hk
  | cons x xs ih => cases k with
    | zero => simp at hx; simp [orL, hx]
    | succ k =>
      have h0 : x = 0 := by simpa using h 0 (by omega)
      simp only [orL, h0, if_true]
      simpa using ih k (by simpa using hk) (fun i hi => by simpa using h (i + 1) (by omega)) (by simpa using hx)

theorem orL_none {xs : List Int} (h : ∀ i, i < xs.length → xs.getD i 0 = 0) : orL xs = 0 := by
  induction xs with
  | nil => rfl
  | cons x xs ih =>
    have h0 : x = 0 := by simpa using h 0 (by simp)
    simp only [orL, h0, if_true]
    exact ih fun i hi => by simpa using h (i + 1) (by simpa using hi)

end Go.Proofs.Ythicjpkomigacaa
