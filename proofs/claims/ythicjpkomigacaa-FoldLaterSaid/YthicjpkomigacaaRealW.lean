/- bedrock/real: Same, Max, Min. -/
import Derived.Test.YthicjpkomigacaaReal
namespace Go.Proofs.Ythicjpkomigacaa
open Go.RowKit

def sameF (x y : Nat) : Bool := decide (keyU x = keyU y)
def maxF (x y : Nat) : Nat := if keyU x < keyU y then y else x
def minF (x y : Nat) : Nat := if keyU y < keyU x then y else x

theorem cmpF_facts (x y : Nat) : (cmpF x y = 0 ↔ keyU x = keyU y) ∧ (cmpF x y < 0 ↔ keyU x < keyU y) ∧ (0 < cmpF x y ↔ keyU y < keyU x) := by
  unfold cmpF
  by_cases h1 : keyU x < keyU y
  · rw [if_pos h1]; refine ⟨?_, ?_, ?_⟩ <;> omega
  · by_cases h2 : keyU y < keyU x
    · rw [if_neg h1, if_pos h2]; refine ⟨?_, ?_, ?_⟩ <;> omega
    · rw [if_neg h1, if_neg h2]; refine ⟨?_, ?_, ?_⟩ <;> omega

theorem fsame_any (x y : Nat) (hx : x < 18446744073709551616) (hy : y < 18446744073709551616) (w : World) : Calls Try.prog 28 #[.float .f64 x, .float .f64 y] w fun e w' => e = .returned (.bool (sameF x y)) ∧ Below w.heap.size w w' := by
  have hc := fun W => fcompare_any x y hx hy W
  have hf := (cmpF_facts x y).1
  have hs : sameF x y = decide (cmpF x y = 0) := by unfold sameF; simp only [hf]
  rw [hs]; clear hs hf
  generalize cmpF x y = r at hc ⊢
  have HC := Lib.hid hc; clear hc
  by_cases hr : r = 0
  · have hrb : (r == 0) = true := by simpa using hr
    have HR := Lib.hid hr; clear hr
    go_enter Try.func28, Try.ntmps28
    go_wp2_with fail
    refine (HC.out _).mono ?_
    rintro e w1 ⟨rfl, hb1⟩
    go_wp2
    go_ret
    exact ⟨by simp [HR.out], hb1⟩
  · have hrb : (r == 0) = false := by simpa using hr
    have HR := Lib.hid hr; clear hr
    go_enter Try.func28, Try.ntmps28
    go_wp2_with fail
    refine (HC.out _).mono ?_
    rintro e w1 ⟨rfl, hb1⟩
    go_wp2
    go_ret
    exact ⟨by simp [HR.out], hb1⟩

theorem fmax_any (x y : Nat) (hx : x < 18446744073709551616) (hy : y < 18446744073709551616) (w : World) : Calls Try.prog 69 #[.float .f64 x, .float .f64 y] w fun e w' => e = .returned (.float .f64 (maxF x y)) ∧ Below w.heap.size w w' := by
  have hc := fun W => fcompare_any x y hx hy W
  have hf := (cmpF_facts x y).2.1
  have hs : maxF x y = if cmpF x y < 0 then y else x := by unfold maxF; simp only [hf]
  clear hf
  generalize cmpF x y = r at hc hs
  generalize maxF x y = v at hs ⊢
  have HC := Lib.hid hc; have HV := Lib.hid hs; clear hc hs
  by_cases hr : r < 0
  · go_enter Try.func69, Try.ntmps69
    go_wp2_with fail
    refine (HC.out _).mono ?_
    rintro e w1 ⟨rfl, hb1⟩
    go_wp2
    go_ret
    exact ⟨by rw [HV.out, if_pos hr]; rfl, hb1⟩
  · go_enter Try.func69, Try.ntmps69
    go_wp2_with fail
    refine (HC.out _).mono ?_
    rintro e w1 ⟨rfl, hb1⟩
    go_wp2
    go_ret
    exact ⟨by rw [HV.out, if_neg (by omega)]; rfl, hb1⟩

theorem fmin_any (x y : Nat) (hx : x < 18446744073709551616) (hy : y < 18446744073709551616) (w : World) : Calls Try.prog 70 #[.float .f64 x, .float .f64 y] w fun e w' => e = .returned (.float .f64 (minF x y)) ∧ Below w.heap.size w w' := by
  have hc := fun W => fcompare_any x y hx hy W
  have hf := (cmpF_facts x y).2.2
  have hs : minF x y = if 0 < cmpF x y then y else x := by unfold minF; simp only [hf]
  clear hf
  generalize cmpF x y = r at hc hs
  generalize minF x y = v at hs ⊢
  have HC := Lib.hid hc; have HV := Lib.hid hs; clear hc hs
  by_cases hr : 0 < r
  · go_enter Try.func70, Try.ntmps70
    go_wp2_with fail
    refine (HC.out _).mono ?_
    rintro e w1 ⟨rfl, hb1⟩
    go_wp2
    go_ret
    exact ⟨by rw [HV.out, if_pos hr]; rfl, hb1⟩
  · go_enter Try.func70, Try.ntmps70
    go_wp2_with fail
    refine (HC.out _).mono ?_
    rintro e w1 ⟨rfl, hb1⟩
    go_wp2
    go_ret
    exact ⟨by rw [HV.out, if_neg (by omega)]; rfl, hb1⟩

end Go.Proofs.Ythicjpkomigacaa
