/- slices.rotateCmpFunc at versions. -/
import Derived.Test.YthicjpkomigacaaSwapR
namespace Go.Proofs.Ythicjpkomigacaa
open Go.RowKit

set_option maxHeartbeats 1600000 in
theorem rotate_any (fv : Value) (g n cap a m b : Nat) (f : Nat → VerV) (w : World) (hrow : RowF w g n f) (ham : a < m) (hmb : m < b) (hb : b ≤ n) (hn : n ≤ 1000000) :
    Calls Try.prog 75 #[.slice (some ⟨g, 0, none⟩) n cap, .int .i64 a, .int .i64 m, .int .i64 b, fv] w fun e w' =>
      e = .returned (.tuple #[]) ∧ RowF w' g n (rotG f a m b) ∧ w.grownBy w' (some g) := by
  have HR := Lib.hid hrow; clear hrow
  have eq0 : f = f := rfl
  have ei : ((m : Int) - a) = ((m - a : Nat) : Int) := by omega
  have ej : ((b : Int) - m) = ((b - m : Nat) : Int) := by omega
  have EI := Lib.hid ei; have EJ := Lib.hid ej; clear ei ej eq0
  go_enter Try.func75, Try.ntmps75
  go_wp2
  go_loopw [10, 11] (fun vi vj wr => ∃ (i j : Nat) (F : Nat → VerV), vi = .int .i64 i ∧ vj = .int .i64 j ∧ 0 < i ∧ 0 < j ∧ i ≤ m ∧ m + j ≤ n ∧ Hid (RowF wr g n F) ∧ Hid (w.grownBy wr (some g)) ∧ Hid (rotG F (m - i) m (m + j) = rotG f a m b)) (fun vi vj _ => (intOf vi).toNat + (intOf vj).toNat)
  case atStart => exact ⟨m - a, b - m, f, by rw [EI.out], by rw [EJ.out], by omega, by omega, by omega, by omega, HR, World.grownBy.refl _ _, (show _ = _ by rw [show m - (m - a) = a by omega, show m + (b - m) = b by omega])⟩
  case round =>
    obtain ⟨i, j, F, rfl, rfl, hi0, hj0, him, hjn, HRk, HG, HE⟩ := hrel
    by_cases hij : i = j
    · subst hij
      have hne : (((i : Int)) != (i : Int)) = false := by simp
      have hc := fun W h => swapRange_any fv g n cap (m - i) m i F W h (by omega) (by omega) hn
      rw [rotG_even F m i him] at hc
      have emi : ((m - i : Nat) : Int) = (m : Int) - i := by omega
      rw [emi] at hc
      have HC := Lib.hid hc; clear hc emi
      go_wp2_with (go_at_call 77; refine (HC.out _ HRk.out).mono ?_; rintro e w1 ⟨rfl, hr1, hg1⟩)
      go_end0
      exact ⟨rfl, by rw [← HE.out]; exact hr1, HG.out.trans hg1⟩
    · have hne : (((i : Int)) != (j : Int)) = true := by rw [bne_iff_ne]; omega
      by_cases hgt : j < i
      · have hc := fun W h => swapRange_any fv g n cap (m - i) m j F W h (by omega) (by omega) hn
        have emi : ((m - i : Nat) : Int) = (m : Int) - i := by omega
        rw [emi] at hc
        have HC := Lib.hid hc; clear hc emi
        have HB := Lib.hid (rotG_big F m i j hj0 hgt him)
        have EN := Lib.hid (show ((i : Int) - j) = ((i - j : Nat) : Int) by omega)
        have HIJ := Lib.hid hij; clear hij
        have hgz : (j : Int) < (i : Int) := by omega
        go_wp2_with (go_at_call 77; refine (HC.out _ HRk.out).mono ?_; rintro e w1 ⟨rfl, hr1, hg1⟩; have HR1 := Lib.hid hr1; have HG1 := Lib.hid hg1; clear hr1 hg1)
        go_roundw
        case rel => exact ⟨i - j, j, _, by rw [EN.out], rfl, by omega, by omega, by omega, by omega, HR1, HG.out.trans HG1.out, (show _ = _ by rw [← HE.out]; exact HB.out)⟩
        case measure => simp [intOf]; omega
      · have hc := fun W h => swapRange_any fv g n cap (m - i) (m + j - i) i F W h (by omega) (by omega) hn
        have emi : ((m - i : Nat) : Int) = (m : Int) - i := by omega
        have emj : ((m + j - i : Nat) : Int) = (m : Int) + j - i := by omega
        rw [emi, emj] at hc
        have HC := Lib.hid hc; clear hc emi emj
        have HB := Lib.hid (rotG_small F m i j hi0 (by omega) him)
        have EN := Lib.hid (show ((j : Int) - i) = ((j - i : Nat) : Int) by omega)
        have hlt : i < j := by omega
        have HIJ := Lib.hid hij; clear hij
        have hgz : ¬ (j : Int) < (i : Int) := by omega
        go_wp2_with (go_at_call 77; refine (HC.out _ HRk.out).mono ?_; rintro e w1 ⟨rfl, hr1, hg1⟩; have HR1 := Lib.hid hr1; have HG1 := Lib.hid hg1; clear hr1 hg1)
        go_roundw
        case rel => exact ⟨i, j - i, _, rfl, by rw [EN.out], by omega, by omega, by omega, by omega, HR1, HG.out.trans HG1.out, (show _ = _ by rw [← HE.out]; exact HB.out)⟩
        case measure => simp [intOf]; omega

end Go.Proofs.Ythicjpkomigacaa
