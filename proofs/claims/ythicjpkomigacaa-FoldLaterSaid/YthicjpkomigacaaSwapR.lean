/- slices.swapRangeCmpFunc at versions. -/
import Derived.Test.YthicjpkomigacaaRows
import Derived.Test.YthicjpkomigacaaRow
namespace Go.Proofs.Ythicjpkomigacaa
open Go.RowKit

set_option maxRecDepth 100000 in
set_option maxHeartbeats 3200000 in
theorem swapRange_any (fv : Value) (g n cap a b m : Nat) (f : Nat → VerV) (w : World) (hrow : RowF w g n f) (hab : a + m ≤ b) (hb : b + m ≤ n) (hn : n ≤ 1000000) :
    Calls Try.prog 77 #[.slice (some ⟨g, 0, none⟩) n cap, .int .i64 a, .int .i64 b, .int .i64 m, fv] w fun e w' =>
      e = .returned (.tuple #[]) ∧ RowF w' g n (swapRG f a b m) ∧ w.grownBy w' (some g) := by
  have HR := Lib.hid hrow; clear hrow
  have hsf := run_store_float Try.prog
  go_enter Try.func77, Try.ntmps77
  go_wp2
  go_loopw [10] (fun i wr => ∃ k : Nat, k ≤ m ∧ i = .int .i64 k ∧ Hid (RowF wr g n (swapRG f a b k)) ∧ Hid (w.grownBy wr (some g))) (fun i _ => m - (intOf i).toNat)
  case atStart => exact ⟨0, Nat.zero_le _, rfl, by rw [swapRG_zero]; exact HR, World.grownBy.refl _ _⟩
  case round =>
    obtain ⟨k, hk, rfl, HRk, HG⟩ := hrel
    by_cases hlt : k < m
    · have hx := (HRk.out (a + k) (by omega)).facts
      have hy := (HRk.out (b + k) (by omega)).facts
      generalize hxv : swapRG f a b k (a + k) = x at hx
      generalize hyv : swapRG f a b k (b + k) = y at hy
      have HX := Lib.hid hxv; have HY := Lib.hid hyv; clear hxv hyv
      obtain ⟨⟨x0, x1, x2, x3, x4, x5, x6, x7⟩, z0, z1, z2, z3, z4, z5, z6, z7⟩ := hx
      obtain ⟨⟨y0, y1, y2, y3, y4, y5, y6, y7⟩, u0, u1, u2, u3, u4, u5, u6, u7⟩ := hy
      have i1 : IntKind.i64.wrap ((a : Int) + k) = ((a + k : Nat) : Int) := by rw [IntKind.wrap_i64]; omega
      have i2 : IntKind.i64.wrap ((b : Int) + k) = ((b + k : Nat) : Int) := by rw [IntKind.wrap_i64]; omega
      have hltz : (k : Int) < (m : Int) := by omega
      go_wp2_with fail
      go_region
      have hW := swap_world HRk.out HG.out (a + k) (b + k) (by omega) (by omega) (by omega) x y HX.out HY.out
      rw [swapRG_succ f a b k (by omega)] at hW
      change Exit.inBlock _ _ _ _ (put8 (put8 wr g (a + k) y) g (b + k) x).drew
      generalize (put8 (put8 wr g (a + k) y) g (b + k) x).drew = W2 at hW ⊢
      have HW := Lib.hid hW
      clear hW x0 x1 x2 x3 x4 x5 x6 x7 z0 z1 z2 z3 z4 z5 z6 z7 y0 y1 y2 y3 y4 y5 y6 y7 u0 u1 u2 u3 u4 u5 u6 u7
      go_wp2
      go_roundw
      case rel => exact ⟨k + 1, by omega, by go_num, HW.out.1, HW.out.2⟩
      case measure => simp [intOf]; omega
    · have hltz : ¬ (k : Int) < (m : Int) := by omega
      obtain rfl : k = m := by omega
      go_wp2
      go_end0
      exact ⟨rfl, HRk.out, HG.out⟩

end Go.Proofs.Ythicjpkomigacaa
