/- cmp and slices.Compare: the contracts. -/
import Derived.Test.YthicjpkomigacaaRows
import Derived.Test.YthicjpkomigacaaMem
import Derived.Test.YthicjpkomigacaaPlain
namespace Go.Proofs.Ythicjpkomigacaa
open Go.RowKit

theorem isNaN_any (x : Int) (w : World) : Calls Try.prog 66 #[.int .i64 x] w fun e w' => e = .returned (.bool false) ∧ w = w' := by
  have h : ((x : Int) != x) = false := by simp
  go_enter Try.func66, Try.ntmps66
  go_wp2
  go_ret
  simp

theorem compare_any (x y : Int) (w : World) : Calls Try.prog 53 #[.int .i64 x, .int .i64 y] w fun e w' => e = .returned (.int .i64 (cmpI x y)) ∧ w = w' := by
  unfold cmpI
  by_cases h1 : x < y
  · rw [if_pos h1]
    go_enter Try.func53, Try.ntmps53
    go_wp2_with (go_at_call 66; refine (isNaN_any _ _).mono ?_; rintro e w' ⟨rfl, rfl⟩)
    go_ret
    exact ⟨rfl, rfl⟩
  · by_cases h2 : y < x
    · rw [if_neg h1, if_pos h2]
      go_enter Try.func53, Try.ntmps53
      go_wp2_with (go_at_call 66; refine (isNaN_any _ _).mono ?_; rintro e w' ⟨rfl, rfl⟩)
      go_ret
      exact ⟨rfl, rfl⟩
    · rw [if_neg h1, if_neg h2]
      go_enter Try.func53, Try.ntmps53
      go_wp2_with (go_at_call 66; refine (isNaN_any _ _).mono ?_; rintro e w' ⟨rfl, rfl⟩)
      go_ret
      exact ⟨rfl, rfl⟩

set_option maxHeartbeats 400000 in
theorem slicesCompare_any (va vb : Value) (xs ys : List Int) (w : World) (ha : VecR w va xs) (hb : VecR w vb ys) :
    Calls Try.prog 54 #[va, vb] w fun e w' => e = .returned (.int .i64 (cmpL xs ys)) ∧ w = w' := by
  have hat := fun k hx hy h hc => cmpL_at (xs := xs) (ys := ys) k hx hy h hc
  have hshort := fun hl h => cmpL_short (xs := xs) (ys := ys) hl h
  have hend := fun hl h => cmpL_end (xs := xs) (ys := ys) hl h
  have H1 := Lib.hid hat; have H2 := Lib.hid hshort; have H3 := Lib.hid hend; clear hat hshort hend
  generalize cmpL xs ys = r at H1 H2 H3
  obtain ⟨A, c, rfl, h1, h2, hca⟩ := ha
  obtain ⟨A', c', rfl, h1', h2', hcb⟩ := hb
  unfold maxLen at h2 h2'
  obtain ⟨n, hn⟩ : ∃ n, n = xs.length := ⟨_, rfl⟩
  obtain ⟨m, hm⟩ : ∃ m, m = ys.length := ⟨_, rfl⟩
  rw [← hn] at h1 hca H1 H2 H3 ⊢
  rw [← hm] at h1' hcb H1 H2 H3 ⊢
  clear hn hm
  have HCA := Lib.hid hca; have HCB := Lib.hid hcb; clear hca hcb
  go_enter Try.func54, Try.ntmps54
  go_wp2
  go_loop [4, 5, 6, 7, 8, 11] (fun r i t u c k => ∃ j : Nat, j ≤ n ∧ j ≤ m ∧ k = .int .i64 j ∧ (∀ i, i < j → xs.getD i 0 = ys.getD i 0)) (fun _ _ _ _ _ k => n - (intOf k).toNat)
  case atStart => exact ⟨0, Nat.zero_le _, Nat.zero_le _, rfl, fun i hi => by omega⟩
  case round =>
    obtain ⟨j, hj, hjm, rfl, hsofar⟩ := hrel
    have HS := Lib.hid hsofar; clear hsofar
    by_cases hlt : j < n
    · obtain ⟨b, o, rfl, hx⟩ := HCA.out j hlt
      generalize hxv : xs.getD j 0 = x at hx
      have HX := Lib.hid hxv; clear hxv
      by_cases hltm : j < m
      · obtain ⟨b', o', rfl, hy⟩ := HCB.out j hltm
        generalize hyv : ys.getD j 0 = y at hy
        have HY := Lib.hid hyv; clear hyv
        by_cases hz : cmpI x y = 0
        · have hc := compare_any x y w
          rw [hz] at hc
          have HC := Lib.hid hc
          have HZ := Lib.hid hz
          clear hc hz
          go_wp2_with (go_at_call 53; refine (HC.out).mono ?_; rintro e w' ⟨rfl, rfl⟩)
          go_round
          case rel => exact ⟨j + 1, by omega, by omega, by go_num, fun i hi => by
            by_cases h : i = j
            · subst h; rw [HX.out, HY.out]; exact cmpI_zero HZ.out
            · exact HS.out i (by omega)⟩
          case measure => simp [intOf]; omega
        · have hc := compare_any x y w
          have hz' : (cmpI x y != 0) = true := by simpa using hz
          have hr := H1.out j hlt hltm HS.out (by rw [HX.out, HY.out]; exact hz)
          rw [HX.out, HY.out] at hr
          rw [← hr] at hc hz'
          have HC := Lib.hid hc
          clear hc hz hr
          go_wp2_with (go_at_call 53; refine (HC.out).mono ?_; rintro e w' ⟨rfl, rfl⟩)
          go_ret
          exact ⟨rfl, rfl⟩
      · obtain rfl : j = m := by omega
        obtain rfl := H2.out hlt HS.out
        go_wp2
        go_ret
        exact ⟨rfl, rfl⟩
    · obtain rfl : j = n := by omega
      have hr := H3.out hjm HS.out
      by_cases hnm : j < m
      · rw [if_pos hnm] at hr
        subst hr
        go_wp2
        go_ret
        exact ⟨rfl, rfl⟩
      · rw [if_neg hnm] at hr
        subst hr
        go_wp2
        go_ret
        exact ⟨rfl, rfl⟩

set_option maxHeartbeats 400000 in
theorem or_any (va : Value) (xs : List Int) (w : World) (ha : VecR w va xs) :
    Calls Try.prog 52 #[va] w fun e w' => e = .returned (.int .i64 (orL xs)) ∧ w = w' := by
  have hat := fun k hx hy h => orL_at (xs := xs) k hx hy h
  have hend := fun h => orL_none (xs := xs) h
  have H1 := Lib.hid hat; have H3 := Lib.hid hend; clear hat hend
  generalize orL xs = r at H1 H3
  obtain ⟨A, c, rfl, h1, h2, hca⟩ := ha
  unfold maxLen at h2
  obtain ⟨n, hn⟩ : ∃ n, n = xs.length := ⟨_, rfl⟩
  rw [← hn] at h1 hca H1 H3 ⊢
  clear hn
  have HCA := Lib.hid hca; clear hca
  go_enter Try.func52, Try.ntmps52
  go_wp2
  go_loop [2, 5, 8] (fun r t k => ∃ j : Nat, j ≤ n ∧ k = .int .i64 j ∧ (∀ i, i < j → xs.getD i 0 = 0)) (fun _ _ k => n - (intOf k).toNat)
  case atStart => exact ⟨0, Nat.zero_le _, rfl, fun i hi => by omega⟩
  case round =>
    obtain ⟨j, hj, rfl, hsofar⟩ := hrel
    have HS := Lib.hid hsofar; clear hsofar
    by_cases hlt : j < n
    · obtain ⟨b, o, rfl, hx⟩ := HCA.out j hlt
      generalize hxv : xs.getD j 0 = x at hx
      have HX := Lib.hid hxv; clear hxv
      by_cases hz : x = 0
      · subst hz
        go_wp2
        go_round
        case rel => exact ⟨j + 1, by omega, by go_num, fun i hi => by
          by_cases h : i = j
          · subst h; rw [HX.out]
          · exact HS.out i (by omega)⟩
        case measure => simp [intOf]; omega
      · have hz' : (x != 0) = true := by simpa using hz
        have hr := H1.out j hlt HS.out (by rw [HX.out]; exact hz)
        rw [HX.out] at hr
        subst hr
        clear hz
        go_wp2
        go_ret
        exact ⟨rfl, rfl⟩
    · obtain rfl : j = n := by omega
      obtain rfl := H3.out HS.out
      go_wp2
      go_ret
      exact ⟨rfl, rfl⟩

end Go.Proofs.Ythicjpkomigacaa
