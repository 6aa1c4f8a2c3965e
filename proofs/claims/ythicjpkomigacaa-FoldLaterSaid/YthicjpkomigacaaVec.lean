/- vec: the contracts of bedrock/vec. -/
import Derived.Test.YthicjpkomigacaaRows
import Derived.Test.YthicjpkomigacaaMem
namespace Go.Proofs.Ythicjpkomigacaa
open Go.RowKit

def leqL : List Int → List Int → Bool
  | [], [] => true
  | x :: xs, y :: ys => decide (x ≤ y) && leqL xs ys
  | _, _ => false

theorem leqL_len {xs ys : List Int} (h : xs.length ≠ ys.length) : leqL xs ys = false := by
  induction xs generalizing ys with
  | nil => cases ys with
    | nil => simp at h
    | cons y ys => rfl
  | cons x xs ih => cases ys with
    | nil => rfl
    | cons y ys => simp only [leqL]; rw [ih (by simpa using h)]; simp

theorem leqL_bad {xs ys : List Int} (k : Nat) (hk : k < xs.length) (hl : xs.length = ys.length) (h : ys.getD k 0 < xs.getD k 0) : leqL xs ys = false := by
  induction xs generalizing ys k with
  | nil => simp at hk
  | cons x xs ih => cases ys with
    | nil => rfl
    | cons y ys =>
      cases k with
      | zero => simp at h; simp [leqL]; intro; omega
      | succ k => simp only [leqL]; rw [ih k (by simpa using hk) (by simpa using hl) (by simpa using h)]; simp

theorem leqL_all {xs ys : List Int} (hl : xs.length = ys.length) (h : ∀ k, k < xs.length → xs.getD k 0 ≤ ys.getD k 0) : leqL xs ys = true := by
  induction xs generalizing ys with
  | nil => cases ys with
    | nil => rfl
    | cons y ys => simp at hl
  | cons x xs ih => cases ys with
    | nil => simp at hl
    | cons y ys =>
      simp only [leqL]
      rw [ih (by simpa using hl) (fun k hk => by have := h (k + 1) (by simpa using hk); simpa using this)]
      have := h 0 (by simp)
      simpa using this

set_option maxHeartbeats 400000 in
theorem leq_ne (va vb : Value) (xs ys : List Int) (w : World) (ha : VecR w va xs) (hb : VecR w vb ys) (hl : xs.length ≠ ys.length) :
    Calls Try.prog 15 #[va, vb] w fun e w' => e = .returned (.bool (leqL xs ys)) ∧ w = w' := by
  have hf := leqL_len hl
  have HF := Lib.hid hf; clear hf
  obtain ⟨A, c, rfl, _, _, _⟩ := ha
  obtain ⟨A', c', rfl, _, _, _⟩ := hb
  have hne : (((xs.length : Int)) != (ys.length : Int)) = true := by rw [bne_iff_ne]; omega
  go_enter Try.func15, Try.ntmps15
  go_wp2
  go_ret
  rw [HF.out]
  exact ⟨rfl, rfl⟩

set_option maxHeartbeats 400000 in
theorem leq_any (va vb : Value) (xs ys : List Int) (w : World) (ha : VecR w va xs) (hb : VecR w vb ys) :
    Calls Try.prog 15 #[va, vb] w fun e w' => e = .returned (.bool (leqL xs ys)) ∧ w = w' := by
  by_cases hl : xs.length = ys.length
  · have hbad := fun k hk h => leqL_bad (xs := xs) (ys := ys) k hk hl h
    have hall := leqL_all hl
    have HL0 := Lib.hid hl; have HB := Lib.hid hbad; have HA := Lib.hid hall; clear hbad hall
    generalize hr : leqL xs ys = r at HB HA
    have HR := Lib.hid hr; clear hr
    obtain ⟨A, c, rfl, h1, h2, hca⟩ := ha
    obtain ⟨A', c', rfl, h1', h2', hcb⟩ := hb
    unfold maxLen at h2 h2'
    obtain ⟨n, hn⟩ : ∃ n, n = xs.length := ⟨_, rfl⟩
    rw [← hn] at hl h1
    rw [← hn, ← hl]
    rw [← hl] at h1' hcb
    rw [← hn] at hca
    have HN := Lib.hid hn; have HL := HL0; clear hn hl
    have hne : (((n : Int)) != (n : Int)) = false := by simp
    have HCA := Lib.hid hca; have HCB := Lib.hid hcb; clear hca hcb
    go_enter Try.func15, Try.ntmps15
    go_wp2
    go_loop [4, 5, 6, 14] (fun r i t k => ∃ j : Nat, j ≤ n ∧ k = .int .i64 j ∧ (∀ i, i < j → xs.getD i 0 ≤ ys.getD i 0)) (fun _ _ _ k => n - (intOf k).toNat)
    case atStart => exact ⟨0, Nat.zero_le _, rfl, fun i hi => by omega⟩
    case round =>
      obtain ⟨j, hj, rfl, hsofar⟩ := hrel
      have HS := Lib.hid hsofar; clear hsofar
      by_cases hlt : j < n
      · obtain ⟨b, o, rfl, hx⟩ := HCA.out j hlt
        obtain ⟨b', o', rfl, hy⟩ := HCB.out j hlt
        generalize hxv : xs.getD j 0 = x at hx
        generalize hyv : ys.getD j 0 = y at hy
        have HX := Lib.hid hxv; have HY := Lib.hid hyv; clear hxv hyv
        by_cases hxy : y < x
        · go_wp2
          go_ret
          obtain rfl := HB.out j (by rw [← HN.out]; exact hlt) (by rw [HX.out, HY.out]; exact hxy)
          exact ⟨rfl, rfl⟩
        · go_wp2
          go_round
          case rel => exact ⟨j + 1, by omega, by go_num, fun i hi => by
            by_cases h : i = j
            · subst h; rw [HX.out, HY.out]; omega
            · exact HS.out i (by omega)⟩
          case measure => simp [intOf]; omega
      · go_wp2
        go_ret
        obtain rfl := HA.out (fun k hk => HS.out k (by rw [← HN.out] at hk; omega))
        exact ⟨rfl, rfl⟩
  · exact leq_ne va vb xs ys w ha hb hl

end Go.Proofs.Ythicjpkomigacaa
