/- vec: Valid, Same, Join. -/
import Derived.Test.YthicjpkomigacaaVec
import Derived.Test.YthicjpkomigacaaVers
import Derived.Deep.QuietTactic
import Derived.BigQuiet
namespace Go.Proofs.Ythicjpkomigacaa
open Go.RowKit

def badT (t : Int) : Bool := decide (t < 0) || decide (281474976710656 ≤ t)

theorem badT_any (t : Int) (w : World) : Calls Try.prog 18 #[.int .i64 t] w fun e w' => e = .returned (.bool (badT t)) ∧ w = w' := by
  by_cases h : t < 0
  · have hb : badT t = true := by simp [badT, h]
    rw [hb]; clear hb
    go_enter Try.func18, Try.ntmps18
    go_wp2
    go_ret
    exact ⟨rfl, rfl⟩
  · have hb : badT t = decide (281474976710656 ≤ t) := by simp [badT, h]
    rw [hb]; clear hb
    go_enter Try.func18, Try.ntmps18
    go_wp2
    go_ret
    exact ⟨by simp, rfl⟩

set_option maxHeartbeats 800000 in
theorem contains_any (va : Value) (xs : List Int) (w : World) (ha : VecR w va xs) :
    Calls Try.prog 17 #[va, .func (.func 18) #[] #[]] w fun e w' => e = .returned (.bool (xs.any badT)) ∧ w = w' := by
  have hi : Calls Try.prog 31 #[va, .func (.func 18) #[] #[]] w fun e w' => (∃ i : Int, e = .returned (.int .i64 i) ∧ decide (0 ≤ i) = xs.any badT) ∧ w = w' := by
    obtain ⟨A, c, rfl, h1, h2, hca⟩ := ha
    unfold maxLen at h2
    obtain ⟨r, hr⟩ : ∃ r, r = xs.any badT := ⟨_, rfl⟩
    rw [← hr]
    have hbad : ∀ j, j < xs.length → badT (xs.getD j 0) = true → r = true := fun j hj hb => by
      rw [hr]; exact List.any_eq_true.2 ⟨_, by rw [getD_lt _ _ hj]; exact List.getElem_mem hj, hb⟩
    have hall : (∀ j, j < xs.length → badT (xs.getD j 0) = false) → r = false := fun h => by
      rw [hr, List.any_eq_false]; intro x hx
      obtain ⟨j, hj, rfl⟩ := List.getElem_of_mem hx
      have := h j hj
      rw [getD_lt _ _ hj] at this
      simp [this]
    generalize hn : xs.length = n at *
    have HBAD := Lib.hid hbad; have HALL := Lib.hid hall; have HCA := Lib.hid hca; clear hbad hall hca hr hn
    go_enter Try.func31, Try.ntmps31
    go_wp2
    go_loop [8] (fun vj => ∃ j : Nat, j ≤ n ∧ vj = .int .i64 j ∧ Hid (∀ i, i < j → badT (xs.getD i 0) = false)) (fun vj => n - (intOf vj).toNat)
    case atStart => exact ⟨0, Nat.zero_le _, rfl, fun i hi => by omega⟩
    case round =>
      obtain ⟨j, hj, rfl, HS⟩ := hrel
      by_cases hlt : j < n
      · obtain ⟨b, o, rfl, hx⟩ := HCA.out j hlt
        have hb := HBAD.out j hlt
        have hn := fun hf : badT (xs.getD j 0) = false => fun i (hi : i < j + 1) => show badT (xs.getD i 0) = false by
          by_cases h : i = j
          · subst h; exact hf
          · exact HS.out i (by omega)
        have hc := fun W => badT_any (xs.getD j 0) W
        generalize badT (xs.getD j 0) = q at hb hn hc
        generalize xs.getD j 0 = x at hx hc
        have HC := Lib.hid hc; have HB := Lib.hid hb; have HN := Lib.hid hn; clear hc hb hn
        cases q with
        | true =>
          go_wp2_with fail
          refine (HC.out _).mono ?_
          rintro e w' ⟨rfl, rfl⟩
          go_wp2
          go_ret
          exact ⟨⟨_, rfl, by rw [HB.out trivial]; simp⟩, rfl⟩
        | false =>
          go_wp2_with fail
          refine (HC.out _).mono ?_
          rintro e w' ⟨rfl, rfl⟩
          go_wp2
          go_round
          case rel => exact ⟨j + 1, by omega, by go_num, HN.out trivial⟩
          case measure => simp [intOf]; omega
      · go_wp2
        go_ret
        exact ⟨⟨_, rfl, by rw [HALL.out (fun i hi => HS.out i (by omega))]; rfl⟩, rfl⟩
  generalize xs.any badT = r at hi ⊢
  have HI := Lib.hid hi; clear hi ha
  go_enter Try.func17, Try.ntmps17
  go_wp2_with fail
  refine HI.out.mono ?_
  rintro e w' ⟨⟨i, rfl, hr⟩, rfl⟩
  have HR := Lib.hid hr; clear hr
  go_wp2
  go_ret
  exact ⟨by rw [← HR.out]; rfl, rfl⟩

def validL (xs : List Int) : Bool := decide (1 ≤ xs.length) && (decide (xs.length ≤ 8) && !xs.any badT)

set_option maxHeartbeats 800000 in
theorem valid_any (va : Value) (xs : List Int) (w : World) (ha : VecR w va xs) :
    Calls Try.prog 8 #[va] w fun e w' => e = .returned (.bool (validL xs)) ∧ w = w' := by
  have hc := contains_any va xs w ha
  have hr : validL xs = (decide (1 ≤ xs.length) && (decide (xs.length ≤ 8) && !xs.any badT)) := rfl
  generalize validL xs = r at hr ⊢
  generalize xs.any badT = q at hr hc
  obtain ⟨A, c, rfl, h1, h2, _⟩ := ha
  generalize xs.length = n at *
  unfold maxLen at h2
  have HC := Lib.hid hc; have HR := Lib.hid hr; clear hc hr
  by_cases l1 : 1 ≤ n
  · have l1z : (1 : Int) ≤ (n : Int) := by omega
    by_cases l2 : n ≤ 8
    · have l2z : (n : Int) ≤ 8 := by omega
      go_enter Try.func8, Try.ntmps8
      go_wp2_with fail
      refine HC.out.mono ?_
      rintro e w' ⟨rfl, rfl⟩
      go_wp2
      go_ret
      exact ⟨by rw [HR.out]; simp [l1, l2], rfl⟩
    · have l2z : ¬ (n : Int) ≤ 8 := by omega
      go_enter Try.func8, Try.ntmps8
      go_wp2
      go_ret
      exact ⟨by rw [HR.out]; simp [l2], rfl⟩
  · have l1z : ¬ (1 : Int) ≤ (n : Int) := by omega
    go_enter Try.func8, Try.ntmps8
    go_wp2
    go_ret
    exact ⟨by rw [HR.out]; simp [l1], rfl⟩

set_option maxHeartbeats 800000 in
theorem vequal_any (va vb : Value) (xs ys : List Int) (w : World) (ha : VecR w va xs) (hb : VecR w vb ys) :
    Calls Try.prog 30 #[va, vb] w fun e w' => e = .returned (.bool (decide (xs = ys))) ∧ Below w.heap.size w w' := by
  by_cases hl : xs.length = ys.length
  · obtain ⟨r, hr⟩ : ∃ r, r = decide (xs = ys) := ⟨_, rfl⟩
    rw [← hr]
    have hbad : ∀ k, k < xs.length → ¬ xs.getD k 0 = ys.getD k 0 → r = false := fun k hk h => by
      rw [hr, decide_eq_false_iff_not]; rintro rfl; exact h rfl
    have hall : (∀ k, k < xs.length → xs.getD k 0 = ys.getD k 0) → r = true := fun h => by
      rw [hr, decide_eq_true_eq]
      refine List.ext_getElem hl fun k h1 h2 => ?_
      have := h k h1
      rw [getD_lt _ _ h1, getD_lt _ _ h2] at this; exact this
    have HB := Lib.hid hbad; have HA := Lib.hid hall; clear hbad hall hr
    have HVA := Lib.hid ha; have HVB := Lib.hid hb
    obtain ⟨A, c, rfl, h1, h2, hca⟩ := ha
    obtain ⟨A', c', rfl, h1', h2', hcb⟩ := hb
    unfold maxLen at h2 h2'
    obtain ⟨n, hn⟩ : ∃ n, n = xs.length := ⟨_, rfl⟩
    rw [← hn] at hl h1
    rw [← hn, ← hl]
    rw [← hl] at h1'
    rw [← hl] at HVB
    rw [← hn] at HVA
    have HN := Lib.hid hn; have HL := Lib.hid hl; clear hn hl hca hcb
    have hne : (((n : Int)) != (n : Int)) = false := by simp
    go_enter Try.func30, Try.ntmps30
    go_wp2
    go_loopw [13] (fun vj wr => ∃ j : Nat, j ≤ n ∧ vj = .int .i64 j ∧ Hid (∀ i, i < j → xs.getD i 0 = ys.getD i 0) ∧ Hid (Below w.heap.size w wr)) (fun vj _ => n - (intOf vj).toNat)
    case atStart => exact ⟨0, Nat.zero_le _, rfl, fun i hi => by omega, Below.refl _ _⟩
    case round =>
      obtain ⟨j, hj, rfl, HS, HG⟩ := hrel
      by_cases hlt : j < n
      · obtain ⟨_, _, q1, _, _, hca⟩ := HVA.out.below HG.out
        obtain ⟨_, _, q2, _, _, hcb⟩ := HVB.out.below HG.out
        simp only [Value.slice.injEq] at q1 q2
        obtain ⟨rfl, _, rfl⟩ := q1
        obtain ⟨rfl, _, rfl⟩ := q2
        obtain ⟨b, o, rfl, hx⟩ := hca j (by rw [← HN.out]; exact hlt)
        obtain ⟨b', o', rfl, hy⟩ := hcb j (by rw [← HL.out]; exact hlt)
        clear hca hcb
        have hltz : (j : Int) < (n : Int) := by omega
        have hbd := HB.out j (by rw [← HN.out]; exact hlt)
        have hn := fun hf : xs.getD j 0 = ys.getD j 0 => fun i (hi : i < j + 1) => show xs.getD i 0 = ys.getD i 0 by
          by_cases h : i = j
          · subst h; exact hf
          · exact HS.out i (by omega)
        generalize xs.getD j 0 = x at hx hbd hn
        generalize ys.getD j 0 = y at hy hbd hn
        have HBD := Lib.hid hbd; have HNX := Lib.hid hn; clear hbd hn
        by_cases hxy : x = y
        · have hxyb : (x != y) = false := by simpa using hxy
          have HXY := Lib.hid hxy; clear hxy
          go_wp2
          go_quiet (fail)
          rename_i nq
          have HG2 : Hid (Below w.heap.size w (wr.drewN nq)) := Lib.hid (below_drewN HG.out nq)
          go_wp2
          go_roundw
          case rel => exact ⟨j + 1, by omega, by go_num, HNX.out HXY.out, HG2⟩
          case measure => simp [intOf]; omega
        · have hxyb : (x != y) = true := by simpa using hxy
          have HXY := Lib.hid hxy; clear hxy
          go_wp2
          go_quiet (fail)
          rename_i nq
          have HG2 : Hid (Below w.heap.size w (wr.drewN nq)) := Lib.hid (below_drewN HG.out nq)
          go_wp2
          go_ret
          obtain rfl := HBD.out HXY.out
          exact ⟨rfl, HG2.out⟩
      · have hltz : ¬ (j : Int) < (n : Int) := by omega
        go_wp2
        go_ret
        obtain rfl := HA.out (fun k hk => HS.out k (by rw [← HN.out] at hk; omega))
        exact ⟨rfl, HG.out⟩
  · have hf : decide (xs = ys) = false := by rw [decide_eq_false_iff_not]; rintro rfl; exact hl rfl
    have HF := Lib.hid hf; clear hf
    obtain ⟨A, c, rfl, _, _, _⟩ := ha
    obtain ⟨A', c', rfl, _, _, _⟩ := hb
    have hne : (((xs.length : Int)) != (ys.length : Int)) = true := by rw [bne_iff_ne]; omega
    go_enter Try.func30, Try.ntmps30
    go_wp2
    go_ret
    rw [HF.out]
    exact ⟨rfl, Below.refl _ _⟩

theorem maxClosure_any (x y : Int) (w : World) : Calls Try.prog 27 #[.int .i64 x, .int .i64 y] w fun e w' => e = .returned (.int .i64 (mx x y)) ∧ w = w' := by
  have hv := show mx x y = mx x y from rfl
  conv at hv => rhs; unfold mx
  generalize mx x y = v at hv ⊢
  have HV := Lib.hid hv; clear hv
  by_cases h : x < y
  · go_enter Try.func27, Try.ntmps27
    go_wp2
    go_ret
    exact ⟨by rw [HV.out, if_pos h]; rfl, rfl⟩
  · go_enter Try.func27, Try.ntmps27
    go_wp2
    go_ret
    exact ⟨by rw [HV.out, if_neg (by omega)]; rfl, rfl⟩

theorem vsame_any (va vb : Value) (xs ys : List Int) (w : World) (ha : VecR w va xs) (hb : VecR w vb ys) :
    Calls Try.prog 16 #[va, vb] w fun e w' => e = .returned (.bool (decide (xs = ys))) ∧ Below w.heap.size w w' := by
  have hc := vequal_any va vb xs ys w ha hb
  generalize decide (xs = ys) = r at hc ⊢
  have HC := Lib.hid hc; clear hc ha hb
  go_enter Try.func16, Try.ntmps16
  go_wp2_with fail
  refine HC.out.mono ?_
  rintro e w1 ⟨rfl, hb⟩
  go_wp2
  go_ret
  exact ⟨rfl, hb⟩

/-- The join of two lists of times. -/
def joinL (xs ys : List Int) : List Int := if xs.length = ys.length then List.zipWith mx xs ys else []

end Go.Proofs.Ythicjpkomigacaa
