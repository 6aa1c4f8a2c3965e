/- vec.Join. -/
import Derived.Test.YthicjpkomigacaaVecW
import Derived.Deep.AppendLies
namespace Go.Proofs.Ythicjpkomigacaa
open Go.RowKit

def JoinP (w : World) (xs ys : List Int) (v : Value) (w' : World) : Prop :=
  Below w.heap.size w w' ∧ VecR w' v (joinL xs ys) ∧ FreshB w.heap.size w' v (joinL xs ys)

set_option maxHeartbeats 1600000 in
theorem each_any (va vb : Value) (xs ys : List Int) (w : World) (ha : VecR w va xs) (hb : VecR w vb ys) (hn : xs.length ≤ 1000000) :
    Calls Try.prog 26 #[va, vb, .func (.func 27) #[] #[]] w (RetV (JoinP w xs ys)) := by
  obtain ⟨i0, hi, hz0, hz1, hz2⟩ := info_parts Try.info_int
  have HVA := Lib.hid ha; have HVB := Lib.hid hb
  obtain ⟨A, c, rfl, h1, h2, _⟩ := ha
  obtain ⟨A', c', rfl, h1', h2', _⟩ := hb
  unfold maxLen at h2 h2'
  by_cases hl : xs.length = ys.length
  · obtain ⟨n, hnn⟩ : ∃ n, n = xs.length := ⟨_, rfl⟩
    rw [← hnn] at hl h1 hn
    rw [← hnn, ← hl]
    rw [← hl] at h1' HVB
    rw [← hnn] at HVA
    have HN := Lib.hid hnn; have HL := Lib.hid hl; clear hnn hl
    have hne : (((n : Int)) != (n : Int)) = false := by simp
    obtain ⟨B, hB⟩ : ∃ B, B = w.heap.size := ⟨_, rfl⟩
    have HB := Lib.hid hB; clear hB
    go_enter Try.func26, Try.ntmps26
    go_wp2
    go_loopw [7, 17] (fun vo vj wr => ∃ j : Nat, j ≤ n ∧ vj = .int .i64 j ∧ Hid (wr.ownsRow B 3 1 vo j (((List.zipWith mx xs ys).take j).map (Value.int .i64))) ∧ Hid (Below B w wr)) (fun _ vj _ => n - (intOf vj).toNat)
    case atStart => exact ⟨0, Nat.zero_le _, rfl, World.ownsRow_nil _ _ _ _, Below.refl _ _⟩
    case round =>
      obtain ⟨j, hj, rfl, HO, HG⟩ := hrel
      by_cases hlt : j < n
      · obtain ⟨_, _, q1, _, _, hca⟩ := HVA.out.below (by rw [← HB.out]; exact HG.out)
        obtain ⟨_, _, q2, _, _, hcb⟩ := HVB.out.below (by rw [← HB.out]; exact HG.out)
        simp only [Value.slice.injEq] at q1 q2
        obtain ⟨rfl, e1, rfl⟩ := q1
        obtain ⟨rfl, e2, rfl⟩ := q2
        clear e1 e2
        obtain ⟨b, o, rfl, hx⟩ := hca j (by rw [← HN.out]; exact hlt)
        obtain ⟨b', o', rfl, hy⟩ := hcb j (by rw [← HL.out]; exact hlt)
        clear hca hcb
        have hltz : (j : Int) < (n : Int) := by omega
        have hzip : (List.zipWith mx xs ys).take (j + 1) = (List.zipWith mx xs ys).take j ++ [mx (xs.getD j 0) (ys.getD j 0)] := by
          have h1 : j < xs.length := by rw [← HN.out]; exact hlt
          have h2 : j < ys.length := by rw [← HL.out]; exact hlt
          rw [List.take_succ_eq_append_getElem (by simp; omega), List.getElem_zipWith, getD_lt _ _ h1, getD_lt _ _ h2]
        have hc := fun W => maxClosure_any (xs.getD j 0) (ys.getD j 0) W
        generalize mx (xs.getD j 0) (ys.getD j 0) = z at hzip hc
        generalize xs.getD j 0 = x at hx hc
        generalize ys.getD j 0 = y at hy hc
        have HC := Lib.hid hc; have HZ := Lib.hid hzip; clear hc hzip
        have hBz : B ≤ wr.heap.size := by rw [HB.out]; exact HG.out.size
        have HBZ := Lib.hid hBz; clear hBz
        have hown1 := HO.out.alloc (.cells #[.int .i64 z] 3)
        have HOWN1 := Lib.hid hown1; clear hown1
        go_wp2_with fail
        refine (HC.out _).mono ?_
        rintro e w' ⟨rfl, rfl⟩
        go_wp2_with (at_builtin; go_must (refine wpList_append_own _ rfl (.tmp 22) (.tmp 30) 24 rfl B 3 i0 _ 1 8 Try.underlying24 hi hz0 hz1 hz2 rfl (by decide) _ _ _ rfl HOWN1.out ⟨wr.heap.size, 0, none⟩ 1 1 [.int .i64 z] rfl rfl (World.news_of_block (heap_alloc_new wr _)) (by simp [Value.oneCell']) (by unfold maxLen; omega) (by omega) (by have := HBZ.out; simp; omega) ?_); intro v' w2 hown2 hgrow2 _)
        have hown3 : w2.ownsRow B 3 1 v' (j + 1) (((List.zipWith mx xs ys).take (j + 1)).map (Value.int .i64)) := by
          rw [HZ.out, List.map_append]; exact hown2
        have hg3 : Below B w w2 := by
          refine (HG.out.alloc (by have := HBZ.out; omega) _).grown hgrow2 (by have := HBZ.out; simp; omega) (fun q hq => ?_)
          exact (HOWN1.out.lt q hq).1
        have HO3 := Lib.hid hown3; have HG3 := Lib.hid hg3
        clear hown2 hgrow2 hown3 hg3
        go_roundw
        case rel => exact ⟨j + 1, by omega, by go_num, HO3, HG3⟩
        case measure => simp [intOf]; omega
      · obtain rfl : j = n := by omega
        have hltz : ¬ (j : Int) < (j : Int) := by omega
        have hJ : joinL xs ys = (List.zipWith mx xs ys).take j ∧ ((List.zipWith mx xs ys).take j).length = j := by
          have e1 := HN.out; have e2 := HL.out
          unfold joinL
          rw [if_pos (by omega), List.take_of_length_le (by simp; omega)]
          exact ⟨rfl, by simp; omega⟩
        have HJ := Lib.hid hJ; clear hJ
        go_wp2
        go_ret
        have hv := HO.out
        have hlen := HJ.out.2
        rw [← HJ.out.1] at hv hlen
        obtain ⟨m, rfl⟩ : ∃ m, m = j := ⟨_, rfl⟩
        rw [← hlen] at hv
        have hv2 := VecR_own hv
        exact ⟨_, rfl, by rw [← HB.out]; exact HG.out, hv2.1, by rw [← HB.out]; exact hv2.2⟩
  · have hj : joinL xs ys = [] := by unfold joinL; rw [if_neg hl]
    have hne : (((xs.length : Int)) != (ys.length : Int)) = true := by rw [bne_iff_ne]; omega
    have HJ := Lib.hid hj; clear hj HVA HVB
    go_enter Try.func26, Try.ntmps26
    go_wp2
    go_ret
    exact ⟨_, rfl, Below.refl _ _, by rw [HJ.out]; exact ⟨none, 0, rfl, Nat.le_refl _, by simp [maxLen], fun j hj => by simp at hj⟩, by rw [HJ.out]; exact fun h => by simp at h⟩

theorem join_any (va vb : Value) (xs ys : List Int) (w : World) (ha : VecR w va xs) (hb : VecR w vb ys) (hn : xs.length ≤ 1000000) :
    Calls Try.prog 12 #[va, vb] w (RetV (JoinP w xs ys)) := by
  have hc := each_any va vb xs ys w ha hb hn
  have HC := Lib.hid hc; clear hc ha hb
  go_enter Try.func12, Try.ntmps12
  go_wp2_with fail
  refine HC.out.mono ?_
  rintro e w1 ⟨v, rfl, hp⟩
  have HP := Lib.hid hp; clear hp
  go_wp2
  go_ret
  exact ⟨v, rfl, HP.out⟩

end Go.Proofs.Ythicjpkomigacaa
