/- ikey.Time, ikey.Order. -/
import Derived.Test.YthicjpkomigacaaOrd
namespace Go.Proofs.Ythicjpkomigacaa
open Go.RowKit

set_option maxHeartbeats 400000 in
theorem itime_max (va : Value) (v : VerD) (w : World) (ha : VecR w va v.at_) (h1 : v.origin = 254) (h0 : 0 < v.at_.length) :
    Calls Try.prog 63 #[.agg (encV va v).toArray] w fun e w' => e = .returned (.int .i64 (maxL v.at_)) ∧ Below w.heap.size w w' := by
  obtain ⟨key, xs, o, tx, act⟩ := v
  dsimp only at h1 h0 ha ⊢
  subst h1
  have hm := fun W h => slicesMax_any va xs W h h0
  have HM := Lib.hid hm; clear hm
  have ha' := Lib.hid ha
  obtain ⟨A, c, rfl, hl, hca⟩ := ha.at_
  clear ha
  have hpos : (0 : Int) < (xs.length : Int) := by omega
  generalize maxL xs = r at HM ⊢
  have HCA := Lib.hid hca; clear hca
  generalize xs.length = n at *
  simp only [encV]
  go_enter Try.func63, Try.ntmps63
  go_wp2_with fail
  refine (HM.out _ (ha'.out.below ((Below.refl _ _).alloc (Nat.le_refl _) _))).mono ?_
  rintro e w' ⟨rfl, rfl⟩
  go_wp2
  go_ret
  exact ⟨rfl, (Below.refl _ _).alloc (Nat.le_refl _) _⟩

set_option maxHeartbeats 400000 in
theorem itime_place (va : Value) (v : VerD) (w : World) (ha : VecR w va v.at_) (h1 : ¬ (v.origin = 254 ∧ 0 < v.at_.length)) (h0 : 0 ≤ v.origin) (h2 : v.origin < v.at_.length) :
    Calls Try.prog 63 #[.agg (encV va v).toArray] w fun e w' => e = .returned (.int .i64 (v.at_.getD v.origin.toNat 0)) ∧ Below w.heap.size w w' := by
  obtain ⟨key, xs, o, tx, act⟩ := v
  dsimp only at h1 h0 h2 ha ⊢
  obtain ⟨A, c, rfl, hl, hca⟩ := ha.at_
  clear ha
  obtain ⟨k, rfl⟩ := Int.eq_ofNat_of_zero_le h0
  obtain ⟨b, ofs, rfl, hx⟩ := hca k (by omega)
  rw [Int.toNat_natCast]
  generalize xs.getD k 0 = x at hx ⊢
  clear hca
  have hx' := cell_new hx
  have hne : ((k : Int) == 254) = false := by
    rw [beq_eq_false_iff_ne]; intro h; exact h1 ⟨h, by omega⟩
  clear h1
  generalize xs.length = n at *
  simp only [encV]
  go_enter Try.func63, Try.ntmps63
  go_wp2
  go_ret
  exact ⟨rfl, (Below.refl _ _).alloc (Nat.le_refl _) _⟩

set_option maxHeartbeats 400000 in
theorem itime_none (va : Value) (v : VerD) (w : World) (ha : VecR w va v.at_) (h1 : ¬ (v.origin = 254 ∧ 0 < v.at_.length)) (h2 : ¬ (0 ≤ v.origin ∧ v.origin < v.at_.length)) :
    Calls Try.prog 63 #[.agg (encV va v).toArray] w fun e w' => e = .returned (.int .i64 0) ∧ Below w.heap.size w w' := by
  obtain ⟨key, xs, o, tx, act⟩ := v
  dsimp only at h1 h2 ha ⊢
  obtain ⟨A, c, rfl, hl, hca⟩ := ha.at_
  clear ha hca
  generalize xs.length = n at *
  simp only [encV]
  by_cases ho : o = 254
  · subst ho
    have hn : n = 0 := by omega
    subst hn
    go_enter Try.func63, Try.ntmps63
    go_wp2
    go_ret
    exact ⟨rfl, (Below.refl _ _).alloc (Nat.le_refl _) _⟩
  · have hne : (o == 254) = false := by
      rw [beq_eq_false_iff_ne]; exact ho
    clear h1 ho
    by_cases h0 : 0 ≤ o
    · have h3 : ¬ o < n := fun h => h2 ⟨h0, h⟩
      clear h2
      go_enter Try.func63, Try.ntmps63
      go_wp2
      go_ret
      exact ⟨rfl, (Below.refl _ _).alloc (Nat.le_refl _) _⟩
    · clear h2
      go_enter Try.func63, Try.ntmps63
      go_wp2
      go_ret
      exact ⟨rfl, (Below.refl _ _).alloc (Nat.le_refl _) _⟩


theorem itime_any (va : Value) (v : VerD) (w : World) (ha : VecR w va v.at_) :
    Calls Try.prog 63 #[.agg (encV va v).toArray] w fun e w' => e = .returned (.int .i64 (timeI v)) ∧ Below w.heap.size w w' := by
  unfold timeI timeO
  by_cases h1 : v.origin = 254 ∧ 0 < v.at_.length
  · rw [if_pos h1]; exact itime_max va v w ha h1.1 h1.2
  · rw [if_neg h1]
    by_cases h2 : 0 ≤ v.origin ∧ v.origin < v.at_.length
    · rw [if_pos h2]; exact itime_place va v w ha h1 h2.1 h2.2
    · rw [if_neg h2]; exact itime_none va v w ha h1 h2

set_option maxRecDepth 100000 in
set_option maxHeartbeats 3200000 in
theorem iorder_any (va vb : Value) (a b : VerD) (w : World) (ha : VecR w va a.at_) (hb : VecR w vb b.at_) :
    Calls Try.prog 49 #[.agg (encV va a).toArray, .agg (encV vb b).toArray] w fun e w' => e = .returned (.int .i64 (ordV a b)) ∧ Below w.heap.size w w' := by
  have ht1 := fun W h => itime_any va a W h
  have ht2 := fun W h => itime_any vb b W h
  have ho := ordV_or a b
  obtain ⟨ka, xs, oa, ta, aa⟩ := a
  obtain ⟨kb, ys, ob, tb, ab⟩ := b
  dsimp only at ha hb ht1 ht2 ho ⊢
  generalize timeI { key := ka, at_ := xs, origin := oa, tx := ta, act := aa } = tia at ht1 ho
  generalize timeI { key := kb, at_ := ys, origin := ob, tx := tb, act := ab } = tib at ht2 ho
  generalize ordV { key := ka, at_ := xs, origin := oa, tx := ta, act := aa } { key := kb, at_ := ys, origin := ob, tx := tb, act := ab } = r at ho ⊢
  subst ho
  simp only [encV] at ht1 ht2 ⊢
  have hcl := fun W ha hb => slicesCompare_any va vb xs ys W ha hb
  have ha' := Lib.hid ha
  have hb' := Lib.hid hb
  obtain ⟨A, c, rfl, hl, _⟩ := ha.at_
  obtain ⟨A', c', rfl, hl', _⟩ := hb.at_
  clear ha hb
  generalize hn : xs.length = n at *
  generalize hm : ys.length = m at *
  have HN := Lib.hid hn; have HM := Lib.hid hm; clear hn hm
  have HT1 := Lib.hid ht1; have HT2 := Lib.hid ht2; have HCL := Lib.hid hcl
  clear ht1 ht2 hcl
  obtain ⟨B, hB⟩ : ∃ B, B = w.heap.size := ⟨_, rfl⟩
  have hWB : ∀ W, W = ((w.alloc (.cells #[.string ka, .slice A n c, .int .i64 oa, .int .i64 ta, .int .i64 aa.kind, .float .f64 aa.num, .int .i64 aa.int, .string aa.text] 35)).alloc (.cells #[.string kb, .slice A' m c', .int .i64 ob, .int .i64 tb, .int .i64 ab.kind, .float .f64 ab.num, .int .i64 ab.int, .string ab.text] 35)) → (Below B w W ∧ W.heap.size = B + 2) ∧
      W.cell? ⟨B, 0, none⟩ = some (.string ka) ∧ W.cell? ⟨B, 1, none⟩ = some (.slice A n c) ∧ W.cell? ⟨B, 2, none⟩ = some (.int .i64 oa) ∧ W.cell? ⟨B, 3, none⟩ = some (.int .i64 ta) ∧ W.cell? ⟨B, 4, none⟩ = some (.int .i64 aa.kind) ∧ W.cell? ⟨B, 5, none⟩ = some (.float .f64 aa.num) ∧ W.cell? ⟨B, 6, none⟩ = some (.int .i64 aa.int) ∧ W.cell? ⟨B, 7, none⟩ = some (.string aa.text) ∧
      W.cell? ⟨B + 1, 0, none⟩ = some (.string kb) ∧ W.cell? ⟨B + 1, 1, none⟩ = some (.slice A' m c') ∧ W.cell? ⟨B + 1, 2, none⟩ = some (.int .i64 ob) ∧ W.cell? ⟨B + 1, 3, none⟩ = some (.int .i64 tb) ∧ W.cell? ⟨B + 1, 4, none⟩ = some (.int .i64 ab.kind) ∧ W.cell? ⟨B + 1, 5, none⟩ = some (.float .f64 ab.num) ∧ W.cell? ⟨B + 1, 6, none⟩ = some (.int .i64 ab.int) ∧ W.cell? ⟨B + 1, 7, none⟩ = some (.string ab.text) := by
    rintro W rfl
    subst hB
    refine ⟨⟨((Below.refl _ _).alloc (Nat.le_refl _) _).alloc (by simp) _, by simp⟩, ?_⟩
    simp [go_sem]
  have HB0 := Lib.hid hB; have HWB := Lib.hid hWB; clear hB hWB
  go_enter Try.func49, Try.ntmps49
  go_wp2_with fail
  rw [← HB0.out]
  generalize hW : ((w.alloc _).alloc _) = W
  obtain ⟨⟨hBW, hWz⟩, a0, a1, a2, a3, a4, a5, a6, a7, b0, b1, b2, b3, b4, b5, b6, b7⟩ := HWB.out W hW.symm
  have hS := keep_drew (N := B + 2) (W := W) (by omega)
  have HV1 : Hid (∀ W' : World, Hid (Below (B + 2) W W') → VecR W' (.slice A n c) xs) := Lib.hid fun W' h => ha'.out.below (by rw [← HB0.out]; exact hBW.trans (h.out.mono (by omega)))
  have HV2 : Hid (∀ W' : World, Hid (Below (B + 2) W W') → VecR W' (.slice A' m c') ys) := Lib.hid fun W' h => hb'.out.below (by rw [← HB0.out]; exact hBW.trans (h.out.mono (by omega)))
  have HBW := Lib.hid hBW; have HWz := Lib.hid hWz; have HS := Lib.hid hS
  clear hW hBW hWz hS HWB
  go_region_held3 (fun W' => (∀ b o, b < B + 2 → W'.cell? ⟨b, o, none⟩ = W.cell? ⟨b, o, none⟩) ∧ Hid (Below (B + 2) W W') ∧ B + 2 ≤ W'.heap.size)
    (first
      | (exact HS.out)
      | (refine keep_step (by assumption) ?_; first | assumption | exact Below.refl _ _ | exact (Below.refl _ _).alloc (Nat.le_refl _) _))
    (first
      | (go_at_call_of 63 (Value.agg #[Value.string kb, Value.slice A' m c', Value.int IntKind.i64 ob, Value.int IntKind.i64 tb, Value.int IntKind.i64 ab.kind, Value.float FloatKind.f64 ab.num, Value.int IntKind.i64 ab.int, Value.string ab.text]); refine (HT2.out _ (HV2.out _ (by go_split_ands; assumption))).mono ?_; rintro e w1 ⟨rfl, hb1⟩)
      | (go_at_call 63; refine (HT1.out _ (HV1.out _ (by go_split_ands; assumption))).mono ?_; rintro e w1 ⟨rfl, hb1⟩)
      | (go_at_call 53; refine (compare_any _ _ _).mono ?_; rintro e w1 ⟨rfl, rfl⟩)
      | (go_at_call 54; refine (HCL.out _ (HV1.out _ (by go_split_ands; assumption)) (HV2.out _ (by go_split_ands; assumption))).mono ?_; rintro e w1 ⟨rfl, rfl⟩)
      | (go_at_call 52; refine (or_any _ [cmpI tib tia, cmpI ob oa, cmpI tb ta, cmpI n m, cmpL xs ys] _ (VecR_block (heap_alloc_new _ _) rfl (by simp [maxLen]))).mono ?_; rintro e w1 ⟨rfl, rfl⟩))
  go_wp2
  go_ret
  refine ⟨rfl, ?_⟩
  rw [← HB0.out]
  refine HBW.out.trans (Below.mono (B := B + 2) ?_ (by omega))
  exact Hid.out (by go_split_ands; assumption)

end Go.Proofs.Ythicjpkomigacaa

