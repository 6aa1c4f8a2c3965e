/- bedrock/op: registers, joined, SameValue. -/
import Derived.Test.YthicjpkomigacaaOpB
import Derived.Test.YthicjpkomigacaaKeep
import Derived.Deep.RegionHeld3
namespace Go.Proofs.Ythicjpkomigacaa
open Go.RowKit

theorem first_byte (k : ByteArray) (h : 0 < k.size) : (k.extract 0 1).toList = [c0 k] := by
  obtain ⟨⟨l⟩⟩ := k
  cases l with
  | nil => simp [ByteArray.size] at h
  | cons c l => rw [c0, ByteArray.toList_eq, ByteArray.toList_eq]; simp

set_option maxHeartbeats 800000 in
theorem registers_any (k : ByteArray) (w : World) : Calls Try.prog 47 #[.string k] w fun e w' => e = .returned (.bool (regK k)) ∧ w = w' := by
  have hr : regK k = (!k.toList.isEmpty && (decide (((c0 k).toNat : Int) = 114) || decide (((c0 k).toNat : Int) = 116))) := rfl
  by_cases c1 : k.size = 0
  · have ce := (size_zero k).2 c1
    rw [ce] at hr
    generalize regK k = r at hr ⊢
    have HR := Lib.hid hr; clear hr
    go_enter Try.func47, Try.ntmps47
    go_wp2
    go_ret
    exact ⟨by rw [HR.out]; rfl, rfl⟩
  · have ce : ¬ k.toList = [] := fun h => c1 ((size_zero k).1 h)
    have ce' : k.toList.isEmpty = false := by simpa using ce
    rw [ce'] at hr
    have cp : 0 < k.size := by omega
    have hfb := first_byte k cp
    generalize regK k = r at hr ⊢
    generalize c0 k = c at hr hfb
    have HR := Lib.hid hr; clear hr
    by_cases d1 : c = 114
    · subst d1
      go_enter Try.func47, Try.ntmps47
      go_wp2
      go_ret
      exact ⟨by rw [HR.out]; rfl, rfl⟩
    · have e1 : ¬ ((c.toNat : Int) = 114) := fun h => d1 (UInt8.toNat_inj.1 (show c.toNat = 114 by omega))
      by_cases d2 : c = 116
      · subst d2
        go_enter Try.func47, Try.ntmps47
        go_wp2
        go_ret
        exact ⟨by rw [HR.out]; rfl, rfl⟩
      · have e2 : ¬ ((c.toNat : Int) = 116) := fun h => d2 (UInt8.toNat_inj.1 (show c.toNat = 116 by omega))
        have b1 : (c == 114) = false := by simpa using d1
        have b2 : (c == 116) = false := by simpa using d2
        go_enter Try.func47, Try.ntmps47
        go_wp2
        go_ret
        exact ⟨by rw [HR.out]; simp [e1, e2], rfl⟩

def joinD (a b : ActD) : ActD :=
  if b.kind = 1 then ⟨1, 0, wrap64 (a.int + b.int), ByteArray.empty⟩
  else if b.kind = 2 then ⟨2, maxF a.num b.num, 0, ByteArray.empty⟩
  else if b.kind = 3 then ⟨3, minF a.num b.num, 0, ByteArray.empty⟩
  else b

set_option maxHeartbeats 1600000 in
theorem joined_any (a b : ActD) (hx : a.num < 18446744073709551616) (hy : b.num < 18446744073709551616) (w : World) : Calls Try.prog 59 #[.agg (encA a).toArray, .agg (encA b).toArray] w fun e w' => e = .returned (.agg (encA (joinD a b)).toArray) ∧ Below w.heap.size w w' := by
  have hsf := run_store_float Try.prog
  have hm := fun W => fmax_any a.num b.num hx hy W
  have hn := fun W => fmin_any a.num b.num hx hy W
  have hr := show joinD a b = joinD a b from rfl
  conv at hr => rhs; unfold joinD
  generalize joinD a b = r at hr ⊢
  obtain ⟨ka, na, ia, ta⟩ := a
  obtain ⟨kb, nb, ib, tb⟩ := b
  obtain ⟨kr, nr, ir, tr⟩ := r
  simp only [encA] at hr hm hn ⊢
  generalize maxF na nb = xm at hm hr
  generalize minF na nb = xn at hn hr
  have HM := Lib.hid hm; have HN := Lib.hid hn; have HR := Lib.hid hr; clear hm hn hr hx hy
  by_cases k1 : kb = 1
  · subst k1
    · go_enter Try.func59, Try.ntmps59
      go_wp2
      refine bodyPost_ret (v := .agg #[.int .i64 1, .float .f64 0, .int .i64 (wrap64 (ia + ib)), .string ⟨#[]⟩]) (by simp [results, Try.results59, go_sem]) rfl ?_
      exact ⟨by have h := HR.out; simp at h; simp [h]; try rfl, ((((Below.refl _ _).alloc (by simp <;> omega) _).alloc (by simp <;> omega) _).alloc (by simp <;> omega) _)⟩
  · by_cases k2 : kb = 2
    · subst k2
      · obtain ⟨B, hB⟩ : ∃ B, B = w.heap.size := ⟨_, rfl⟩
        have hWB : ∀ W, W = (((w.alloc (.cells #[.int .i64 ka, .float .f64 na, .int .i64 ia, .string ta] 33)).alloc (.cells #[.int .i64 2, .float .f64 nb, .int .i64 ib, .string tb] 33)).alloc (.cells #[.int .i64 0, .float .f64 0, .int .i64 0, .string ⟨#[]⟩] 33)) → (Below B w W ∧ W.heap.size = B + 3) ∧ W.cell? ⟨B, 0, none⟩ = some (.int .i64 ka) ∧ W.cell? ⟨B, 1, none⟩ = some (.float .f64 na) ∧ W.cell? ⟨B, 2, none⟩ = some (.int .i64 ia) ∧ W.cell? ⟨B, 3, none⟩ = some (.string ta) ∧ W.cell? ⟨B + 1, 0, none⟩ = some (.int .i64 2) ∧ W.cell? ⟨B + 1, 1, none⟩ = some (.float .f64 nb) ∧ W.cell? ⟨B + 1, 2, none⟩ = some (.int .i64 ib) ∧ W.cell? ⟨B + 1, 3, none⟩ = some (.string tb) ∧ W.cell? ⟨B + 1 + 1, 0, none⟩ = some (.int .i64 0) ∧ W.cell? ⟨B + 1 + 1, 1, none⟩ = some (.float .f64 0) ∧ W.cell? ⟨B + 1 + 1, 2, none⟩ = some (.int .i64 0) ∧ W.cell? ⟨B + 1 + 1, 3, none⟩ = some (.string ⟨#[]⟩) ∧ W.frozen? ⟨B, 0, none⟩ = false ∧ W.frozen? ⟨B, 1, none⟩ = false ∧ W.frozen? ⟨B, 2, none⟩ = false ∧ W.frozen? ⟨B, 3, none⟩ = false ∧ W.frozen? ⟨B + 1, 0, none⟩ = false ∧ W.frozen? ⟨B + 1, 1, none⟩ = false ∧ W.frozen? ⟨B + 1, 2, none⟩ = false ∧ W.frozen? ⟨B + 1, 3, none⟩ = false ∧ W.frozen? ⟨B + 1 + 1, 0, none⟩ = false ∧ W.frozen? ⟨B + 1 + 1, 1, none⟩ = false ∧ W.frozen? ⟨B + 1 + 1, 2, none⟩ = false ∧ W.frozen? ⟨B + 1 + 1, 3, none⟩ = false := by
          rintro W rfl
          subst hB
          refine ⟨⟨((((Below.refl _ _).alloc (by simp <;> omega) _).alloc (by simp <;> omega) _).alloc (by simp <;> omega) _), by simp⟩, ?_⟩
          simp [go_sem]
        have HB0 := Lib.hid hB; have HWB := Lib.hid hWB; clear hB hWB
        go_enter Try.func59, Try.ntmps59
        go_wp2_with fail
        rw [← HB0.out]
        generalize hW : (((w.alloc _).alloc _).alloc _) = W
        obtain ⟨⟨hBW, hWz⟩, a0, a1, a2, a3, a4, a5, a6, a7, a8, a9, a10, a11, z0, z1, z2, z3, z4, z5, z6, z7, z8, z9, z10, z11⟩ := HWB.out W hW.symm
        have HS := Lib.hid (keepz_drew (N := B + 3) (W := W) (by omega))
        have HBW := Lib.hid hBW; have HWz := Lib.hid hWz
        clear hW hBW hWz HWB
        have HJ := Lib.hid (KeepJ.drew (N := B + 1 + 1) (n := 4) (W := W) (by have := HWz.out; omega) (fun o ho => by
            obtain rfl | rfl | rfl | rfl : o = 0 ∨ o = 1 ∨ o = 2 ∨ o = 3 := by omega
            all_goals simp [a8, a9, a10, a11]))
        go_region_held3 (fun W' => (∀ b o, b < B + 1 + 1 → W'.cell? ⟨b, o, none⟩ = W.cell? ⟨b, o, none⟩) ∧ (∀ b o, b < B + 1 + 1 + 1 → W'.frozen? ⟨b, o, none⟩ = W.frozen? ⟨b, o, none⟩) ∧ (∀ o, o < 4 → W'.cell? ⟨B + 1 + 1, o, none⟩ = some (got W' (B + 1 + 1) o)) ∧ Hid (Below (B + 1 + 1) W W') ∧ B + 1 + 1 + 1 ≤ W'.heap.size)
          (first
            | (exact HJ.out)
            | (refine KeepJ.set (n := 4) ?_ _ _; refine KeepJ.set (n := 4) ?_ _ _; refine KeepJ.set (n := 4) ?_ _ _; refine KeepJ.set (n := 4) ?_ _ _; exact (by assumption))
            | (refine KeepJ.step (n := 4) (by assumption) ?_; first | assumption | exact Below.refl _ _ | exact (Below.refl _ _).alloc (Nat.le_refl _) _))
          (first
            | (go_at_call 69; refine (HM.out _).mono ?_; rintro e w1 ⟨rfl, hb1⟩))
        have hj : ∀ o, w1.cell? ⟨B + 1 + 1, o, none⟩ = W.cell? ⟨B + 1 + 1, o, none⟩ := fun o => hb1.cell (p := ⟨B + 1 + 1, o, none⟩) (by have := HWz.out; show B + 1 + 1 < W.heap.size; omega)
        go_wp2
        refine bodyPost_ret (v := .agg #[.int .i64 2, .float .f64 xm, .int .i64 0, .string ⟨#[]⟩]) (by simp [results, Try.results59, go_sem, hj, a8, a9, a10, a11]) rfl ?_
        exact ⟨by have h := HR.out; simp at h; simp [h]; try rfl, by rw [← HB0.out]; exact HBW.out.trans (Below.mono (B := B + 1 + 1) (Hid.out (by go_split_ands; assumption)) (by omega))⟩
    · by_cases k3 : kb = 3
      · subst k3
        · obtain ⟨B, hB⟩ : ∃ B, B = w.heap.size := ⟨_, rfl⟩
          have hWB : ∀ W, W = (((w.alloc (.cells #[.int .i64 ka, .float .f64 na, .int .i64 ia, .string ta] 33)).alloc (.cells #[.int .i64 3, .float .f64 nb, .int .i64 ib, .string tb] 33)).alloc (.cells #[.int .i64 0, .float .f64 0, .int .i64 0, .string ⟨#[]⟩] 33)) → (Below B w W ∧ W.heap.size = B + 3) ∧ W.cell? ⟨B, 0, none⟩ = some (.int .i64 ka) ∧ W.cell? ⟨B, 1, none⟩ = some (.float .f64 na) ∧ W.cell? ⟨B, 2, none⟩ = some (.int .i64 ia) ∧ W.cell? ⟨B, 3, none⟩ = some (.string ta) ∧ W.cell? ⟨B + 1, 0, none⟩ = some (.int .i64 3) ∧ W.cell? ⟨B + 1, 1, none⟩ = some (.float .f64 nb) ∧ W.cell? ⟨B + 1, 2, none⟩ = some (.int .i64 ib) ∧ W.cell? ⟨B + 1, 3, none⟩ = some (.string tb) ∧ W.cell? ⟨B + 1 + 1, 0, none⟩ = some (.int .i64 0) ∧ W.cell? ⟨B + 1 + 1, 1, none⟩ = some (.float .f64 0) ∧ W.cell? ⟨B + 1 + 1, 2, none⟩ = some (.int .i64 0) ∧ W.cell? ⟨B + 1 + 1, 3, none⟩ = some (.string ⟨#[]⟩) ∧ W.frozen? ⟨B, 0, none⟩ = false ∧ W.frozen? ⟨B, 1, none⟩ = false ∧ W.frozen? ⟨B, 2, none⟩ = false ∧ W.frozen? ⟨B, 3, none⟩ = false ∧ W.frozen? ⟨B + 1, 0, none⟩ = false ∧ W.frozen? ⟨B + 1, 1, none⟩ = false ∧ W.frozen? ⟨B + 1, 2, none⟩ = false ∧ W.frozen? ⟨B + 1, 3, none⟩ = false ∧ W.frozen? ⟨B + 1 + 1, 0, none⟩ = false ∧ W.frozen? ⟨B + 1 + 1, 1, none⟩ = false ∧ W.frozen? ⟨B + 1 + 1, 2, none⟩ = false ∧ W.frozen? ⟨B + 1 + 1, 3, none⟩ = false := by
            rintro W rfl
            subst hB
            refine ⟨⟨((((Below.refl _ _).alloc (by simp <;> omega) _).alloc (by simp <;> omega) _).alloc (by simp <;> omega) _), by simp⟩, ?_⟩
            simp [go_sem]
          have HB0 := Lib.hid hB; have HWB := Lib.hid hWB; clear hB hWB
          go_enter Try.func59, Try.ntmps59
          go_wp2_with fail
          rw [← HB0.out]
          generalize hW : (((w.alloc _).alloc _).alloc _) = W
          obtain ⟨⟨hBW, hWz⟩, a0, a1, a2, a3, a4, a5, a6, a7, a8, a9, a10, a11, z0, z1, z2, z3, z4, z5, z6, z7, z8, z9, z10, z11⟩ := HWB.out W hW.symm
          have HS := Lib.hid (keepz_drew (N := B + 3) (W := W) (by omega))
          have HBW := Lib.hid hBW; have HWz := Lib.hid hWz
          clear hW hBW hWz HWB
          have HJ := Lib.hid (KeepJ.drew (N := B + 1 + 1) (n := 4) (W := W) (by have := HWz.out; omega) (fun o ho => by
              obtain rfl | rfl | rfl | rfl : o = 0 ∨ o = 1 ∨ o = 2 ∨ o = 3 := by omega
              all_goals simp [a8, a9, a10, a11]))
          go_region_held3 (fun W' => (∀ b o, b < B + 1 + 1 → W'.cell? ⟨b, o, none⟩ = W.cell? ⟨b, o, none⟩) ∧ (∀ b o, b < B + 1 + 1 + 1 → W'.frozen? ⟨b, o, none⟩ = W.frozen? ⟨b, o, none⟩) ∧ (∀ o, o < 4 → W'.cell? ⟨B + 1 + 1, o, none⟩ = some (got W' (B + 1 + 1) o)) ∧ Hid (Below (B + 1 + 1) W W') ∧ B + 1 + 1 + 1 ≤ W'.heap.size)
            (first
              | (exact HJ.out)
              | (refine KeepJ.set (n := 4) ?_ _ _; refine KeepJ.set (n := 4) ?_ _ _; refine KeepJ.set (n := 4) ?_ _ _; refine KeepJ.set (n := 4) ?_ _ _; exact (by assumption))
              | (refine KeepJ.step (n := 4) (by assumption) ?_; first | assumption | exact Below.refl _ _ | exact (Below.refl _ _).alloc (Nat.le_refl _) _))
            (first
              | (go_at_call 70; refine (HN.out _).mono ?_; rintro e w1 ⟨rfl, hb1⟩))
          have hj : ∀ o, w1.cell? ⟨B + 1 + 1, o, none⟩ = W.cell? ⟨B + 1 + 1, o, none⟩ := fun o => hb1.cell (p := ⟨B + 1 + 1, o, none⟩) (by have := HWz.out; show B + 1 + 1 < W.heap.size; omega)
          go_wp2
          refine bodyPost_ret (v := .agg #[.int .i64 3, .float .f64 xn, .int .i64 0, .string ⟨#[]⟩]) (by simp [results, Try.results59, go_sem, hj, a8, a9, a10, a11]) rfl ?_
          exact ⟨by have h := HR.out; simp at h; simp [h]; try rfl, by rw [← HB0.out]; exact HBW.out.trans (Below.mono (B := B + 1 + 1) (Hid.out (by go_split_ands; assumption)) (by omega))⟩
      · go_enter Try.func59, Try.ntmps59
        go_wp2
        refine bodyPost_ret (v := .agg #[.int .i64 kb, .float .f64 nb, .int .i64 ib, .string tb]) (by simp [results, Try.results59, go_sem]) rfl ?_
        exact ⟨by have h := HR.out; simp [k1, k2, k3] at h; simp [h]; try rfl, ((((Below.refl _ _).alloc (by simp <;> omega) _).alloc (by simp <;> omega) _).alloc (by simp <;> omega) _)⟩

end Go.Proofs.Ythicjpkomigacaa
