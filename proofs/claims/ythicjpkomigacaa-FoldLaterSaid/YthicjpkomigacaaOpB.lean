/- bedrock/op: Fits, registers. -/
import Derived.Test.YthicjpkomigacaaOp
namespace Go.Proofs.Ythicjpkomigacaa
open Go.RowKit

theorem isK_size {k : ByteArray} (h : isK k = true) : 0 < k.size := by
  unfold isK at h
  rcases Nat.eq_zero_or_pos k.size with e | e
  · rw [(size_zero k).2 e] at h; cases h
  · exact e

def clsD (n : Int) (kind : Int) (e nb : Bool) : Bool :=
  if n = 114 then (decide (kind = 0) && e) || decide (kind = 4)
  else if n = 116 then (decide (kind = 0) && nb) || decide (kind = 4)
  else if n = 99 then decide (kind = 1)
  else if n = 120 then decide (kind = 2)
  else decide (kind = 3)

def fitsD (k : ByteArray) (a : ActD) : Bool := isK k && (rightD a && clsD (c0 k).toNat a.kind a.text.toList.isEmpty (nil0 a.num))

set_option maxHeartbeats 3200000 in
theorem fits_any (k : ByteArray) (a : ActD) (hx : a.num < 18446744073709551616) (w : World) : Calls Try.prog 19 #[.string k, .agg (encA a).toArray] w fun e w' => e = .returned (.bool (fitsD k a)) ∧ Below w.heap.size w w' := by
  have hn := fun W => nought_any a.num hx W
  have hr := fun W => right_any a hx W
  have hk := fun W => iskey_any k W
  have h0 := @isK_size k
  have hg : ∀ h : 0 < k.size, ((k[0]'h).toNat : Int) = ((c0 k).toNat : Int) := fun h => by rw [c0_get k h]
  have hf : fitsD k a = (isK k && (rightD a && clsD (c0 k).toNat a.kind a.text.toList.isEmpty (nil0 a.num))) := rfl
  generalize fitsD k a = r at hf ⊢
  generalize isK k = ik at hf hk h0
  generalize rightD a = rb at hf hr
  obtain ⟨kind, num, int, text⟩ := a
  simp only [encA] at hf hn hr ⊢
  generalize nil0 num = nb at hn hf
  generalize ((c0 k).toNat : Int) = n at hf hg
  have HN := Lib.hid hn; have HK := Lib.hid hk; have HI := Lib.hid hr; have HR := Lib.hid hf; clear hn hk hr hf hx
  cases ik with
  | false =>
    clear h0
    · go_enter Try.func19, Try.ntmps19
      go_wp2_with fail
      refine (HK.out _).mono ?_
      rintro e w' ⟨rfl, rfl⟩
      go_wp2
      go_ret
      exact ⟨by rw [HR.out]; rfl, ((Below.refl _ _).alloc (by simp) _)⟩
  | true =>
    have hp : 0 < k.size := h0 rfl
    clear h0
    cases rb with
    | false =>
      · go_enter Try.func19, Try.ntmps19
        go_wp2_with fail
        refine (HK.out _).mono ?_
        rintro e w' ⟨rfl, rfl⟩
        go_wp2_with fail
        refine (HI.out _).mono ?_
        rintro e w1 ⟨rfl, hb1⟩
        have hlt1 : w.heap.size + 1 ≤ w1.heap.size := by have := hb1.size; simp at this; omega
        have hB1 : Hid (Below w.heap.size w w1) := Lib.hid (((Below.refl _ _).alloc (by simp) _).trans (hb1.mono (by simp <;> omega)))
        have hc1_0 : ∀ o, w1.cell? ⟨w.heap.size, o, none⟩ = _ := fun o => hb1.cell (p := ⟨w.heap.size, o, none⟩) (by simp <;> omega)
        clear hb1
        go_wp2
        go_ret
        exact ⟨by rw [HR.out]; rfl, hB1.out⟩
    | true =>
      by_cases n1 : n = 114
      · subst n1
        by_cases k0 : kind = 0
        · subst k0
          by_cases t0 : text.toList = []
          · go_enter Try.func19, Try.ntmps19
            go_wp2_with fail
            refine (HK.out _).mono ?_
            rintro e w' ⟨rfl, rfl⟩
            go_wp2_with fail
            refine (HI.out _).mono ?_
            rintro e w1 ⟨rfl, hb1⟩
            have hlt1 : w.heap.size + 1 ≤ w1.heap.size := by have := hb1.size; simp at this; omega
            have hB1 : Hid (Below w.heap.size w w1) := Lib.hid (((Below.refl _ _).alloc (by simp) _).trans (hb1.mono (by simp <;> omega)))
            have hc1_0 : ∀ o, w1.cell? ⟨w.heap.size, o, none⟩ = _ := fun o => hb1.cell (p := ⟨w.heap.size, o, none⟩) (by simp <;> omega)
            clear hb1
            go_wp2
            go_ret
            exact ⟨by rw [HR.out]; first | (simp [clsD]; done) | (simp [clsD, t0]; done), hB1.out⟩
          · go_enter Try.func19, Try.ntmps19
            go_wp2_with fail
            refine (HK.out _).mono ?_
            rintro e w' ⟨rfl, rfl⟩
            go_wp2_with fail
            refine (HI.out _).mono ?_
            rintro e w1 ⟨rfl, hb1⟩
            have hlt1 : w.heap.size + 1 ≤ w1.heap.size := by have := hb1.size; simp at this; omega
            have hB1 : Hid (Below w.heap.size w w1) := Lib.hid (((Below.refl _ _).alloc (by simp) _).trans (hb1.mono (by simp <;> omega)))
            have hc1_0 : ∀ o, w1.cell? ⟨w.heap.size, o, none⟩ = _ := fun o => hb1.cell (p := ⟨w.heap.size, o, none⟩) (by simp <;> omega)
            clear hb1
            go_wp2
            go_ret
            exact ⟨by rw [HR.out]; first | (simp [clsD]; done) | (simp [clsD, t0]; done), hB1.out⟩
        · by_cases k4 : kind = 4
          · subst k4
            · go_enter Try.func19, Try.ntmps19
              go_wp2_with fail
              refine (HK.out _).mono ?_
              rintro e w' ⟨rfl, rfl⟩
              go_wp2_with fail
              refine (HI.out _).mono ?_
              rintro e w1 ⟨rfl, hb1⟩
              have hlt1 : w.heap.size + 1 ≤ w1.heap.size := by have := hb1.size; simp at this; omega
              have hB1 : Hid (Below w.heap.size w w1) := Lib.hid (((Below.refl _ _).alloc (by simp) _).trans (hb1.mono (by simp <;> omega)))
              have hc1_0 : ∀ o, w1.cell? ⟨w.heap.size, o, none⟩ = _ := fun o => hb1.cell (p := ⟨w.heap.size, o, none⟩) (by simp <;> omega)
              clear hb1
              go_wp2
              go_ret
              exact ⟨by rw [HR.out]; simp [clsD], hB1.out⟩
          · go_enter Try.func19, Try.ntmps19
            go_wp2_with fail
            refine (HK.out _).mono ?_
            rintro e w' ⟨rfl, rfl⟩
            go_wp2_with fail
            refine (HI.out _).mono ?_
            rintro e w1 ⟨rfl, hb1⟩
            have hlt1 : w.heap.size + 1 ≤ w1.heap.size := by have := hb1.size; simp at this; omega
            have hB1 : Hid (Below w.heap.size w w1) := Lib.hid (((Below.refl _ _).alloc (by simp) _).trans (hb1.mono (by simp <;> omega)))
            have hc1_0 : ∀ o, w1.cell? ⟨w.heap.size, o, none⟩ = _ := fun o => hb1.cell (p := ⟨w.heap.size, o, none⟩) (by simp <;> omega)
            clear hb1
            go_wp2
            go_ret
            exact ⟨by rw [HR.out]; first | (simp [clsD]; done) | (simp [clsD, k0]; done) | (simp [clsD, k0, k4]; done), hB1.out⟩
      · by_cases n2 : n = 116
        · subst n2
          by_cases k0 : kind = 0
          · subst k0
            cases nb with
            | true =>
              · go_enter Try.func19, Try.ntmps19
                go_wp2_with fail
                refine (HK.out _).mono ?_
                rintro e w' ⟨rfl, rfl⟩
                go_wp2_with fail
                refine (HI.out _).mono ?_
                rintro e w1 ⟨rfl, hb1⟩
                have hlt1 : w.heap.size + 1 ≤ w1.heap.size := by have := hb1.size; simp at this; omega
                have hB1 : Hid (Below w.heap.size w w1) := Lib.hid (((Below.refl _ _).alloc (by simp) _).trans (hb1.mono (by simp <;> omega)))
                have hc1_0 : ∀ o, w1.cell? ⟨w.heap.size, o, none⟩ = _ := fun o => hb1.cell (p := ⟨w.heap.size, o, none⟩) (by simp <;> omega)
                clear hb1
                go_wp2_with fail
                refine (HN.out _).mono ?_
                rintro e w2 ⟨rfl, hb2⟩
                have hlt2 : w.heap.size + 1 ≤ w2.heap.size := Nat.le_trans hlt1 hb2.size
                have hB2 : Hid (Below w.heap.size w w2) := Lib.hid (hB1.out.trans (hb2.mono (by omega)))
                have hc2_0 : ∀ o, w2.cell? ⟨w.heap.size, o, none⟩ = _ := fun o => hb2.cell (p := ⟨w.heap.size, o, none⟩) (by show w.heap.size < _; omega)
                clear hb2
                go_wp2
                go_ret
                exact ⟨by rw [HR.out]; simp [clsD], hB2.out⟩
            | false =>
              · go_enter Try.func19, Try.ntmps19
                go_wp2_with fail
                refine (HK.out _).mono ?_
                rintro e w' ⟨rfl, rfl⟩
                go_wp2_with fail
                refine (HI.out _).mono ?_
                rintro e w1 ⟨rfl, hb1⟩
                have hlt1 : w.heap.size + 1 ≤ w1.heap.size := by have := hb1.size; simp at this; omega
                have hB1 : Hid (Below w.heap.size w w1) := Lib.hid (((Below.refl _ _).alloc (by simp) _).trans (hb1.mono (by simp <;> omega)))
                have hc1_0 : ∀ o, w1.cell? ⟨w.heap.size, o, none⟩ = _ := fun o => hb1.cell (p := ⟨w.heap.size, o, none⟩) (by simp <;> omega)
                clear hb1
                go_wp2_with fail
                refine (HN.out _).mono ?_
                rintro e w2 ⟨rfl, hb2⟩
                have hlt2 : w.heap.size + 1 ≤ w2.heap.size := Nat.le_trans hlt1 hb2.size
                have hB2 : Hid (Below w.heap.size w w2) := Lib.hid (hB1.out.trans (hb2.mono (by omega)))
                have hc2_0 : ∀ o, w2.cell? ⟨w.heap.size, o, none⟩ = _ := fun o => hb2.cell (p := ⟨w.heap.size, o, none⟩) (by show w.heap.size < _; omega)
                clear hb2
                go_wp2
                go_ret
                exact ⟨by rw [HR.out]; simp [clsD], hB2.out⟩
          · by_cases k4 : kind = 4
            · subst k4
              · go_enter Try.func19, Try.ntmps19
                go_wp2_with fail
                refine (HK.out _).mono ?_
                rintro e w' ⟨rfl, rfl⟩
                go_wp2_with fail
                refine (HI.out _).mono ?_
                rintro e w1 ⟨rfl, hb1⟩
                have hlt1 : w.heap.size + 1 ≤ w1.heap.size := by have := hb1.size; simp at this; omega
                have hB1 : Hid (Below w.heap.size w w1) := Lib.hid (((Below.refl _ _).alloc (by simp) _).trans (hb1.mono (by simp <;> omega)))
                have hc1_0 : ∀ o, w1.cell? ⟨w.heap.size, o, none⟩ = _ := fun o => hb1.cell (p := ⟨w.heap.size, o, none⟩) (by simp <;> omega)
                clear hb1
                go_wp2
                go_ret
                exact ⟨by rw [HR.out]; simp [clsD], hB1.out⟩
            · go_enter Try.func19, Try.ntmps19
              go_wp2_with fail
              refine (HK.out _).mono ?_
              rintro e w' ⟨rfl, rfl⟩
              go_wp2_with fail
              refine (HI.out _).mono ?_
              rintro e w1 ⟨rfl, hb1⟩
              have hlt1 : w.heap.size + 1 ≤ w1.heap.size := by have := hb1.size; simp at this; omega
              have hB1 : Hid (Below w.heap.size w w1) := Lib.hid (((Below.refl _ _).alloc (by simp) _).trans (hb1.mono (by simp <;> omega)))
              have hc1_0 : ∀ o, w1.cell? ⟨w.heap.size, o, none⟩ = _ := fun o => hb1.cell (p := ⟨w.heap.size, o, none⟩) (by simp <;> omega)
              clear hb1
              go_wp2
              go_ret
              exact ⟨by rw [HR.out]; first | (simp [clsD]; done) | (simp [clsD, k0]; done) | (simp [clsD, k0, k4]; done), hB1.out⟩
        · by_cases n3 : n = 99
          · subst n3
            by_cases k1 : kind = 1
            · subst k1
              · go_enter Try.func19, Try.ntmps19
                go_wp2_with fail
                refine (HK.out _).mono ?_
                rintro e w' ⟨rfl, rfl⟩
                go_wp2_with fail
                refine (HI.out _).mono ?_
                rintro e w1 ⟨rfl, hb1⟩
                have hlt1 : w.heap.size + 1 ≤ w1.heap.size := by have := hb1.size; simp at this; omega
                have hB1 : Hid (Below w.heap.size w w1) := Lib.hid (((Below.refl _ _).alloc (by simp) _).trans (hb1.mono (by simp <;> omega)))
                have hc1_0 : ∀ o, w1.cell? ⟨w.heap.size, o, none⟩ = _ := fun o => hb1.cell (p := ⟨w.heap.size, o, none⟩) (by simp <;> omega)
                clear hb1
                go_wp2
                go_ret
                exact ⟨by rw [HR.out]; simp [clsD], hB1.out⟩
            · go_enter Try.func19, Try.ntmps19
              go_wp2_with fail
              refine (HK.out _).mono ?_
              rintro e w' ⟨rfl, rfl⟩
              go_wp2_with fail
              refine (HI.out _).mono ?_
              rintro e w1 ⟨rfl, hb1⟩
              have hlt1 : w.heap.size + 1 ≤ w1.heap.size := by have := hb1.size; simp at this; omega
              have hB1 : Hid (Below w.heap.size w w1) := Lib.hid (((Below.refl _ _).alloc (by simp) _).trans (hb1.mono (by simp <;> omega)))
              have hc1_0 : ∀ o, w1.cell? ⟨w.heap.size, o, none⟩ = _ := fun o => hb1.cell (p := ⟨w.heap.size, o, none⟩) (by simp <;> omega)
              clear hb1
              go_wp2
              go_ret
              exact ⟨by rw [HR.out]; first | (simp [clsD]; done) | (simp [clsD, k1]; done), hB1.out⟩
          · by_cases n4 : n = 120
            · subst n4
              by_cases k1 : kind = 2
              · subst k1
                · go_enter Try.func19, Try.ntmps19
                  go_wp2_with fail
                  refine (HK.out _).mono ?_
                  rintro e w' ⟨rfl, rfl⟩
                  go_wp2_with fail
                  refine (HI.out _).mono ?_
                  rintro e w1 ⟨rfl, hb1⟩
                  have hlt1 : w.heap.size + 1 ≤ w1.heap.size := by have := hb1.size; simp at this; omega
                  have hB1 : Hid (Below w.heap.size w w1) := Lib.hid (((Below.refl _ _).alloc (by simp) _).trans (hb1.mono (by simp <;> omega)))
                  have hc1_0 : ∀ o, w1.cell? ⟨w.heap.size, o, none⟩ = _ := fun o => hb1.cell (p := ⟨w.heap.size, o, none⟩) (by simp <;> omega)
                  clear hb1
                  go_wp2
                  go_ret
                  exact ⟨by rw [HR.out]; simp [clsD], hB1.out⟩
              · go_enter Try.func19, Try.ntmps19
                go_wp2_with fail
                refine (HK.out _).mono ?_
                rintro e w' ⟨rfl, rfl⟩
                go_wp2_with fail
                refine (HI.out _).mono ?_
                rintro e w1 ⟨rfl, hb1⟩
                have hlt1 : w.heap.size + 1 ≤ w1.heap.size := by have := hb1.size; simp at this; omega
                have hB1 : Hid (Below w.heap.size w w1) := Lib.hid (((Below.refl _ _).alloc (by simp) _).trans (hb1.mono (by simp <;> omega)))
                have hc1_0 : ∀ o, w1.cell? ⟨w.heap.size, o, none⟩ = _ := fun o => hb1.cell (p := ⟨w.heap.size, o, none⟩) (by simp <;> omega)
                clear hb1
                go_wp2
                go_ret
                exact ⟨by rw [HR.out]; first | (simp [clsD]; done) | (simp [clsD, k1]; done), hB1.out⟩
            · by_cases k1 : kind = 3
              · subst k1
                · go_enter Try.func19, Try.ntmps19
                  go_wp2_with fail
                  refine (HK.out _).mono ?_
                  rintro e w' ⟨rfl, rfl⟩
                  go_wp2_with fail
                  refine (HI.out _).mono ?_
                  rintro e w1 ⟨rfl, hb1⟩
                  have hlt1 : w.heap.size + 1 ≤ w1.heap.size := by have := hb1.size; simp at this; omega
                  have hB1 : Hid (Below w.heap.size w w1) := Lib.hid (((Below.refl _ _).alloc (by simp) _).trans (hb1.mono (by simp <;> omega)))
                  have hc1_0 : ∀ o, w1.cell? ⟨w.heap.size, o, none⟩ = _ := fun o => hb1.cell (p := ⟨w.heap.size, o, none⟩) (by simp <;> omega)
                  clear hb1
                  go_wp2
                  go_ret
                  exact ⟨by rw [HR.out]; first | (simp [clsD]; done) | (simp [clsD, n1]; done) | (simp [clsD, n1, n2]; done) | (simp [clsD, n1, n2, n3]; done) | (simp [clsD, n1, n2, n3, n4]; done), hB1.out⟩
              · go_enter Try.func19, Try.ntmps19
                go_wp2_with fail
                refine (HK.out _).mono ?_
                rintro e w' ⟨rfl, rfl⟩
                go_wp2_with fail
                refine (HI.out _).mono ?_
                rintro e w1 ⟨rfl, hb1⟩
                have hlt1 : w.heap.size + 1 ≤ w1.heap.size := by have := hb1.size; simp at this; omega
                have hB1 : Hid (Below w.heap.size w w1) := Lib.hid (((Below.refl _ _).alloc (by simp) _).trans (hb1.mono (by simp <;> omega)))
                have hc1_0 : ∀ o, w1.cell? ⟨w.heap.size, o, none⟩ = _ := fun o => hb1.cell (p := ⟨w.heap.size, o, none⟩) (by simp <;> omega)
                clear hb1
                go_wp2
                go_ret
                exact ⟨by rw [HR.out]; first | (simp [clsD]; done) | (simp [clsD, n1]; done) | (simp [clsD, n1, n2]; done) | (simp [clsD, n1, n2, n3]; done) | (simp [clsD, n1, n2, n3, n4]; done) | (simp [clsD, n1, n2, n3, n4, k1]; done), hB1.out⟩

def regK (k : ByteArray) : Bool := !k.toList.isEmpty && (decide (((c0 k).toNat : Int) = 114) || decide (((c0 k).toNat : Int) = 116))

theorem fregisters_any (k : ByteArray) (hk : 0 < k.size) (w : World) : Calls Try.prog 22 #[.string k] w fun e w' => e = .returned (.bool (regK k)) ∧ w = w' := by
  have hg : ∀ h : 0 < k.size, ((k[0]'h).toNat : Int) = ((c0 k).toNat : Int) := fun h => by rw [c0_get k h]
  have hr : regK k = (!k.toList.isEmpty && (decide (((c0 k).toNat : Int) = 114) || decide (((c0 k).toNat : Int) = 116))) := rfl
  have ce : ¬ k.toList = [] := fun h => by have := (size_zero k).1 h; omega
  have ce' : k.toList.isEmpty = false := by simpa using ce
  rw [ce'] at hr
  generalize regK k = r at hr ⊢
  generalize ((c0 k).toNat : Int) = n at hr hg
  have HR := Lib.hid hr; clear hr
  by_cases n1 : n = 114
  · go_enter Try.func22, Try.ntmps22
    go_wp2
    go_ret
    exact ⟨by rw [HR.out, n1]; rfl, rfl⟩
  · by_cases n2 : n = 116
    · go_enter Try.func22, Try.ntmps22
      go_wp2
      go_ret
      exact ⟨by rw [HR.out, n2]; rfl, rfl⟩
    · go_enter Try.func22, Try.ntmps22
      go_wp2
      go_ret
      exact ⟨by rw [HR.out]; simp [n1, n2], rfl⟩

end Go.Proofs.Ythicjpkomigacaa
