/- bedrock/op, ikey.IsKey: keys, acts that fit. -/
import Derived.Test.YthicjpkomigacaaRealW
import Derived.Test.YthicjpkomigacaaVer
namespace Go.Proofs.Ythicjpkomigacaa
open Go.RowKit

theorem indexbyte_any (s : ByteArray) (c : Int) (w : World) : (callFunc 67 #[.string s, .int .u8 c]).run Try.prog w = .ok (.value (.int .i64 (Lib.indexByte s.data.toList c.toNat.toUInt8))) w := by
  rw [run_callFunc_extern Try.func67 (by kernel_rfl) (by kernel_rfl) (by kernel_rfl) (e := Extern.BytealgIndexByte.indexByte) (by kernel_rfl)]
  rw [Lib.run_indexByteString]
  rfl

/-- A string's first byte. -/
def c0 (k : ByteArray) : UInt8 := k.toList.headD 0
def isK (k : ByteArray) : Bool := !k.toList.isEmpty && (decide (k.size ≤ 64) && decide (0 ≤ Lib.indexByte [114, 116, 99, 120, 110] (c0 k)))

theorem c0_get (k : ByteArray) (h : 0 < k.size) : k[0]'h = c0 k := by
  obtain ⟨⟨l⟩⟩ := k
  cases l with
  | nil => simp [ByteArray.size] at h
  | cons c l => rw [c0, ByteArray.toList_eq]; rfl
theorem size_list (k : ByteArray) : k.size = k.toList.length := by
  rw [ByteArray.toList_eq]; rfl
theorem size_zero (k : ByteArray) : k.toList = [] ↔ k.size = 0 := by
  rw [size_list]; exact List.length_eq_zero_iff.symm

set_option maxHeartbeats 800000 in
theorem iskey_any (k : ByteArray) (w : World) : Calls Try.prog 21 #[.string k] w fun e w' => e = .returned (.bool (isK k)) ∧ w = w' := by
  have hb := indexbyte_any
  have hx := fun h => c0_get k h
  have hr : isK k = (!k.toList.isEmpty && (decide (k.size ≤ 64) && decide (0 ≤ Lib.indexByte [114, 116, 99, 120, 110] (c0 k)))) := rfl
  generalize c0 k = c at hx hr
  generalize isK k = r at hr ⊢
  by_cases c1 : k.size = 0
  · have ce := (size_zero k).2 c1
    rw [ce] at hr
    have HR := Lib.hid hr; clear hr hx c1
    go_enter Try.func21, Try.ntmps21
    go_wp2
    go_ret
    exact ⟨by rw [HR.out]; rfl, rfl⟩
  · have ce : ¬ k.toList = [] := fun h => c1 ((size_zero k).1 h)
    have ce' : k.toList.isEmpty = false := by simpa using ce
    rw [ce'] at hr
    have cp : 0 < k.size := by omega
    by_cases c2 : k.size ≤ 64
    · have HR := Lib.hid hr; clear hr
      go_enter Try.func21, Try.ntmps21
      go_wp2
      go_ret
      exact ⟨by rw [HR.out]; simp [c2], rfl⟩
    · have HR := Lib.hid hr; clear hr
      go_enter Try.func21, Try.ntmps21
      go_wp2
      go_ret
      exact ⟨by rw [HR.out]; simp [c2], rfl⟩

def nil0 (x : Nat) : Bool := sameF x 0

theorem nought_any (x : Nat) (hx : x < 18446744073709551616) (w : World) : Calls Try.prog 33 #[.float .f64 x] w fun e w' => e = .returned (.bool (nil0 x)) ∧ Below w.heap.size w w' := by
  have hc := fun W => fsame_any x 0 hx (by omega) W
  unfold nil0
  have HC := Lib.hid hc; clear hc
  go_enter Try.func33, Try.ntmps33
  go_wp2_with fail
  refine (HC.out _).mono ?_
  rintro e w1 ⟨rfl, hb1⟩
  go_wp2
  go_ret
  exact ⟨rfl, hb1⟩

def rightD (a : ActD) : Bool := decide (a.text.size ≤ 1024) &&
  (if a.kind = 0 then decide (a.int = 0) && (a.text.toList.isEmpty || nil0 a.num)
   else if a.kind = 1 then nil0 a.num && a.text.toList.isEmpty
   else if a.kind = 2 ∨ a.kind = 3 then decide (a.int = 0) && a.text.toList.isEmpty
   else if a.kind = 4 then nil0 a.num && (decide (a.int = 0) && a.text.toList.isEmpty)
   else false)

set_option maxHeartbeats 3200000 in
theorem right_any (a : ActD) (hx : a.num < 18446744073709551616) (w : World) : Calls Try.prog 32 #[.agg (encA a).toArray] w fun e w' => e = .returned (.bool (rightD a)) ∧ Below w.heap.size w w' := by
  have hn := fun W => nought_any a.num hx W
  have hr := show rightD a = rightD a from rfl
  conv at hr => rhs; unfold rightD
  generalize rightD a = r at hr ⊢
  obtain ⟨kind, num, int, text⟩ := a
  simp only [encA] at hr hn ⊢
  generalize nil0 num = nb at hn hr
  have HN := Lib.hid hn; clear hn hx
  have HR := Lib.hid hr; clear hr

  by_cases c : text.size ≤ 1024
  · by_cases k0 : kind = 0
    · subst k0
      by_cases i0 : int = 0
      · subst i0
        by_cases t0 : text.toList = []
        · go_enter Try.func32, Try.ntmps32
          go_wp2
          go_ret
          exact ⟨by rw [HR.out]; first | (simp [c]; done) | (simp [c, t0]; done), (Below.refl _ _).alloc (Nat.le_refl _) _⟩
        · cases nb with
          | true =>
            · go_enter Try.func32, Try.ntmps32
              go_wp2_with fail
              refine (HN.out _).mono ?_
              rintro e w1 ⟨rfl, hb1⟩
              have hcell1 : ∀ o, w1.cell? ⟨w.heap.size, o, none⟩ = _ := fun o => hb1.cell (p := ⟨w.heap.size, o, none⟩) (by simp)
              go_wp2
              go_ret
              exact ⟨by rw [HR.out]; first | (simp [c]; done) | (simp [c, t0]; done), ((Below.refl _ _).alloc (Nat.le_refl _) _).trans (hb1.mono (by simp))⟩
          | false =>
            · go_enter Try.func32, Try.ntmps32
              go_wp2_with fail
              refine (HN.out _).mono ?_
              rintro e w1 ⟨rfl, hb1⟩
              have hcell1 : ∀ o, w1.cell? ⟨w.heap.size, o, none⟩ = _ := fun o => hb1.cell (p := ⟨w.heap.size, o, none⟩) (by simp)
              go_wp2
              go_ret
              exact ⟨by rw [HR.out]; first | (simp [c]; done) | (simp [c, t0]; done), ((Below.refl _ _).alloc (Nat.le_refl _) _).trans (hb1.mono (by simp))⟩
      · go_enter Try.func32, Try.ntmps32
        go_wp2
        go_ret
        exact ⟨by rw [HR.out]; first | (simp [c]; done) | (simp [c, i0]; done), (Below.refl _ _).alloc (Nat.le_refl _) _⟩
    · by_cases k1 : kind = 1
      · subst k1
        by_cases t0 : text.toList = []
        · cases nb with
          | true =>
            · go_enter Try.func32, Try.ntmps32
              go_wp2_with fail
              refine (HN.out _).mono ?_
              rintro e w1 ⟨rfl, hb1⟩
              have hcell1 : ∀ o, w1.cell? ⟨w.heap.size, o, none⟩ = _ := fun o => hb1.cell (p := ⟨w.heap.size, o, none⟩) (by simp)
              go_wp2
              go_ret
              exact ⟨by rw [HR.out]; first | (simp [c]; done) | (simp [c, t0]; done), ((Below.refl _ _).alloc (Nat.le_refl _) _).trans (hb1.mono (by simp))⟩
          | false =>
            · go_enter Try.func32, Try.ntmps32
              go_wp2_with fail
              refine (HN.out _).mono ?_
              rintro e w1 ⟨rfl, hb1⟩
              have hcell1 : ∀ o, w1.cell? ⟨w.heap.size, o, none⟩ = _ := fun o => hb1.cell (p := ⟨w.heap.size, o, none⟩) (by simp)
              go_wp2
              go_ret
              exact ⟨by rw [HR.out]; first | (simp [c]; done) | (simp [c, t0]; done), ((Below.refl _ _).alloc (Nat.le_refl _) _).trans (hb1.mono (by simp))⟩
        · cases nb with
          | true =>
            · go_enter Try.func32, Try.ntmps32
              go_wp2_with fail
              refine (HN.out _).mono ?_
              rintro e w1 ⟨rfl, hb1⟩
              have hcell1 : ∀ o, w1.cell? ⟨w.heap.size, o, none⟩ = _ := fun o => hb1.cell (p := ⟨w.heap.size, o, none⟩) (by simp)
              go_wp2
              go_ret
              exact ⟨by rw [HR.out]; first | (simp [c]; done) | (simp [c, t0]; done), ((Below.refl _ _).alloc (Nat.le_refl _) _).trans (hb1.mono (by simp))⟩
          | false =>
            · go_enter Try.func32, Try.ntmps32
              go_wp2_with fail
              refine (HN.out _).mono ?_
              rintro e w1 ⟨rfl, hb1⟩
              have hcell1 : ∀ o, w1.cell? ⟨w.heap.size, o, none⟩ = _ := fun o => hb1.cell (p := ⟨w.heap.size, o, none⟩) (by simp)
              go_wp2
              go_ret
              exact ⟨by rw [HR.out]; first | (simp [c]; done) | (simp [c, t0]; done), ((Below.refl _ _).alloc (Nat.le_refl _) _).trans (hb1.mono (by simp))⟩
      · by_cases k2 : kind = 2
        · subst k2
          by_cases i0 : int = 0
          · subst i0
            by_cases t0 : text.toList = []
            · go_enter Try.func32, Try.ntmps32
              go_wp2
              go_ret
              exact ⟨by rw [HR.out]; first | (simp [c]; done) | (simp [c, t0]; done), (Below.refl _ _).alloc (Nat.le_refl _) _⟩
            · go_enter Try.func32, Try.ntmps32
              go_wp2
              go_ret
              exact ⟨by rw [HR.out]; first | (simp [c]; done) | (simp [c, t0]; done), (Below.refl _ _).alloc (Nat.le_refl _) _⟩
          · go_enter Try.func32, Try.ntmps32
            go_wp2
            go_ret
            exact ⟨by rw [HR.out]; first | (simp [c]; done) | (simp [c, i0]; done), (Below.refl _ _).alloc (Nat.le_refl _) _⟩
        · by_cases k3 : kind = 3
          · subst k3
            by_cases i0 : int = 0
            · subst i0
              by_cases t0 : text.toList = []
              · go_enter Try.func32, Try.ntmps32
                go_wp2
                go_ret
                exact ⟨by rw [HR.out]; first | (simp [c]; done) | (simp [c, t0]; done), (Below.refl _ _).alloc (Nat.le_refl _) _⟩
              · go_enter Try.func32, Try.ntmps32
                go_wp2
                go_ret
                exact ⟨by rw [HR.out]; first | (simp [c]; done) | (simp [c, t0]; done), (Below.refl _ _).alloc (Nat.le_refl _) _⟩
            · go_enter Try.func32, Try.ntmps32
              go_wp2
              go_ret
              exact ⟨by rw [HR.out]; first | (simp [c]; done) | (simp [c, i0]; done), (Below.refl _ _).alloc (Nat.le_refl _) _⟩
          · by_cases k4 : kind = 4
            · subst k4
              cases nb with
              | false =>
                · go_enter Try.func32, Try.ntmps32
                  go_wp2_with fail
                  refine (HN.out _).mono ?_
                  rintro e w1 ⟨rfl, hb1⟩
                  have hcell1 : ∀ o, w1.cell? ⟨w.heap.size, o, none⟩ = _ := fun o => hb1.cell (p := ⟨w.heap.size, o, none⟩) (by simp)
                  go_wp2
                  go_ret
                  exact ⟨by rw [HR.out]; simp [c], ((Below.refl _ _).alloc (Nat.le_refl _) _).trans (hb1.mono (by simp))⟩
              | true =>
                by_cases i0 : int = 0
                · subst i0
                  by_cases t0 : text.toList = []
                  · go_enter Try.func32, Try.ntmps32
                    go_wp2_with fail
                    refine (HN.out _).mono ?_
                    rintro e w1 ⟨rfl, hb1⟩
                    have hcell1 : ∀ o, w1.cell? ⟨w.heap.size, o, none⟩ = _ := fun o => hb1.cell (p := ⟨w.heap.size, o, none⟩) (by simp)
                    go_wp2
                    go_ret
                    exact ⟨by rw [HR.out]; first | (simp [c]; done) | (simp [c, t0]; done), ((Below.refl _ _).alloc (Nat.le_refl _) _).trans (hb1.mono (by simp))⟩
                  · go_enter Try.func32, Try.ntmps32
                    go_wp2_with fail
                    refine (HN.out _).mono ?_
                    rintro e w1 ⟨rfl, hb1⟩
                    have hcell1 : ∀ o, w1.cell? ⟨w.heap.size, o, none⟩ = _ := fun o => hb1.cell (p := ⟨w.heap.size, o, none⟩) (by simp)
                    go_wp2
                    go_ret
                    exact ⟨by rw [HR.out]; first | (simp [c]; done) | (simp [c, t0]; done), ((Below.refl _ _).alloc (Nat.le_refl _) _).trans (hb1.mono (by simp))⟩
                · go_enter Try.func32, Try.ntmps32
                  go_wp2_with fail
                  refine (HN.out _).mono ?_
                  rintro e w1 ⟨rfl, hb1⟩
                  have hcell1 : ∀ o, w1.cell? ⟨w.heap.size, o, none⟩ = _ := fun o => hb1.cell (p := ⟨w.heap.size, o, none⟩) (by simp)
                  go_wp2
                  go_ret
                  exact ⟨by rw [HR.out]; first | (simp [c]; done) | (simp [c, i0]; done), ((Below.refl _ _).alloc (Nat.le_refl _) _).trans (hb1.mono (by simp))⟩
            · go_enter Try.func32, Try.ntmps32
              go_wp2
              go_ret
              exact ⟨by rw [HR.out]; first | (simp [c]; done) | (simp [c, k0]; done) | (simp [c, k0, k1]; done) | (simp [c, k0, k1, k2]; done) | (simp [c, k0, k1, k2, k3]; done) | (simp [c, k0, k1, k2, k3, k4]; done), (Below.refl _ _).alloc (Nat.le_refl _) _⟩
  · go_enter Try.func32, Try.ntmps32
    go_wp2
    go_ret
    exact ⟨by rw [HR.out]; simp [c], (Below.refl _ _).alloc (Nat.le_refl _) _⟩

end Go.Proofs.Ythicjpkomigacaa
