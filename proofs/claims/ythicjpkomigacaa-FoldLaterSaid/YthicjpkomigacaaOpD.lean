/- bedrock/op: SameValue. -/
import Derived.Test.YthicjpkomigacaaOpC
namespace Go.Proofs.Ythicjpkomigacaa
open Go.RowKit

structure ValD where
  there : Bool
  num : Nat
  int : Int
  text : ByteArray

def encW (v : ValD) : List Value := [.bool v.there, .float .f64 v.num, .int .i64 v.int, .string v.text]

def sameVD (a b : ValD) : Bool := (a.there == b.there) && (sameF a.num b.num && (decide (a.int = b.int) && (a.text.toList == b.text.toList)))

set_option maxHeartbeats 1600000 in
theorem sameValue_any (a b : ValD) (hx : a.num < 18446744073709551616) (hy : b.num < 18446744073709551616) (w : World) : Calls Try.prog 13 #[.agg (encW a).toArray, .agg (encW b).toArray] w fun e w' => e = .returned (.bool (sameVD a b)) ∧ Below w.heap.size w w' := by
  have hm := fun W => fsame_any a.num b.num hx hy W
  have hr := show sameVD a b = sameVD a b from rfl
  conv at hr => rhs; unfold sameVD
  generalize sameVD a b = r at hr ⊢
  obtain ⟨ka, na, ia, ta⟩ := a
  obtain ⟨kb, nb, ib, tb⟩ := b
  simp only [encW] at hr hm ⊢
  generalize sameF na nb = sb at hm hr
  have HM := Lib.hid hm; have HR := Lib.hid hr; clear hm hr hx hy
  by_cases k1 : ka = kb
  · have k1b : (ka == kb) = true := by simpa using k1
    cases sb with
    | false =>
      · go_enter Try.func13, Try.ntmps13
        go_wp2_with fail
        refine (HM.out _).mono ?_
        rintro e w1 ⟨rfl, hb1⟩
        have hlt1 : w.heap.size + 2 ≤ w1.heap.size := by have := hb1.size; simp at this; omega
        have hB1 : Hid (Below w.heap.size w w1) := Lib.hid ((((Below.refl _ _).alloc (by simp <;> omega) _).alloc (by simp <;> omega) _).trans (hb1.mono (by simp <;> omega)))
        have hc1_0 : ∀ o, w1.cell? ⟨w.heap.size, o, none⟩ = _ := fun o => hb1.cell (p := ⟨w.heap.size, o, none⟩) (by simp <;> omega)
        have hc1_1 : ∀ o, w1.cell? ⟨w.heap.size + 1, o, none⟩ = _ := fun o => hb1.cell (p := ⟨w.heap.size + 1, o, none⟩) (by simp <;> omega)
        clear hb1
        go_wp2
        go_ret
        exact ⟨by rw [HR.out]; simp [k1b], hB1.out⟩
    | true =>
      by_cases i1 : ia = ib
      · have i1b : (ia == ib) = true := by simpa using i1
        by_cases t1 : ta.toList = tb.toList
        · have t1b : (ta.toList == tb.toList) = true := by simpa using t1
          · go_enter Try.func13, Try.ntmps13
            go_wp2_with fail
            refine (HM.out _).mono ?_
            rintro e w1 ⟨rfl, hb1⟩
            have hlt1 : w.heap.size + 2 ≤ w1.heap.size := by have := hb1.size; simp at this; omega
            have hB1 : Hid (Below w.heap.size w w1) := Lib.hid ((((Below.refl _ _).alloc (by simp <;> omega) _).alloc (by simp <;> omega) _).trans (hb1.mono (by simp <;> omega)))
            have hc1_0 : ∀ o, w1.cell? ⟨w.heap.size, o, none⟩ = _ := fun o => hb1.cell (p := ⟨w.heap.size, o, none⟩) (by simp <;> omega)
            have hc1_1 : ∀ o, w1.cell? ⟨w.heap.size + 1, o, none⟩ = _ := fun o => hb1.cell (p := ⟨w.heap.size + 1, o, none⟩) (by simp <;> omega)
            clear hb1
            go_wp2
            go_ret
            exact ⟨by rw [HR.out]; first | (simp [k1b]; done) | (simp [k1b, i1]; done) | (simp [k1b, i1, t1b]; done), hB1.out⟩
        · have t1b : (ta.toList == tb.toList) = false := by simpa using t1
          · go_enter Try.func13, Try.ntmps13
            go_wp2_with fail
            refine (HM.out _).mono ?_
            rintro e w1 ⟨rfl, hb1⟩
            have hlt1 : w.heap.size + 2 ≤ w1.heap.size := by have := hb1.size; simp at this; omega
            have hB1 : Hid (Below w.heap.size w w1) := Lib.hid ((((Below.refl _ _).alloc (by simp <;> omega) _).alloc (by simp <;> omega) _).trans (hb1.mono (by simp <;> omega)))
            have hc1_0 : ∀ o, w1.cell? ⟨w.heap.size, o, none⟩ = _ := fun o => hb1.cell (p := ⟨w.heap.size, o, none⟩) (by simp <;> omega)
            have hc1_1 : ∀ o, w1.cell? ⟨w.heap.size + 1, o, none⟩ = _ := fun o => hb1.cell (p := ⟨w.heap.size + 1, o, none⟩) (by simp <;> omega)
            clear hb1
            go_wp2
            go_ret
            exact ⟨by rw [HR.out]; first | (simp [k1b]; done) | (simp [k1b, i1]; done) | (simp [k1b, i1, t1b]; done), hB1.out⟩
      · have i1b : (ia == ib) = false := by simpa using i1
        · go_enter Try.func13, Try.ntmps13
          go_wp2_with fail
          refine (HM.out _).mono ?_
          rintro e w1 ⟨rfl, hb1⟩
          have hlt1 : w.heap.size + 2 ≤ w1.heap.size := by have := hb1.size; simp at this; omega
          have hB1 : Hid (Below w.heap.size w w1) := Lib.hid ((((Below.refl _ _).alloc (by simp <;> omega) _).alloc (by simp <;> omega) _).trans (hb1.mono (by simp <;> omega)))
          have hc1_0 : ∀ o, w1.cell? ⟨w.heap.size, o, none⟩ = _ := fun o => hb1.cell (p := ⟨w.heap.size, o, none⟩) (by simp <;> omega)
          have hc1_1 : ∀ o, w1.cell? ⟨w.heap.size + 1, o, none⟩ = _ := fun o => hb1.cell (p := ⟨w.heap.size + 1, o, none⟩) (by simp <;> omega)
          clear hb1
          go_wp2
          go_ret
          exact ⟨by rw [HR.out]; first | (simp [k1b]; done) | (simp [k1b, i1]; done), hB1.out⟩
  · have k1b : (ka == kb) = false := by simpa using k1
    · go_enter Try.func13, Try.ntmps13
      go_wp2
      go_ret
      exact ⟨by rw [HR.out]; simp [k1b], (((Below.refl _ _).alloc (by simp <;> omega) _).alloc (by simp <;> omega) _)⟩

end Go.Proofs.Ythicjpkomigacaa
