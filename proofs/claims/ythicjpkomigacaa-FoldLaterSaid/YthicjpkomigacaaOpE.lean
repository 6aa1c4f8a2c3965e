/- bedrock/op: Both, After. -/
import Derived.Test.YthicjpkomigacaaOpD
namespace Go.Proofs.Ythicjpkomigacaa
open Go.RowKit

def bothD (k : ByteArray) (a b : ActD) : ActD := if regK k || (!fitsD k a || !fitsD k b) then b else joinD a b

set_option maxHeartbeats 1600000 in
theorem both_any (k : ByteArray) (a b : ActD) (hx : a.num < 18446744073709551616) (hy : b.num < 18446744073709551616) (w : World) : Calls Try.prog 45 #[.string k, .agg (encA a).toArray, .agg (encA b).toArray] w fun e w' => e = .returned (.agg (encA (bothD k a b)).toArray) ∧ Below w.heap.size w w' := by
  have hsf := run_store_float Try.prog
  have hg := fun W => registers_any k W
  have ha := fun W => fits_any k a hx W
  have hb := fun W => fits_any k b hy W
  have hj := fun W => joined_any a b hx hy W
  have hr := show bothD k a b = bothD k a b from rfl
  conv at hr => rhs; unfold bothD
  generalize bothD k a b = r at hr ⊢
  generalize regK k = rk at hg hr
  generalize fitsD k a = fa at ha hr
  generalize fitsD k b = fb at hb hr
  generalize joinD a b = j at hj hr
  obtain ⟨ka, na, ia, ta⟩ := a
  obtain ⟨kb, nb, ib, tb⟩ := b
  obtain ⟨kr, nr, ir, tr⟩ := r
  obtain ⟨kj, nj, ij, tj⟩ := j
  simp only [encA] at hr ha hb hj ⊢
  have HG := Lib.hid hg; have HFA := Lib.hid ha; have HFB := Lib.hid hb; have HJ := Lib.hid hj; have HR := Lib.hid hr; clear hg ha hb hj hr hx hy
  cases rk with
  | true =>
    · go_enter Try.func45, Try.ntmps45
      go_wp2_with fail
      refine (HG.out _).mono ?_
      rintro e w' ⟨rfl, rfl⟩
      go_wp2
      refine bodyPost_ret (v := .agg #[.int .i64 kb, .float .f64 nb, .int .i64 ib, .string tb]) (by simp [results, Try.results45, go_sem]) rfl ?_
      exact ⟨by have h := HR.out; simp at h; simp [h], ((((Below.refl _ _).alloc (by simp <;> omega) _).alloc (by simp <;> omega) _).alloc (by simp <;> omega) _)⟩
  | false =>
    cases fa with
    | false =>
      · go_enter Try.func45, Try.ntmps45
        go_wp2_with fail
        refine (HG.out _).mono ?_
        rintro e w' ⟨rfl, rfl⟩
        go_wp2_with fail
        refine (HFA.out _).mono ?_
        rintro e w1 ⟨rfl, hb1⟩
        have hlt1 : w.heap.size + 3 ≤ w1.heap.size := by have := hb1.size; simp at this; omega
        have hB1 : Hid (Below w.heap.size w w1) := Lib.hid (((((Below.refl _ _).alloc (by simp <;> omega) _).alloc (by simp <;> omega) _).alloc (by simp <;> omega) _).trans (hb1.mono (by simp <;> omega)))
        have hc1_0 : ∀ o, w1.cell? ⟨w.heap.size, o, none⟩ = _ := fun o => hb1.cell (p := ⟨w.heap.size, o, none⟩) (by simp <;> omega)
        have hz1_0 : ∀ o, w1.frozen? ⟨w.heap.size, o, none⟩ = _ := fun o => hb1.frozen (p := ⟨w.heap.size, o, none⟩) (by simp <;> omega)
        have hc1_1 : ∀ o, w1.cell? ⟨w.heap.size + 1, o, none⟩ = _ := fun o => hb1.cell (p := ⟨w.heap.size + 1, o, none⟩) (by simp <;> omega)
        have hz1_1 : ∀ o, w1.frozen? ⟨w.heap.size + 1, o, none⟩ = _ := fun o => hb1.frozen (p := ⟨w.heap.size + 1, o, none⟩) (by simp <;> omega)
        have hc1_2 : ∀ o, w1.cell? ⟨w.heap.size + 1 + 1, o, none⟩ = _ := fun o => hb1.cell (p := ⟨w.heap.size + 1 + 1, o, none⟩) (by simp <;> omega)
        have hz1_2 : ∀ o, w1.frozen? ⟨w.heap.size + 1 + 1, o, none⟩ = _ := fun o => hb1.frozen (p := ⟨w.heap.size + 1 + 1, o, none⟩) (by simp <;> omega)
        clear hb1
        go_wp2
        refine bodyPost_ret (v := .agg #[.int .i64 kb, .float .f64 nb, .int .i64 ib, .string tb]) (by simp [results, Try.results45, go_sem, hc1_2]) rfl ?_
        exact ⟨by have h := HR.out; simp at h; simp [h], ((((hB1.out.setCell (p := ⟨w.heap.size + 1 + 1, 0, none⟩) (by simp <;> omega) _).setCell (p := ⟨w.heap.size + 1 + 1, 1, none⟩) (by simp <;> omega) _).setCell (p := ⟨w.heap.size + 1 + 1, 2, none⟩) (by simp <;> omega) _).setCell (p := ⟨w.heap.size + 1 + 1, 3, none⟩) (by simp <;> omega) _)⟩
    | true =>
      cases fb with
      | false =>
        · go_enter Try.func45, Try.ntmps45
          go_wp2_with fail
          refine (HG.out _).mono ?_
          rintro e w' ⟨rfl, rfl⟩
          go_wp2_with fail
          refine (HFA.out _).mono ?_
          rintro e w1 ⟨rfl, hb1⟩
          have hlt1 : w.heap.size + 3 ≤ w1.heap.size := by have := hb1.size; simp at this; omega
          have hB1 : Hid (Below w.heap.size w w1) := Lib.hid (((((Below.refl _ _).alloc (by simp <;> omega) _).alloc (by simp <;> omega) _).alloc (by simp <;> omega) _).trans (hb1.mono (by simp <;> omega)))
          have hc1_0 : ∀ o, w1.cell? ⟨w.heap.size, o, none⟩ = _ := fun o => hb1.cell (p := ⟨w.heap.size, o, none⟩) (by simp <;> omega)
          have hz1_0 : ∀ o, w1.frozen? ⟨w.heap.size, o, none⟩ = _ := fun o => hb1.frozen (p := ⟨w.heap.size, o, none⟩) (by simp <;> omega)
          have hc1_1 : ∀ o, w1.cell? ⟨w.heap.size + 1, o, none⟩ = _ := fun o => hb1.cell (p := ⟨w.heap.size + 1, o, none⟩) (by simp <;> omega)
          have hz1_1 : ∀ o, w1.frozen? ⟨w.heap.size + 1, o, none⟩ = _ := fun o => hb1.frozen (p := ⟨w.heap.size + 1, o, none⟩) (by simp <;> omega)
          have hc1_2 : ∀ o, w1.cell? ⟨w.heap.size + 1 + 1, o, none⟩ = _ := fun o => hb1.cell (p := ⟨w.heap.size + 1 + 1, o, none⟩) (by simp <;> omega)
          have hz1_2 : ∀ o, w1.frozen? ⟨w.heap.size + 1 + 1, o, none⟩ = _ := fun o => hb1.frozen (p := ⟨w.heap.size + 1 + 1, o, none⟩) (by simp <;> omega)
          clear hb1
          go_wp2_with fail
          refine (HFB.out _).mono ?_
          rintro e w2 ⟨rfl, hb2⟩
          have hlt2 : w.heap.size + 3 ≤ w2.heap.size := Nat.le_trans hlt1 hb2.size
          have hB2 : Hid (Below w.heap.size w w2) := Lib.hid (hB1.out.trans (hb2.mono (by omega)))
          have hc2_0 : ∀ o, w2.cell? ⟨w.heap.size, o, none⟩ = _ := fun o => hb2.cell (p := ⟨w.heap.size, o, none⟩) (by first | (show w.heap.size < _; omega) | (simp <;> omega))
          have hz2_0 : ∀ o, w2.frozen? ⟨w.heap.size, o, none⟩ = _ := fun o => hb2.frozen (p := ⟨w.heap.size, o, none⟩) (by first | (show w.heap.size < _; omega) | (simp <;> omega))
          have hc2_1 : ∀ o, w2.cell? ⟨w.heap.size + 1, o, none⟩ = _ := fun o => hb2.cell (p := ⟨w.heap.size + 1, o, none⟩) (by first | (show w.heap.size + 1 < _; omega) | (simp <;> omega))
          have hz2_1 : ∀ o, w2.frozen? ⟨w.heap.size + 1, o, none⟩ = _ := fun o => hb2.frozen (p := ⟨w.heap.size + 1, o, none⟩) (by first | (show w.heap.size + 1 < _; omega) | (simp <;> omega))
          have hc2_2 : ∀ o, w2.cell? ⟨w.heap.size + 1 + 1, o, none⟩ = _ := fun o => hb2.cell (p := ⟨w.heap.size + 1 + 1, o, none⟩) (by first | (show w.heap.size + 1 + 1 < _; omega) | (simp <;> omega))
          have hz2_2 : ∀ o, w2.frozen? ⟨w.heap.size + 1 + 1, o, none⟩ = _ := fun o => hb2.frozen (p := ⟨w.heap.size + 1 + 1, o, none⟩) (by first | (show w.heap.size + 1 + 1 < _; omega) | (simp <;> omega))
          clear hb2
          go_wp2
          refine bodyPost_ret (v := .agg #[.int .i64 kb, .float .f64 nb, .int .i64 ib, .string tb]) (by simp [results, Try.results45, go_sem, hc1_2, hc2_2]) rfl ?_
          exact ⟨by have h := HR.out; simp at h; simp [h], ((((hB2.out.setCell (p := ⟨w.heap.size + 1 + 1, 0, none⟩) (by simp <;> omega) _).setCell (p := ⟨w.heap.size + 1 + 1, 1, none⟩) (by simp <;> omega) _).setCell (p := ⟨w.heap.size + 1 + 1, 2, none⟩) (by simp <;> omega) _).setCell (p := ⟨w.heap.size + 1 + 1, 3, none⟩) (by simp <;> omega) _)⟩
      | true =>
        · go_enter Try.func45, Try.ntmps45
          go_wp2_with fail
          refine (HG.out _).mono ?_
          rintro e w' ⟨rfl, rfl⟩
          go_wp2_with fail
          refine (HFA.out _).mono ?_
          rintro e w1 ⟨rfl, hb1⟩
          have hlt1 : w.heap.size + 3 ≤ w1.heap.size := by have := hb1.size; simp at this; omega
          have hB1 : Hid (Below w.heap.size w w1) := Lib.hid (((((Below.refl _ _).alloc (by simp <;> omega) _).alloc (by simp <;> omega) _).alloc (by simp <;> omega) _).trans (hb1.mono (by simp <;> omega)))
          have hc1_0 : ∀ o, w1.cell? ⟨w.heap.size, o, none⟩ = _ := fun o => hb1.cell (p := ⟨w.heap.size, o, none⟩) (by simp <;> omega)
          have hz1_0 : ∀ o, w1.frozen? ⟨w.heap.size, o, none⟩ = _ := fun o => hb1.frozen (p := ⟨w.heap.size, o, none⟩) (by simp <;> omega)
          have hc1_1 : ∀ o, w1.cell? ⟨w.heap.size + 1, o, none⟩ = _ := fun o => hb1.cell (p := ⟨w.heap.size + 1, o, none⟩) (by simp <;> omega)
          have hz1_1 : ∀ o, w1.frozen? ⟨w.heap.size + 1, o, none⟩ = _ := fun o => hb1.frozen (p := ⟨w.heap.size + 1, o, none⟩) (by simp <;> omega)
          have hc1_2 : ∀ o, w1.cell? ⟨w.heap.size + 1 + 1, o, none⟩ = _ := fun o => hb1.cell (p := ⟨w.heap.size + 1 + 1, o, none⟩) (by simp <;> omega)
          have hz1_2 : ∀ o, w1.frozen? ⟨w.heap.size + 1 + 1, o, none⟩ = _ := fun o => hb1.frozen (p := ⟨w.heap.size + 1 + 1, o, none⟩) (by simp <;> omega)
          clear hb1
          go_wp2_with fail
          refine (HFB.out _).mono ?_
          rintro e w2 ⟨rfl, hb2⟩
          have hlt2 : w.heap.size + 3 ≤ w2.heap.size := Nat.le_trans hlt1 hb2.size
          have hB2 : Hid (Below w.heap.size w w2) := Lib.hid (hB1.out.trans (hb2.mono (by omega)))
          have hc2_0 : ∀ o, w2.cell? ⟨w.heap.size, o, none⟩ = _ := fun o => hb2.cell (p := ⟨w.heap.size, o, none⟩) (by first | (show w.heap.size < _; omega) | (simp <;> omega))
          have hz2_0 : ∀ o, w2.frozen? ⟨w.heap.size, o, none⟩ = _ := fun o => hb2.frozen (p := ⟨w.heap.size, o, none⟩) (by first | (show w.heap.size < _; omega) | (simp <;> omega))
          have hc2_1 : ∀ o, w2.cell? ⟨w.heap.size + 1, o, none⟩ = _ := fun o => hb2.cell (p := ⟨w.heap.size + 1, o, none⟩) (by first | (show w.heap.size + 1 < _; omega) | (simp <;> omega))
          have hz2_1 : ∀ o, w2.frozen? ⟨w.heap.size + 1, o, none⟩ = _ := fun o => hb2.frozen (p := ⟨w.heap.size + 1, o, none⟩) (by first | (show w.heap.size + 1 < _; omega) | (simp <;> omega))
          have hc2_2 : ∀ o, w2.cell? ⟨w.heap.size + 1 + 1, o, none⟩ = _ := fun o => hb2.cell (p := ⟨w.heap.size + 1 + 1, o, none⟩) (by first | (show w.heap.size + 1 + 1 < _; omega) | (simp <;> omega))
          have hz2_2 : ∀ o, w2.frozen? ⟨w.heap.size + 1 + 1, o, none⟩ = _ := fun o => hb2.frozen (p := ⟨w.heap.size + 1 + 1, o, none⟩) (by first | (show w.heap.size + 1 + 1 < _; omega) | (simp <;> omega))
          clear hb2
          go_wp2_with fail
          refine (HJ.out _).mono ?_
          rintro e w3 ⟨rfl, hb3⟩
          have hlt3 : w.heap.size + 3 ≤ w3.heap.size := Nat.le_trans hlt2 hb3.size
          have hB3 : Hid (Below w.heap.size w w3) := Lib.hid (hB2.out.trans (hb3.mono (by omega)))
          have hc3_0 : ∀ o, w3.cell? ⟨w.heap.size, o, none⟩ = _ := fun o => hb3.cell (p := ⟨w.heap.size, o, none⟩) (by first | (show w.heap.size < _; omega) | (simp <;> omega))
          have hz3_0 : ∀ o, w3.frozen? ⟨w.heap.size, o, none⟩ = _ := fun o => hb3.frozen (p := ⟨w.heap.size, o, none⟩) (by first | (show w.heap.size < _; omega) | (simp <;> omega))
          have hc3_1 : ∀ o, w3.cell? ⟨w.heap.size + 1, o, none⟩ = _ := fun o => hb3.cell (p := ⟨w.heap.size + 1, o, none⟩) (by first | (show w.heap.size + 1 < _; omega) | (simp <;> omega))
          have hz3_1 : ∀ o, w3.frozen? ⟨w.heap.size + 1, o, none⟩ = _ := fun o => hb3.frozen (p := ⟨w.heap.size + 1, o, none⟩) (by first | (show w.heap.size + 1 < _; omega) | (simp <;> omega))
          have hc3_2 : ∀ o, w3.cell? ⟨w.heap.size + 1 + 1, o, none⟩ = _ := fun o => hb3.cell (p := ⟨w.heap.size + 1 + 1, o, none⟩) (by first | (show w.heap.size + 1 + 1 < _; omega) | (simp <;> omega))
          have hz3_2 : ∀ o, w3.frozen? ⟨w.heap.size + 1 + 1, o, none⟩ = _ := fun o => hb3.frozen (p := ⟨w.heap.size + 1 + 1, o, none⟩) (by first | (show w.heap.size + 1 + 1 < _; omega) | (simp <;> omega))
          clear hb3
          go_wp2
          refine bodyPost_ret (v := .agg #[.int .i64 kj, .float .f64 nj, .int .i64 ij, .string tj]) (by simp [results, Try.results45, go_sem, hc1_2, hc2_2, hc3_2]) rfl ?_
          exact ⟨by have h := HR.out; simp at h; simp [h], ((((hB3.out.setCell (p := ⟨w.heap.size + 1 + 1, 0, none⟩) (by simp <;> omega) _).setCell (p := ⟨w.heap.size + 1 + 1, 1, none⟩) (by simp <;> omega) _).setCell (p := ⟨w.heap.size + 1 + 1, 2, none⟩) (by simp <;> omega) _).setCell (p := ⟨w.heap.size + 1 + 1, 3, none⟩) (by simp <;> omega) _)⟩

def afterD (k : ByteArray) (v : ValD) (a : ActD) : ValD :=
  if fitsD k a then
    (let a' := if v.there && !regK k then joinD ⟨a.kind, v.num, v.int, ByteArray.empty⟩ a else a
     if a'.kind = 4 then ⟨false, 0, 0, ByteArray.empty⟩ else ⟨true, a'.num, a'.int, a'.text⟩)
  else v

set_option maxHeartbeats 6400000 in
theorem after_any (k : ByteArray) (v : ValD) (a : ActD) (hx : v.num < 18446744073709551616) (hy : a.num < 18446744073709551616) (w : World) : Calls Try.prog 48 #[.string k, .agg (encW v).toArray, .agg (encA a).toArray] w fun e w' => e = .returned (.agg (encW (afterD k v a)).toArray) ∧ Below w.heap.size w w' := by
  have hsf := run_store_float Try.prog
  have hg := fun W => registers_any k W
  have ha := fun W => fits_any k a hy W
  have hj := fun W => joined_any ⟨a.kind, v.num, v.int, ByteArray.empty⟩ a hx hy W
  have hr := show afterD k v a = afterD k v a from rfl
  conv at hr => rhs; unfold afterD
  dsimp only at hr
  generalize afterD k v a = r at hr ⊢
  generalize regK k = rk at hg hr
  generalize fitsD k a = fa at ha hr
  generalize joinD ⟨a.kind, v.num, v.int, ByteArray.empty⟩ a = j at hj hr
  obtain ⟨ka, na, ia, ta⟩ := a
  obtain ⟨th, nv, iv, tv⟩ := v
  obtain ⟨tr, nr, ir, sr⟩ := r
  obtain ⟨kj, nj, ij, tj⟩ := j
  simp only [encA, encW] at hr ha hj ⊢
  have HG := Lib.hid hg; have HFA := Lib.hid ha; have HJ := Lib.hid hj; have HR := Lib.hid hr; clear hg ha hj hr hx hy
  cases fa with
  | false =>
    · go_enter Try.func48, Try.ntmps48
      go_wp2_with fail
      refine (HFA.out _).mono ?_
      rintro e w1 ⟨rfl, hb1⟩
      have hlt1 : w.heap.size + 3 ≤ w1.heap.size := by have := hb1.size; simp at this; omega
      have hB1 : Hid (Below w.heap.size w w1) := Lib.hid (((((Below.refl _ _).alloc (by simp <;> omega) _).alloc (by simp <;> omega) _).alloc (by simp <;> omega) _).trans (hb1.mono (by simp <;> omega)))
      have hc1_0 : ∀ o, w1.cell? ⟨w.heap.size, o, none⟩ = _ := fun o => hb1.cell (p := ⟨w.heap.size, o, none⟩) (by simp <;> omega)
      have hz1_0 : ∀ o, w1.frozen? ⟨w.heap.size, o, none⟩ = _ := fun o => hb1.frozen (p := ⟨w.heap.size, o, none⟩) (by simp <;> omega)
      have hc1_1 : ∀ o, w1.cell? ⟨w.heap.size + 1, o, none⟩ = _ := fun o => hb1.cell (p := ⟨w.heap.size + 1, o, none⟩) (by simp <;> omega)
      have hz1_1 : ∀ o, w1.frozen? ⟨w.heap.size + 1, o, none⟩ = _ := fun o => hb1.frozen (p := ⟨w.heap.size + 1, o, none⟩) (by simp <;> omega)
      have hc1_2 : ∀ o, w1.cell? ⟨w.heap.size + 1 + 1, o, none⟩ = _ := fun o => hb1.cell (p := ⟨w.heap.size + 1 + 1, o, none⟩) (by simp <;> omega)
      have hz1_2 : ∀ o, w1.frozen? ⟨w.heap.size + 1 + 1, o, none⟩ = _ := fun o => hb1.frozen (p := ⟨w.heap.size + 1 + 1, o, none⟩) (by simp <;> omega)
      clear hb1
      go_wp2
      refine bodyPost_ret (v := .agg #[.bool th, .float .f64 nv, .int .i64 iv, .string tv]) (by simp [results, Try.results48, go_sem, hc1_2]) rfl ?_
      exact ⟨by have h := HR.out; simp at h; first | (simp [h]; done) | (simp [h]; rfl), ((((hB1.out.setCell (p := ⟨w.heap.size + 1 + 1, 0, none⟩) (by simp <;> omega) _).setCell (p := ⟨w.heap.size + 1 + 1, 1, none⟩) (by simp <;> omega) _).setCell (p := ⟨w.heap.size + 1 + 1, 2, none⟩) (by simp <;> omega) _).setCell (p := ⟨w.heap.size + 1 + 1, 3, none⟩) (by simp <;> omega) _)⟩
  | true =>
    cases th with
    | false =>
      by_cases k4 : ka = 4
      · subst k4
        · go_enter Try.func48, Try.ntmps48
          go_wp2_with fail
          refine (HFA.out _).mono ?_
          rintro e w1 ⟨rfl, hb1⟩
          have hlt1 : w.heap.size + 3 ≤ w1.heap.size := by have := hb1.size; simp at this; omega
          have hB1 : Hid (Below w.heap.size w w1) := Lib.hid (((((Below.refl _ _).alloc (by simp <;> omega) _).alloc (by simp <;> omega) _).alloc (by simp <;> omega) _).trans (hb1.mono (by simp <;> omega)))
          have hc1_0 : ∀ o, w1.cell? ⟨w.heap.size, o, none⟩ = _ := fun o => hb1.cell (p := ⟨w.heap.size, o, none⟩) (by simp <;> omega)
          have hz1_0 : ∀ o, w1.frozen? ⟨w.heap.size, o, none⟩ = _ := fun o => hb1.frozen (p := ⟨w.heap.size, o, none⟩) (by simp <;> omega)
          have hc1_1 : ∀ o, w1.cell? ⟨w.heap.size + 1, o, none⟩ = _ := fun o => hb1.cell (p := ⟨w.heap.size + 1, o, none⟩) (by simp <;> omega)
          have hz1_1 : ∀ o, w1.frozen? ⟨w.heap.size + 1, o, none⟩ = _ := fun o => hb1.frozen (p := ⟨w.heap.size + 1, o, none⟩) (by simp <;> omega)
          have hc1_2 : ∀ o, w1.cell? ⟨w.heap.size + 1 + 1, o, none⟩ = _ := fun o => hb1.cell (p := ⟨w.heap.size + 1 + 1, o, none⟩) (by simp <;> omega)
          have hz1_2 : ∀ o, w1.frozen? ⟨w.heap.size + 1 + 1, o, none⟩ = _ := fun o => hb1.frozen (p := ⟨w.heap.size + 1 + 1, o, none⟩) (by simp <;> omega)
          clear hb1
          go_wp2
          refine bodyPost_ret (v := .agg #[.bool false, .float .f64 0, .int .i64 0, .string ⟨#[]⟩]) (by simp [results, Try.results48, go_sem, hc1_2]) rfl ?_
          exact ⟨by have h := HR.out; simp at h; first | (simp [h]; done) | (simp [h]; rfl), ((((hB1.out.setCell (p := ⟨w.heap.size + 1 + 1, 0, none⟩) (by simp <;> omega) _).setCell (p := ⟨w.heap.size + 1 + 1, 1, none⟩) (by simp <;> omega) _).setCell (p := ⟨w.heap.size + 1 + 1, 2, none⟩) (by simp <;> omega) _).setCell (p := ⟨w.heap.size + 1 + 1, 3, none⟩) (by simp <;> omega) _)⟩
      · go_enter Try.func48, Try.ntmps48
        go_wp2_with fail
        refine (HFA.out _).mono ?_
        rintro e w1 ⟨rfl, hb1⟩
        have hlt1 : w.heap.size + 3 ≤ w1.heap.size := by have := hb1.size; simp at this; omega
        have hB1 : Hid (Below w.heap.size w w1) := Lib.hid (((((Below.refl _ _).alloc (by simp <;> omega) _).alloc (by simp <;> omega) _).alloc (by simp <;> omega) _).trans (hb1.mono (by simp <;> omega)))
        have hc1_0 : ∀ o, w1.cell? ⟨w.heap.size, o, none⟩ = _ := fun o => hb1.cell (p := ⟨w.heap.size, o, none⟩) (by simp <;> omega)
        have hz1_0 : ∀ o, w1.frozen? ⟨w.heap.size, o, none⟩ = _ := fun o => hb1.frozen (p := ⟨w.heap.size, o, none⟩) (by simp <;> omega)
        have hc1_1 : ∀ o, w1.cell? ⟨w.heap.size + 1, o, none⟩ = _ := fun o => hb1.cell (p := ⟨w.heap.size + 1, o, none⟩) (by simp <;> omega)
        have hz1_1 : ∀ o, w1.frozen? ⟨w.heap.size + 1, o, none⟩ = _ := fun o => hb1.frozen (p := ⟨w.heap.size + 1, o, none⟩) (by simp <;> omega)
        have hc1_2 : ∀ o, w1.cell? ⟨w.heap.size + 1 + 1, o, none⟩ = _ := fun o => hb1.cell (p := ⟨w.heap.size + 1 + 1, o, none⟩) (by simp <;> omega)
        have hz1_2 : ∀ o, w1.frozen? ⟨w.heap.size + 1 + 1, o, none⟩ = _ := fun o => hb1.frozen (p := ⟨w.heap.size + 1 + 1, o, none⟩) (by simp <;> omega)
        clear hb1
        go_wp2
        refine bodyPost_ret (v := .agg #[.bool true, .float .f64 na, .int .i64 ia, .string ta]) (by simp [results, Try.results48, go_sem, hc1_2]) rfl ?_
        exact ⟨by have h := HR.out; simp [k4] at h; first | (simp [h]; done) | (simp [h]; rfl), ((((hB1.out.setCell (p := ⟨w.heap.size + 1 + 1, 0, none⟩) (by simp <;> omega) _).setCell (p := ⟨w.heap.size + 1 + 1, 1, none⟩) (by simp <;> omega) _).setCell (p := ⟨w.heap.size + 1 + 1, 2, none⟩) (by simp <;> omega) _).setCell (p := ⟨w.heap.size + 1 + 1, 3, none⟩) (by simp <;> omega) _)⟩
    | true =>
      cases rk with
      | true =>
        by_cases k4 : ka = 4
        · subst k4
          · go_enter Try.func48, Try.ntmps48
            go_wp2_with fail
            refine (HFA.out _).mono ?_
            rintro e w1 ⟨rfl, hb1⟩
            have hlt1 : w.heap.size + 3 ≤ w1.heap.size := by have := hb1.size; simp at this; omega
            have hB1 : Hid (Below w.heap.size w w1) := Lib.hid (((((Below.refl _ _).alloc (by simp <;> omega) _).alloc (by simp <;> omega) _).alloc (by simp <;> omega) _).trans (hb1.mono (by simp <;> omega)))
            have hc1_0 : ∀ o, w1.cell? ⟨w.heap.size, o, none⟩ = _ := fun o => hb1.cell (p := ⟨w.heap.size, o, none⟩) (by simp <;> omega)
            have hz1_0 : ∀ o, w1.frozen? ⟨w.heap.size, o, none⟩ = _ := fun o => hb1.frozen (p := ⟨w.heap.size, o, none⟩) (by simp <;> omega)
            have hc1_1 : ∀ o, w1.cell? ⟨w.heap.size + 1, o, none⟩ = _ := fun o => hb1.cell (p := ⟨w.heap.size + 1, o, none⟩) (by simp <;> omega)
            have hz1_1 : ∀ o, w1.frozen? ⟨w.heap.size + 1, o, none⟩ = _ := fun o => hb1.frozen (p := ⟨w.heap.size + 1, o, none⟩) (by simp <;> omega)
            have hc1_2 : ∀ o, w1.cell? ⟨w.heap.size + 1 + 1, o, none⟩ = _ := fun o => hb1.cell (p := ⟨w.heap.size + 1 + 1, o, none⟩) (by simp <;> omega)
            have hz1_2 : ∀ o, w1.frozen? ⟨w.heap.size + 1 + 1, o, none⟩ = _ := fun o => hb1.frozen (p := ⟨w.heap.size + 1 + 1, o, none⟩) (by simp <;> omega)
            clear hb1
            go_wp2_with fail
            refine (HG.out _).mono ?_
            rintro e w' ⟨rfl, rfl⟩
            go_wp2
            refine bodyPost_ret (v := .agg #[.bool false, .float .f64 0, .int .i64 0, .string ⟨#[]⟩]) (by simp [results, Try.results48, go_sem, hc1_2]) rfl ?_
            exact ⟨by have h := HR.out; simp at h; first | (simp [h]; done) | (simp [h]; rfl), ((((hB1.out.setCell (p := ⟨w.heap.size + 1 + 1, 0, none⟩) (by simp <;> omega) _).setCell (p := ⟨w.heap.size + 1 + 1, 1, none⟩) (by simp <;> omega) _).setCell (p := ⟨w.heap.size + 1 + 1, 2, none⟩) (by simp <;> omega) _).setCell (p := ⟨w.heap.size + 1 + 1, 3, none⟩) (by simp <;> omega) _)⟩
        · go_enter Try.func48, Try.ntmps48
          go_wp2_with fail
          refine (HFA.out _).mono ?_
          rintro e w1 ⟨rfl, hb1⟩
          have hlt1 : w.heap.size + 3 ≤ w1.heap.size := by have := hb1.size; simp at this; omega
          have hB1 : Hid (Below w.heap.size w w1) := Lib.hid (((((Below.refl _ _).alloc (by simp <;> omega) _).alloc (by simp <;> omega) _).alloc (by simp <;> omega) _).trans (hb1.mono (by simp <;> omega)))
          have hc1_0 : ∀ o, w1.cell? ⟨w.heap.size, o, none⟩ = _ := fun o => hb1.cell (p := ⟨w.heap.size, o, none⟩) (by simp <;> omega)
          have hz1_0 : ∀ o, w1.frozen? ⟨w.heap.size, o, none⟩ = _ := fun o => hb1.frozen (p := ⟨w.heap.size, o, none⟩) (by simp <;> omega)
          have hc1_1 : ∀ o, w1.cell? ⟨w.heap.size + 1, o, none⟩ = _ := fun o => hb1.cell (p := ⟨w.heap.size + 1, o, none⟩) (by simp <;> omega)
          have hz1_1 : ∀ o, w1.frozen? ⟨w.heap.size + 1, o, none⟩ = _ := fun o => hb1.frozen (p := ⟨w.heap.size + 1, o, none⟩) (by simp <;> omega)
          have hc1_2 : ∀ o, w1.cell? ⟨w.heap.size + 1 + 1, o, none⟩ = _ := fun o => hb1.cell (p := ⟨w.heap.size + 1 + 1, o, none⟩) (by simp <;> omega)
          have hz1_2 : ∀ o, w1.frozen? ⟨w.heap.size + 1 + 1, o, none⟩ = _ := fun o => hb1.frozen (p := ⟨w.heap.size + 1 + 1, o, none⟩) (by simp <;> omega)
          clear hb1
          go_wp2_with fail
          refine (HG.out _).mono ?_
          rintro e w' ⟨rfl, rfl⟩
          go_wp2
          refine bodyPost_ret (v := .agg #[.bool true, .float .f64 na, .int .i64 ia, .string ta]) (by simp [results, Try.results48, go_sem, hc1_2]) rfl ?_
          exact ⟨by have h := HR.out; simp [k4] at h; first | (simp [h]; done) | (simp [h]; rfl), ((((hB1.out.setCell (p := ⟨w.heap.size + 1 + 1, 0, none⟩) (by simp <;> omega) _).setCell (p := ⟨w.heap.size + 1 + 1, 1, none⟩) (by simp <;> omega) _).setCell (p := ⟨w.heap.size + 1 + 1, 2, none⟩) (by simp <;> omega) _).setCell (p := ⟨w.heap.size + 1 + 1, 3, none⟩) (by simp <;> omega) _)⟩
      | false =>
        by_cases k4 : kj = 4
        · subst k4
          · go_enter Try.func48, Try.ntmps48
            go_wp2_with fail
            refine (HFA.out _).mono ?_
            rintro e w1 ⟨rfl, hb1⟩
            have hlt1 : w.heap.size + 3 ≤ w1.heap.size := by have := hb1.size; simp at this; omega
            have hB1 : Hid (Below w.heap.size w w1) := Lib.hid (((((Below.refl _ _).alloc (by simp <;> omega) _).alloc (by simp <;> omega) _).alloc (by simp <;> omega) _).trans (hb1.mono (by simp <;> omega)))
            have hc1_0 : ∀ o, w1.cell? ⟨w.heap.size, o, none⟩ = _ := fun o => hb1.cell (p := ⟨w.heap.size, o, none⟩) (by simp <;> omega)
            have hz1_0 : ∀ o, w1.frozen? ⟨w.heap.size, o, none⟩ = _ := fun o => hb1.frozen (p := ⟨w.heap.size, o, none⟩) (by simp <;> omega)
            have hc1_1 : ∀ o, w1.cell? ⟨w.heap.size + 1, o, none⟩ = _ := fun o => hb1.cell (p := ⟨w.heap.size + 1, o, none⟩) (by simp <;> omega)
            have hz1_1 : ∀ o, w1.frozen? ⟨w.heap.size + 1, o, none⟩ = _ := fun o => hb1.frozen (p := ⟨w.heap.size + 1, o, none⟩) (by simp <;> omega)
            have hc1_2 : ∀ o, w1.cell? ⟨w.heap.size + 1 + 1, o, none⟩ = _ := fun o => hb1.cell (p := ⟨w.heap.size + 1 + 1, o, none⟩) (by simp <;> omega)
            have hz1_2 : ∀ o, w1.frozen? ⟨w.heap.size + 1 + 1, o, none⟩ = _ := fun o => hb1.frozen (p := ⟨w.heap.size + 1 + 1, o, none⟩) (by simp <;> omega)
            clear hb1
            have ha1_0 : ∀ (q : Obj) (o : Nat), (w1.alloc q).cell? ⟨w.heap.size, o, none⟩ = w1.cell? ⟨w.heap.size, o, none⟩ := fun q o => World.cell?_alloc_lt w1 q _ (show w.heap.size < _ by omega)
            have hy1_0 : ∀ (q : Obj) (o : Nat), (w1.alloc q).frozen? ⟨w.heap.size, o, none⟩ = w1.frozen? ⟨w.heap.size, o, none⟩ := fun q o => World.frozen?_of_block (w := w1) (Below.heap_alloc w1 q _ (show w.heap.size < _ by omega))
            have ha1_1 : ∀ (q : Obj) (o : Nat), (w1.alloc q).cell? ⟨w.heap.size + 1, o, none⟩ = w1.cell? ⟨w.heap.size + 1, o, none⟩ := fun q o => World.cell?_alloc_lt w1 q _ (show w.heap.size + 1 < _ by omega)
            have hy1_1 : ∀ (q : Obj) (o : Nat), (w1.alloc q).frozen? ⟨w.heap.size + 1, o, none⟩ = w1.frozen? ⟨w.heap.size + 1, o, none⟩ := fun q o => World.frozen?_of_block (w := w1) (Below.heap_alloc w1 q _ (show w.heap.size + 1 < _ by omega))
            have ha1_2 : ∀ (q : Obj) (o : Nat), (w1.alloc q).cell? ⟨w.heap.size + 1 + 1, o, none⟩ = w1.cell? ⟨w.heap.size + 1 + 1, o, none⟩ := fun q o => World.cell?_alloc_lt w1 q _ (show w.heap.size + 1 + 1 < _ by omega)
            have hy1_2 : ∀ (q : Obj) (o : Nat), (w1.alloc q).frozen? ⟨w.heap.size + 1 + 1, o, none⟩ = w1.frozen? ⟨w.heap.size + 1 + 1, o, none⟩ := fun q o => World.frozen?_of_block (w := w1) (Below.heap_alloc w1 q _ (show w.heap.size + 1 + 1 < _ by omega))
            go_wp2_with fail
            refine (HG.out _).mono ?_
            rintro e w' ⟨rfl, rfl⟩
            go_wp2_with fail
            refine (HJ.out _).mono ?_
            rintro e w2 ⟨rfl, hb2⟩
            have hlt2 : w.heap.size + 3 ≤ w2.heap.size := by have := hb2.size; simp at this; omega
            have hB2 : Hid (Below w.heap.size w w2) := Lib.hid ((hB1.out.alloc (by omega) _).trans (hb2.mono (by simp <;> omega)))
            have hc2_0 : ∀ o, w2.cell? ⟨w.heap.size, o, none⟩ = _ := fun o => hb2.cell (p := ⟨w.heap.size, o, none⟩) (by first | (show w.heap.size < _; omega) | (simp <;> omega))
            have hz2_0 : ∀ o, w2.frozen? ⟨w.heap.size, o, none⟩ = _ := fun o => hb2.frozen (p := ⟨w.heap.size, o, none⟩) (by first | (show w.heap.size < _; omega) | (simp <;> omega))
            have hc2_1 : ∀ o, w2.cell? ⟨w.heap.size + 1, o, none⟩ = _ := fun o => hb2.cell (p := ⟨w.heap.size + 1, o, none⟩) (by first | (show w.heap.size + 1 < _; omega) | (simp <;> omega))
            have hz2_1 : ∀ o, w2.frozen? ⟨w.heap.size + 1, o, none⟩ = _ := fun o => hb2.frozen (p := ⟨w.heap.size + 1, o, none⟩) (by first | (show w.heap.size + 1 < _; omega) | (simp <;> omega))
            have hc2_2 : ∀ o, w2.cell? ⟨w.heap.size + 1 + 1, o, none⟩ = _ := fun o => hb2.cell (p := ⟨w.heap.size + 1 + 1, o, none⟩) (by first | (show w.heap.size + 1 + 1 < _; omega) | (simp <;> omega))
            have hz2_2 : ∀ o, w2.frozen? ⟨w.heap.size + 1 + 1, o, none⟩ = _ := fun o => hb2.frozen (p := ⟨w.heap.size + 1 + 1, o, none⟩) (by first | (show w.heap.size + 1 + 1 < _; omega) | (simp <;> omega))
            clear hb2
            go_wp2
            refine bodyPost_ret (v := .agg #[.bool false, .float .f64 0, .int .i64 0, .string ⟨#[]⟩]) (by simp [results, Try.results48, go_sem, hc1_2, hc2_2, ha1_2]) rfl ?_
            exact ⟨by have h := HR.out; simp at h; first | (simp [h]; done) | (simp [h]; rfl), ((((((((hB2.out.setCell (p := ⟨w.heap.size + 1, 0, none⟩) (by simp <;> omega) _).setCell (p := ⟨w.heap.size + 1, 1, none⟩) (by simp <;> omega) _).setCell (p := ⟨w.heap.size + 1, 2, none⟩) (by simp <;> omega) _).setCell (p := ⟨w.heap.size + 1, 3, none⟩) (by simp <;> omega) _).setCell (p := ⟨w.heap.size + 1 + 1, 0, none⟩) (by simp <;> omega) _).setCell (p := ⟨w.heap.size + 1 + 1, 1, none⟩) (by simp <;> omega) _).setCell (p := ⟨w.heap.size + 1 + 1, 2, none⟩) (by simp <;> omega) _).setCell (p := ⟨w.heap.size + 1 + 1, 3, none⟩) (by simp <;> omega) _)⟩
        · go_enter Try.func48, Try.ntmps48
          go_wp2_with fail
          refine (HFA.out _).mono ?_
          rintro e w1 ⟨rfl, hb1⟩
          have hlt1 : w.heap.size + 3 ≤ w1.heap.size := by have := hb1.size; simp at this; omega
          have hB1 : Hid (Below w.heap.size w w1) := Lib.hid (((((Below.refl _ _).alloc (by simp <;> omega) _).alloc (by simp <;> omega) _).alloc (by simp <;> omega) _).trans (hb1.mono (by simp <;> omega)))
          have hc1_0 : ∀ o, w1.cell? ⟨w.heap.size, o, none⟩ = _ := fun o => hb1.cell (p := ⟨w.heap.size, o, none⟩) (by simp <;> omega)
          have hz1_0 : ∀ o, w1.frozen? ⟨w.heap.size, o, none⟩ = _ := fun o => hb1.frozen (p := ⟨w.heap.size, o, none⟩) (by simp <;> omega)
          have hc1_1 : ∀ o, w1.cell? ⟨w.heap.size + 1, o, none⟩ = _ := fun o => hb1.cell (p := ⟨w.heap.size + 1, o, none⟩) (by simp <;> omega)
          have hz1_1 : ∀ o, w1.frozen? ⟨w.heap.size + 1, o, none⟩ = _ := fun o => hb1.frozen (p := ⟨w.heap.size + 1, o, none⟩) (by simp <;> omega)
          have hc1_2 : ∀ o, w1.cell? ⟨w.heap.size + 1 + 1, o, none⟩ = _ := fun o => hb1.cell (p := ⟨w.heap.size + 1 + 1, o, none⟩) (by simp <;> omega)
          have hz1_2 : ∀ o, w1.frozen? ⟨w.heap.size + 1 + 1, o, none⟩ = _ := fun o => hb1.frozen (p := ⟨w.heap.size + 1 + 1, o, none⟩) (by simp <;> omega)
          clear hb1
          have ha1_0 : ∀ (q : Obj) (o : Nat), (w1.alloc q).cell? ⟨w.heap.size, o, none⟩ = w1.cell? ⟨w.heap.size, o, none⟩ := fun q o => World.cell?_alloc_lt w1 q _ (show w.heap.size < _ by omega)
          have hy1_0 : ∀ (q : Obj) (o : Nat), (w1.alloc q).frozen? ⟨w.heap.size, o, none⟩ = w1.frozen? ⟨w.heap.size, o, none⟩ := fun q o => World.frozen?_of_block (w := w1) (Below.heap_alloc w1 q _ (show w.heap.size < _ by omega))
          have ha1_1 : ∀ (q : Obj) (o : Nat), (w1.alloc q).cell? ⟨w.heap.size + 1, o, none⟩ = w1.cell? ⟨w.heap.size + 1, o, none⟩ := fun q o => World.cell?_alloc_lt w1 q _ (show w.heap.size + 1 < _ by omega)
          have hy1_1 : ∀ (q : Obj) (o : Nat), (w1.alloc q).frozen? ⟨w.heap.size + 1, o, none⟩ = w1.frozen? ⟨w.heap.size + 1, o, none⟩ := fun q o => World.frozen?_of_block (w := w1) (Below.heap_alloc w1 q _ (show w.heap.size + 1 < _ by omega))
          have ha1_2 : ∀ (q : Obj) (o : Nat), (w1.alloc q).cell? ⟨w.heap.size + 1 + 1, o, none⟩ = w1.cell? ⟨w.heap.size + 1 + 1, o, none⟩ := fun q o => World.cell?_alloc_lt w1 q _ (show w.heap.size + 1 + 1 < _ by omega)
          have hy1_2 : ∀ (q : Obj) (o : Nat), (w1.alloc q).frozen? ⟨w.heap.size + 1 + 1, o, none⟩ = w1.frozen? ⟨w.heap.size + 1 + 1, o, none⟩ := fun q o => World.frozen?_of_block (w := w1) (Below.heap_alloc w1 q _ (show w.heap.size + 1 + 1 < _ by omega))
          go_wp2_with fail
          refine (HG.out _).mono ?_
          rintro e w' ⟨rfl, rfl⟩
          go_wp2_with fail
          refine (HJ.out _).mono ?_
          rintro e w2 ⟨rfl, hb2⟩
          have hlt2 : w.heap.size + 3 ≤ w2.heap.size := by have := hb2.size; simp at this; omega
          have hB2 : Hid (Below w.heap.size w w2) := Lib.hid ((hB1.out.alloc (by omega) _).trans (hb2.mono (by simp <;> omega)))
          have hc2_0 : ∀ o, w2.cell? ⟨w.heap.size, o, none⟩ = _ := fun o => hb2.cell (p := ⟨w.heap.size, o, none⟩) (by first | (show w.heap.size < _; omega) | (simp <;> omega))
          have hz2_0 : ∀ o, w2.frozen? ⟨w.heap.size, o, none⟩ = _ := fun o => hb2.frozen (p := ⟨w.heap.size, o, none⟩) (by first | (show w.heap.size < _; omega) | (simp <;> omega))
          have hc2_1 : ∀ o, w2.cell? ⟨w.heap.size + 1, o, none⟩ = _ := fun o => hb2.cell (p := ⟨w.heap.size + 1, o, none⟩) (by first | (show w.heap.size + 1 < _; omega) | (simp <;> omega))
          have hz2_1 : ∀ o, w2.frozen? ⟨w.heap.size + 1, o, none⟩ = _ := fun o => hb2.frozen (p := ⟨w.heap.size + 1, o, none⟩) (by first | (show w.heap.size + 1 < _; omega) | (simp <;> omega))
          have hc2_2 : ∀ o, w2.cell? ⟨w.heap.size + 1 + 1, o, none⟩ = _ := fun o => hb2.cell (p := ⟨w.heap.size + 1 + 1, o, none⟩) (by first | (show w.heap.size + 1 + 1 < _; omega) | (simp <;> omega))
          have hz2_2 : ∀ o, w2.frozen? ⟨w.heap.size + 1 + 1, o, none⟩ = _ := fun o => hb2.frozen (p := ⟨w.heap.size + 1 + 1, o, none⟩) (by first | (show w.heap.size + 1 + 1 < _; omega) | (simp <;> omega))
          clear hb2
          go_wp2
          refine bodyPost_ret (v := .agg #[.bool true, .float .f64 nj, .int .i64 ij, .string tj]) (by simp [results, Try.results48, go_sem, hc1_2, hc2_2, ha1_2]) rfl ?_
          exact ⟨by have h := HR.out; simp [k4] at h; first | (simp [h]; done) | (simp [h]; rfl), ((((((((hB2.out.setCell (p := ⟨w.heap.size + 1, 0, none⟩) (by simp <;> omega) _).setCell (p := ⟨w.heap.size + 1, 1, none⟩) (by simp <;> omega) _).setCell (p := ⟨w.heap.size + 1, 2, none⟩) (by simp <;> omega) _).setCell (p := ⟨w.heap.size + 1, 3, none⟩) (by simp <;> omega) _).setCell (p := ⟨w.heap.size + 1 + 1, 0, none⟩) (by simp <;> omega) _).setCell (p := ⟨w.heap.size + 1 + 1, 1, none⟩) (by simp <;> omega) _).setCell (p := ⟨w.heap.size + 1 + 1, 2, none⟩) (by simp <;> omega) _).setCell (p := ⟨w.heap.size + 1 + 1, 3, none⟩) (by simp <;> omega) _)⟩

end Go.Proofs.Ythicjpkomigacaa
