/- The law's alive. -/
import Derived.Test.YthicjpkomigacaaLight
import Derived.Test.YthicjpkomigacaaRead
namespace Go.Proofs.Ythicjpkomigacaa
open Go.RowKit

def alV (t n : Int) : VerD := ⟨⟨#[]⟩, [t], 0, t, ⟨1, 0, n, ⟨#[]⟩⟩⟩
def alL : List VerD := [alV 1 5, alV 2 7]

theorem al_order : (ordD alL).length = 2 := by decide +kernel
theorem al_drop : (dropD ⟨#[99]⟩ alL [9] true).map (fun v => (v.origin, v.act.int)) = [(254, 12)] := by decide +kernel
theorem al_read : (readD ⟨#[99]⟩ alL [1]).there = true ∧ (readD ⟨#[99]⟩ alL [1]).int = 5 := by decide +kernel

theorem read_any (k : ByteArray) (va vt : Value) (vs : List VerD) (ts : List Int) (w : World) (hv : VersR w va vs) (ht : VecR w vt ts) (hn : vs.length ≤ 100000) (hl : ∀ v ∈ vs, v.at_.length ≤ 1000000) (hx : ∀ v ∈ vs, v.act.num < 18446744073709551616) :
    Calls Try.prog 14 #[.string k, va, vt] w fun e w' => e = .returned (.agg (encW (readD k vs ts)).toArray) ∧ Below w.heap.size w w' := by
  refine (read_walk k va vt vs ts w hv ht hn hl hx).mono ?_
  rintro e w' ⟨rs, hrs, rfl, hb⟩
  rw [hrs.eq]
  exact ⟨rfl, hb⟩

theorem al_small : ∀ v ∈ alL, v.at_.length ≤ 1000000 ∧ v.act.num < 18446744073709551616 := fun v hv => by
  simp only [alL, List.mem_cons, List.not_mem_nil, or_false] at hv
  rcases hv with rfl | rfl <;> exact ⟨by simp [alV], by simp [alV]⟩

def alF (B : Nat) (j : Nat) : VerV := if j = 0 then ⟨⟨#[]⟩, some ⟨B, 0, none⟩, 1, 1, 0, 1, 1, 0, 5, ⟨#[]⟩⟩ else ⟨⟨#[]⟩, some ⟨B + 1, 0, none⟩, 1, 1, 0, 2, 1, 0, 7, ⟨#[]⟩⟩

theorem al_reads (w : World) : VersR (((w.alloc (.cells #[.int .i64 1] 3)).alloc (.cells #[.int .i64 2] 3)).alloc (.cells #[.string ⟨#[]⟩, .slice (some ⟨w.heap.size, 0, none⟩) 1 1, .int .i64 0, .int .i64 1, .int .i64 1, .float .f64 0, .int .i64 5, .string ⟨#[]⟩, .string ⟨#[]⟩, .slice (some ⟨w.heap.size + 1, 0, none⟩) 1 1, .int .i64 0, .int .i64 2, .int .i64 1, .float .f64 0, .int .i64 7, .string ⟨#[]⟩] 35)) (.slice (some ⟨w.heap.size + 1 + 1, 0, none⟩) 2 2) alL := by
  refine ⟨some ⟨w.heap.size + 1 + 1, 0, none⟩, 2, alF w.heap.size, rfl, Nat.le_refl _, by simp [maxLen], fun j hj => ⟨_, _, rfl, fun i u hu => ?_⟩, fun j v hj => ?_⟩
  · have hi : i < 8 := (List.getElem?_eq_some_iff.1 hu).1
    rcases (show j = 0 ∨ j = 1 by simp [alL] at hj; omega) with rfl | rfl
    all_goals
      obtain rfl | rfl | rfl | rfl | rfl | rfl | rfl | rfl : i = 0 ∨ i = 1 ∨ i = 2 ∨ i = 3 ∨ i = 4 ∨ i = 5 ∨ i = 6 ∨ i = 7 := by omega
      all_goals (cases hu; simp [go_sem, alF])
  · have hj2 : j < 2 := (List.getElem?_eq_some_iff.1 hj).1
    rcases (show j = 0 ∨ j = 1 by omega) with rfl | rfl
    · cases hj
      refine ⟨⟨some ⟨w.heap.size, 0, none⟩, 1, rfl, Nat.le_refl _, by simp [maxLen], fun i hi => ⟨_, _, rfl, ?_⟩⟩, rfl⟩
      obtain rfl : i = 0 := by simp [alV] at hi; omega
      simp [go_sem, alV]
    · cases hj
      refine ⟨⟨some ⟨w.heap.size + 1, 0, none⟩, 1, rfl, Nat.le_refl _, by simp [maxLen], fun i hi => ⟨_, _, rfl, ?_⟩⟩, rfl⟩
      obtain rfl : i = 0 := by simp [alV] at hi; omega
      simp [go_sem, alV]

theorem al_dropped : ∃ d, dropD ⟨#[99]⟩ alL [9] true = [d] ∧ d.origin = 254 ∧ d.act.int = 12 := by
  have h := al_drop
  generalize dropD ⟨#[99]⟩ alL [9] true = ds at h
  cases ds with
  | nil => simp at h
  | cons d l =>
    cases l with
    | nil => simp at h; exact ⟨d, rfl, h.1, h.2⟩
    | cons e l => simp at h

/-- What the law's three calls answer, over lists of which no more is told. -/
theorem al_calls : ∃ (l : List VerD) (d : VerD) (rn : Nat) (rx : ByteArray) (ol : List VerD), d.origin = 254 ∧ d.act.int = 12 ∧ ol.length = 2 ∧
    (∀ w : World, VersR (((w.alloc (.cells #[.int .i64 1] 3)).alloc (.cells #[.int .i64 2] 3)).alloc (.cells #[.string ⟨#[]⟩, .slice (some ⟨w.heap.size, 0, none⟩) 1 1, .int .i64 0, .int .i64 1, .int .i64 1, .float .f64 0, .int .i64 5, .string ⟨#[]⟩, .string ⟨#[]⟩, .slice (some ⟨w.heap.size + 1, 0, none⟩) 1 1, .int .i64 0, .int .i64 2, .int .i64 1, .float .f64 0, .int .i64 7, .string ⟨#[]⟩] 35)) (.slice (some ⟨w.heap.size + 1 + 1, 0, none⟩) 2 2) l) ∧
    (∀ va vf W, VersR W va l → VecR W vf [9] → Calls Try.prog 11 #[.string ⟨#[99]⟩, va, vf, .bool true] W (RetV fun r w' => Below W.heap.size W w' ∧ ReadsV w' r [d])) ∧
    (∀ va vf W, VersR W va l → VecR W vf [1] → Calls Try.prog 14 #[.string ⟨#[99]⟩, va, vf] W fun e w' => e = .returned (.agg #[.bool true, .float .f64 rn, .int .i64 5, .string rx]) ∧ Below W.heap.size W w') ∧
    (∀ va W, VersR W va l → Calls Try.prog 20 #[va] W (RetV fun r w' => Below W.heap.size W w' ∧ ReadsV w' r ol)) := by
  obtain ⟨d, hd, hd1, hd2⟩ := al_dropped
  obtain ⟨hr1, hr2⟩ := al_read
  refine ⟨alL, d, (readD ⟨#[99]⟩ alL [1]).num, (readD ⟨#[99]⟩ alL [1]).text, ordD alL, hd1, hd2, al_order, al_reads, fun va vf W h1 h2 => ?_, fun va vf W h1 h2 => ?_, fun va W h1 => ?_⟩
  · have h := drop_any ⟨#[99]⟩ va vf alL [9] true W h1 h2 (by simp [alL]) (fun v hv => (al_small v hv).1) (fun v hv => (al_small v hv).2)
    unfold DropP at h
    rw [hd] at h
    exact h
  · have h := read_any ⟨#[99]⟩ va vf alL [1] W h1 h2 (by simp [alL]) (fun v hv => (al_small v hv).1) (fun v hv => (al_small v hv).2)
    generalize readD ⟨#[99]⟩ alL [1] = rv at h hr1 hr2 ⊢
    obtain ⟨rt, rn, ri, rx⟩ := rv
    dsimp only at hr1 hr2
    subst hr1
    subst hr2
    exact h
  · exact order_two va alL W h1 (by simp [alL]) (fun v hv => (al_small v hv).1)

set_option maxRecDepth 100000 in
set_option maxHeartbeats 3200000 in
theorem alive_any (w : World) : Calls Try.prog 10 #[] w fun e w' => e = .returned (.bool true) ∧ Below w.heap.size w w' := by
  have hsf := run_store_float Try.prog
  obtain ⟨l, d, rn, rx, ol, hd1, hd2, ho1, hrd, hdrop, hread, hord⟩ := al_calls
  have hbw3 : Below w.heap.size w (((w.alloc (.cells #[.int .i64 1] 3)).alloc (.cells #[.int .i64 2] 3)).alloc (.cells #[.string ⟨#[]⟩, .slice (some ⟨w.heap.size, 0, none⟩) 1 1, .int .i64 0, .int .i64 1, .int .i64 1, .float .f64 0, .int .i64 5, .string ⟨#[]⟩, .string ⟨#[]⟩, .slice (some ⟨w.heap.size + 1, 0, none⟩) 1 1, .int .i64 0, .int .i64 2, .int .i64 1, .float .f64 0, .int .i64 7, .string ⟨#[]⟩] 35)) :=
    (((Below.refl _ _).alloc (Nat.le_refl _) _).alloc (by simp) _).alloc (by simp <;> omega) _
  have hv9 : VecR ((((w.alloc (.cells #[.int .i64 1] 3)).alloc (.cells #[.int .i64 2] 3)).alloc (.cells #[.string ⟨#[]⟩, .slice (some ⟨w.heap.size, 0, none⟩) 1 1, .int .i64 0, .int .i64 1, .int .i64 1, .float .f64 0, .int .i64 5, .string ⟨#[]⟩, .string ⟨#[]⟩, .slice (some ⟨w.heap.size + 1, 0, none⟩) 1 1, .int .i64 0, .int .i64 2, .int .i64 1, .float .f64 0, .int .i64 7, .string ⟨#[]⟩] 35)).alloc (.cells #[.int .i64 9] 3)) (.slice (some ⟨w.heap.size + 1 + 1 + 1, 0, none⟩) 1 1) [9] := by
    refine ⟨some ⟨w.heap.size + 1 + 1 + 1, 0, none⟩, 1, rfl, Nat.le_refl _, by simp [maxLen], fun i hi => ⟨_, _, rfl, ?_⟩⟩
    obtain rfl : i = 0 := by simp at hi; omega
    simp [go_sem]
  have HV9 := Lib.hid hv9; clear hv9
  have HRD := Lib.hid (hrd w); have HBW3 := Lib.hid hbw3
  have HDROP := Lib.hid hdrop; have HREAD := Lib.hid hread; have HORD := Lib.hid hord; have HD1 := Lib.hid hd1; have HD2 := Lib.hid hd2; have HO1 := Lib.hid ho1
  clear hdrop hread hord hd1 hd2 ho1 hrd hbw3
  go_enter Try.func10, Try.ntmps10
  go_wp2_with fail
  refine (HDROP.out _ _ _ (HRD.out.below ((Below.refl _ _).alloc (Nat.le_refl _) _)) HV9.out).mono ?_
  rintro e w1 ⟨r, rfl, hb1, hrd1⟩
  have hrl := HRD.out.below (((Below.refl _ _).alloc (Nat.le_refl _) _).trans (hb1.mono (by simp)))
  have HRL := Lib.hid hrl
  obtain ⟨A, c, f, rfl, h1, h2, h3, h4⟩ := hrd1.1
  obtain ⟨b, o, rfl, hcells⟩ := h3 0 (by simp)
  have hx := elem_facts hcells
  simp only [Nat.zero_mul, Nat.add_zero] at hx
  have hm := h4 0 d rfl
  have hxo : (f 0).origin = 254 := by rw [← HD1.out, hm.2]; rfl
  have hxi : (f 0).int = 12 := by rw [← HD2.out, hm.2]; rfl
  rw [hxo, hxi] at hx
  obtain ⟨_, _, x2, _, _, _, x6, _⟩ := hx
  simp only [List.length_singleton] at h1 ⊢
  unfold maxLen at h2
  have hb1' := HBW3.out.trans ((((Below.refl _ _).alloc (Nat.le_refl _) _).trans (hb1.mono (by simp))).mono HBW3.out.size)
  have HB1 := Lib.hid hb1'
  clear h3 h4 hrd1 hcells hm hxo hxi hb1 hb1' hrl
  go_wp2_with fail
  refine (HREAD.out _ _ _ (HRL.out.below ((Below.refl _ _).alloc (Nat.le_refl _) _)) (VecR_block (heap_alloc_new _ _) rfl (by simp [maxLen]))).mono ?_
  rintro e w2 ⟨rfl, hb2⟩
  have hw2 : Below w1.heap.size w1 w2 := ((Below.refl _ _).alloc (Nat.le_refl _) _).trans (hb2.mono (by simp))
  have y2 := (hw2.cell (World.block_lt_of_cell? w1 _ x2)).trans x2
  have y6 := (hw2.cell (World.block_lt_of_cell? w1 _ x6)).trans x6
  have z2 := cell_new y2; have z6 := cell_new y6
  have HRL2 := Lib.hid (HRL.out.below hw2)
  have HB2 := Lib.hid (HB1.out.trans (hw2.mono HB1.out.size))
  clear hb2 hw2 x2 x6
  go_wp2_with fail
  refine (HORD.out _ _ (HRL2.out.below ((Below.refl _ _).alloc (Nat.le_refl _) _))).mono ?_
  rintro e w3 ⟨r3, rfl, hb3, hr3⟩
  obtain ⟨A3, c3, f3, rfl, _⟩ := hr3.1
  rw [HO1.out]
  have HB3 := Lib.hid (HB2.out.trans ((((Below.refl _ _).alloc (Nat.le_refl _) _).trans (hb3.mono (by simp))).mono HB2.out.size))
  clear hb3 hr3
  go_wp2
  go_ret
  exact ⟨rfl, HB3.out⟩

end Go.Proofs.Ythicjpkomigacaa
