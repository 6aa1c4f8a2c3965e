/- slices.CompactFunc at versions, by fold.Order's closure. (Printed by gen_comp.py.) -/
import Derived.Test.YthicjpkomigacaaSwapR
import Derived.Test.YthicjpkomigacaaPlain
import Derived.Deep.RegionHeld3
import Derived.Deep.LoopGhost
import Derived.Laws.IdiomCopy
namespace Go.Proofs.Ythicjpkomigacaa
open Go.RowKit

/-- The places that are kept: the first one, and each that is no double of the one ahead of it. -/
def keepL (q : Nat → Bool) (n : Nat) : List Nat := (List.range n).filter fun i => i == 0 || !q i

theorem keepL_succ (q : Nat → Bool) (n : Nat) : keepL q (n + 1) = keepL q n ++ (if n == 0 || !q n then [n] else []) := by
  unfold keepL
  rw [List.range_succ, List.filter_append]
  congr 1
  cases h : (n == 0 || !q n) <;> simp [List.filter, h]
theorem keepL_len (q : Nat → Bool) (n : Nat) : (keepL q n).length ≤ n := by
  unfold keepL
  have := List.length_filter_le (fun i => i == 0 || !q i) (List.range n)
  simpa using this
theorem keepL_all (q : Nat → Bool) (n : Nat) (h : ∀ i, 1 ≤ i → i < n → q i = false) : keepL q n = List.range n := by
  unfold keepL
  rw [List.filter_eq_self]
  intro i hi
  have hi' := List.mem_range.1 hi
  by_cases e : i = 0
  · simp [e]
  · simp [h i (by omega) hi']
theorem keepL_pos (q : Nat → Bool) (n : Nat) (h : 0 < n) : 0 < (keepL q n).length := by
  have : 0 ∈ keepL q n := by unfold keepL; rw [List.mem_filter]; exact ⟨List.mem_range.2 h, rfl⟩
  exact List.length_pos_of_mem this

/-- In the middle of the second loop: p places have been looked at, kk of them are kept. -/
structure CompI (F : Nat → VerV) (q : Nat → Bool) (p kk : Nat) (G : Nat → VerV) : Prop where
  len : kk = (keepL q p).length
  done : ∀ j, j < kk → G j = F ((keepL q p).getD j 0)
  rest : ∀ x, p - 1 ≤ x → G x = F x
  lt : kk < p

theorem getD_append_left {α : Type} (l l' : List α) (d : α) {j : Nat} (h : j < l.length) : (l ++ l').getD j d = l.getD j d := by
  simp [List.getD, List.getElem?_append_left h]
theorem getD_append_at {α : Type} (l : List α) (x d : α) : (l ++ [x]).getD l.length d = x := by
  simp [List.getD]

theorem CompI.skip {F G : Nat → VerV} {q : Nat → Bool} {p kk : Nat} (h : CompI F q p kk G) (hp : 0 < p) (hq : q p = true) : CompI F q (p + 1) kk G := by
  have e : keepL q (p + 1) = keepL q p := by rw [keepL_succ, hq]; simp; omega
  exact ⟨by rw [e]; exact h.len, by rw [e]; exact h.done, fun x hx => h.rest x (by omega), by have := h.lt; omega⟩
theorem CompI.keep {F G : Nat → VerV} {q : Nat → Bool} {p kk : Nat} (h : CompI F q p kk G) (hq : q p = false) : CompI F q (p + 1) (kk + 1) (fun i => if i = kk then F p else G i) := by
  have e : keepL q (p + 1) = keepL q p ++ [p] := by rw [keepL_succ, hq]; simp
  have l := h.len
  have lt := h.lt
  refine ⟨by rw [e, List.length_append, ← l]; rfl, fun j hj => ?_, fun x hx => ?_, by omega⟩
  · rw [e]
    by_cases c : j = kk
    · subst c; rw [if_pos rfl, l, getD_append_at]
    · rw [if_neg c, getD_append_left _ _ _ (by omega)]; exact h.done j (by omega)
  · rw [if_neg (by omega)]; exact h.rest x (by omega)
theorem CompI.start {F : Nat → VerV} {q : Nat → Bool} {k : Nat} (h : ∀ i, 1 ≤ i → i < k → q i = false) (hk : 0 < k) (hq : q k = true) : CompI F q (k + 1) k F := by
  have e : keepL q (k + 1) = List.range k := by rw [keepL_succ, hq, keepL_all q k h]; simp; omega
  refine ⟨by rw [e]; simp, fun j hj => ?_, fun x _ => rfl, by omega⟩
  rw [e, getD_lt _ _ (by simpa using hj)]; simp

theorem run_clear_rows {P : Program} (w : World) (t e ty : TypeId) (z : Value) (ht : P.underlying t = some (.slice e)) (hv : ∀ w, (zeroValue e).run P w = .ok z w) (h1 : ∀ v ∈ z.cells, v.oneCell' = true) (g o n c : Nat) (hn : 0 < n)
    (hc : ∀ j, j < n * z.cells.size → (w.cell? ⟨g, o + j, none⟩).isSome = true) (hf : ∀ j, j < n * z.cells.size → w.frozen? ⟨g, o + j, none⟩ = false) :
    (Builtin.clear_ #[t] ty #[.slice (some ⟨g, o, none⟩) n c]).run P w = .ok (.tuple #[]) (w.setCells g o (Builtin.zeroCells z.cells n).toList) := by
  have hsz : (Builtin.zeroCells z.cells n).toList.length = n * z.cells.size := by simp [Builtin.zeroCells]
  have hone : ∀ v ∈ (Builtin.zeroCells z.cells n).toList, v.oneCell' = true := by
    intro v hv'
    simp only [Builtin.zeroCells] at hv'
    obtain ⟨i, hi⟩ := List.mem_iff_getElem.1 hv'
    obtain ⟨hlt, hi⟩ := hi
    simp only [Array.getElem_toList] at hi
    have hlt2 : i < n * z.cells.size := by simpa using hlt
    have hpos : 0 < z.cells.size := by
      rcases Nat.eq_zero_or_pos z.cells.size with h | h
      · rw [h] at hlt2; omega
      · exact h
    have hm := Nat.mod_lt i hpos
    rw [← hi]
    simp only [Array.getElem_map, Array.getElem_range]
    rw [getElem!_pos z.cells _ hm]
    exact h1 _ (Array.getElem_mem hm)
  have hst := run_storeCells_cells (P := P) g o (Builtin.zeroCells z.cells n).toList 0 w (by rw [hsz]; simpa using hc) (by rw [hsz]; simpa using hf) hone
  simp only [Nat.add_zero] at hst
  obtain ⟨m, rfl⟩ : ∃ m, n = m + 1 := ⟨n - 1, by omega⟩
  simp [Builtin.clear_, run_underlying ht, hv, hst]

theorem grown_setCells {a w : World} {g : Nat} (h : a.grownBy w (some g)) : ∀ (vs : List Value) (o : Nat), a.grownBy (w.setCells g o vs) (some g) := by
  intro vs
  induction vs generalizing w with
  | nil => intro o; exact h
  | cons v vs ih => intro o; exact ih (grown_setCell h v) (o + 1)

theorem RowF.clear {w : World} {g n : Nat} {f : Nat → VerV} (h : RowF w g n f) (k : Nat) (hk : k ≤ n) (vs : List Value) : RowF (w.setCells g (k * 8) vs) g k f := by
  intro j hj i v hv
  have hi : i < 8 := (List.getElem?_eq_some_iff.1 hv).1
  exact ⟨by rw [World.cell?_setCells_out g vs (k * 8) w ⟨g, j * 8 + i, none⟩ (fun _ _ => .inl (by dsimp only; omega))]; exact (h j (by omega) i v hv).1, by rw [World.frozen?_setCells]; exact (h j (by omega) i v hv).2⟩

theorem RowF.less {w : World} {g n n' : Nat} {f : Nat → VerV} (h : RowF w g n f) (hn : n' ≤ n) : RowF w g n' f := fun j hj => h j (by omega)
theorem RowF.congr {w : World} {g n : Nat} {f f' : Nat → VerV} (h : RowF w g n f) (e : ∀ j, j < n → f' j = f j) : RowF w g n f' := fun j hj => by rw [e j hj]; exact h j hj

theorem At8.again {w : World} {g j : Nat} {x : VerV} (h : At8 w g j x) (o : Nat) (e : j * 8 = o) :
    w.cell? ⟨g, o, none⟩ = some (.string x.key) ∧ w.cell? ⟨g, o + 1, none⟩ = some (.slice x.A x.n x.c) ∧ w.cell? ⟨g, o + 2, none⟩ = some (.int .i64 x.origin) ∧ w.cell? ⟨g, o + 3, none⟩ = some (.int .i64 x.tx) ∧
     w.cell? ⟨g, o + 4, none⟩ = some (.int .i64 x.kind) ∧ w.cell? ⟨g, o + 5, none⟩ = some (.float .f64 x.num) ∧ w.cell? ⟨g, o + 6, none⟩ = some (.int .i64 x.int) ∧ w.cell? ⟨g, o + 7, none⟩ = some (.string x.text) := by
  subst e; exact h.facts.1

set_option maxRecDepth 100000 in
set_option maxHeartbeats 6400000 in
theorem compact_any (g n cap : Nat) (F : Nat → VerV) (q : Nat → Bool) (w : World) (hrow : RowF w g n F) (hnc : n ≤ cap) (hn : n ≤ 100000)
    (hq : ∀ i, 1 ≤ i → i < n → ∀ W, w.grownBy W (some g) → Calls Try.prog 38 #[.agg (F i).cells.toArray, .agg (F (i - 1)).cells.toArray] W fun e w' => e = .returned (.bool (q i)) ∧ Below W.heap.size W w') :
    Calls Try.prog 37 #[.slice (some ⟨g, 0, none⟩) n cap, .func (.func 38) #[] #[]] w fun e w' =>
      e = .returned (.slice (some ⟨g, 0, none⟩) (keepL q n).length cap) ∧ w.grownBy w' (some g) ∧ RowF w' g (keepL q n).length (fun j => F ((keepL q n).getD j 0)) := by
  have hsf := run_store_float Try.prog
  have HR := Lib.hid hrow; have HQ := Lib.hid hq
  clear hrow hq
  by_cases h2 : n < 2
  · have h2z : (n : Int) < 2 := by omega
    have hk := keepL_all q n (fun i _ _ => by omega)
    have HK := Lib.hid hk; clear hk
    go_enter Try.func37, Try.ntmps37
    go_wp2
    go_ret
    rw [HK.out]
    exact ⟨by simp, World.grownBy.refl _ _, by rw [List.length_range]; exact HR.out.congr fun j hj => by rw [getD_lt _ _ (by simpa using hj)]; simp⟩
  · have h2z : ¬ (n : Int) < 2 := by omega
    go_enter Try.func37, Try.ntmps37
    go_wp2
    go_loopg [5] n (fun gg vk wr => ∃ k : Nat, vk = .int .i64 k ∧ 1 ≤ k ∧ k ≤ n ∧ n - k ≤ gg ∧ Hid (RowF wr g n F) ∧ Hid (w.grownBy wr (some g)) ∧ Hid (∀ i, 1 ≤ i → i < k → q i = false)) 
    case atStart => exact ⟨1, rfl, by omega, by omega, by omega, HR, World.grownBy.refl _ _, fun i h1 h2 => by omega⟩
    case round =>
      obtain ⟨k, rfl, hk1, hkn, hgg, HRk, HG, HA⟩ := hrel
      by_cases hlt : k < n
      · have hltz : (k : Int) < (n : Int) := by omega
        obtain ⟨kp, rfl⟩ : ∃ kp, k = kp + 1 := ⟨k - 1, by omega⟩
        have hx := (HRk.out (kp + 1) hlt).facts.1
        have hy := (HRk.out kp (by omega)).facts.1
        have hcc := fun W hW => HQ.out (kp + 1) (by omega) hlt W (HG.out.trans hW)
        have hgw : g < wr.heap.size := World.block_lt_of_cell? wr _ hx.1
        have hrb := fun (W : World) (hW : Below wr.heap.size wr W) => And.intro (HRk.out.below hgw hW) (only_below HG.out hW)
        have HRB := Lib.hid hrb; clear hrb
        simp only [Nat.add_sub_cancel] at hcc
        generalize F (kp + 1) = x at hx hcc
        generalize F kp = y at hy hcc
        generalize hqv : q (kp + 1) = qv at hcc
        have HCC := Lib.hid hcc; have HQV := Lib.hid hqv; clear hcc hqv
        obtain ⟨x0, x1, x2, x3, x4, x5, x6, x7⟩ := hx
        obtain ⟨y0, y1, y2, y3, y4, y5, y6, y7⟩ := hy
        simp only [VerV.cells] at HCC
        have HK := Lib.hid (keep_drew (N := wr.heap.size) (W := wr) (Nat.le_refl _))
        have i0 : (0 : Int) ≤ (kp : Int) + 1 := by omega
        have i1 : (kp : Int) + 1 < (n : Int) := by omega
        have i2 : (kp : Int) < (n : Int) := by omega
        have i3 : (0 : Int) ≤ (kp : Int) := by omega
        have hwp : IntKind.i64.wrap (kp : Int) = (kp : Int) := by rw [IntKind.wrap_i64]; omega
        have e0 : ((kp : Int) + 1).toNat = kp + 1 := by omega
        have hkc : kp + 1 ≠ cap := by omega
        cases qv with
        | false =>
          go_wp2_with fail
          go_region_held3 (fun W' => (∀ b o, b < wr.heap.size → W'.cell? ⟨b, o, none⟩ = wr.cell? ⟨b, o, none⟩) ∧ Hid (Below wr.heap.size wr W') ∧ wr.heap.size ≤ W'.heap.size)
            (first
              | (exact HK.out)
              | (refine keep_step (by assumption) ?_; first | assumption | exact Below.refl _ _ | exact (Below.refl _ _).alloc (Nat.le_refl _) _))
            (first
              | (go_simp; go_at_call 38; refine (HCC.out _ (only_of_below (Hid.out (by go_split_ands; assumption)) _)).mono ?_; rintro e w1 ⟨rfl, hb1⟩))
          have hBB : Below wr.heap.size wr w1 := Hid.out (by go_split_ands; assumption)
          have HRB1 := Lib.hid (HRB.out _ hBB)
          clear hBB
          go_wp2
          go_roundg (n - (kp + 1 + 1))
          case rel => exact ⟨kp + 1 + 1, by go_num, by omega, by omega, Nat.le_refl _, HRB1.out.1, HRB1.out.2, fun i h1 h2 => by
            by_cases e : i = kp + 1
            · subst e; exact HQV.out
            · exact HA.out i h1 (by omega)⟩
          case measure => omega
        | true =>
          go_wp2_with fail
          go_region_held3 (fun W' => (∀ b o, b < wr.heap.size → W'.cell? ⟨b, o, none⟩ = wr.cell? ⟨b, o, none⟩) ∧ Hid (Below wr.heap.size wr W') ∧ wr.heap.size ≤ W'.heap.size)
            (first
              | (exact HK.out)
              | (refine keep_step (by assumption) ?_; first | assumption | exact Below.refl _ _ | exact (Below.refl _ _).alloc (Nat.le_refl _) _))
            (first
              | (go_simp; go_at_call 38; refine (HCC.out _ (only_of_below (Hid.out (by go_split_ands; assumption)) _)).mono ?_; rintro e w1 ⟨rfl, hb1⟩))
          have hBB : Below wr.heap.size wr w1 := Hid.out (by go_split_ands; assumption)
          have HRB1 := Lib.hid (HRB.out _ hBB)
          clear hBB
          have HSTART := Lib.hid (CompI.start (F := F) HA.out (by omega) HQV.out)
          go_wp2
          clear HRB HCC HK HQV x0 x1 x2 x3 x4 x5 x6 x7 y0 y1 y2 y3 y4 y5 y6 y7 hgw HRk HG e0 hwp
          have HWR := Lib.hid HRB1.out.1; have HWG := Lib.hid HRB1.out.2; clear HRB1
          obtain ⟨wo, hwo⟩ : ∃ wo : World, wo = w1 := ⟨_, rfl⟩
          go_loopg [5, 7] n (fun gg2 vk vk2 wr => ∃ (kk k2 : Nat) (G : Nat → VerV), vk = .int .i64 kk ∧ vk2 = .int .i64 k2 ∧ 1 ≤ k2 ∧ kp + 1 + k2 ≤ n ∧ n - (kp + 1 + k2) ≤ gg2 ∧ Hid (RowF wr g n G) ∧ Hid (w.grownBy wr (some g)) ∧ Hid (CompI F q (kp + 1 + k2) kk G))
          case atStart => exact ⟨kp + 1, 1, F, by go_num, rfl, Nat.le_refl _, by omega, by omega, HWR, HWG, HSTART⟩
          case round =>
            clear HSTART HWR HWG hwo
            obtain ⟨kk, k2, G, rfl, rfl, hk21, hk2n, hgg2, HRk, HG, HI⟩ := hrel
            by_cases hlt2 : k2 < n - (kp + 1)
            · obtain ⟨k2, rfl⟩ : ∃ t, k2 = t + 1 := ⟨k2 - 1, by omega⟩
              have hkk := HI.out.lt
              have hx := (HRk.out (kp + 1 + (k2 + 1)) (by omega)).again ((kp + 1) * 8 + (k2 + 1) * 8) (by omega)
              have hy := (HRk.out (kp + 1 + k2) (by omega)).again ((kp + 1) * 8 + k2 * 8) (by omega)
              have hu := (HRk.out kk (by omega)).facts
              rw [HI.out.rest _ (by omega)] at hx hy
              have hcc := fun W hW => HQ.out (kp + 1 + (k2 + 1)) (by omega) (by omega) W (HG.out.trans hW)
              have hgw : g < wr.heap.size := World.block_lt_of_cell? wr _ hx.1
              have hrb := fun (W : World) (hW : Below wr.heap.size wr W) => And.intro (HRk.out.below hgw hW) (only_below HG.out hW)
              have HRB := Lib.hid hrb; clear hrb
              simp only [show kp + 1 + (k2 + 1) - 1 = kp + 1 + k2 by omega] at hcc
              generalize hxv : F (kp + 1 + (k2 + 1)) = x at hx hcc
              generalize F (kp + 1 + k2) = y at hy hcc
              generalize G kk = u at hu
              generalize hqv : q (kp + 1 + (k2 + 1)) = qv at hcc
              have HCC := Lib.hid hcc; have HQV := Lib.hid hqv; have HXV := Lib.hid hxv; clear hcc hqv hxv
              obtain ⟨x0, x1, x2, x3, x4, x5, x6, x7⟩ := hx
              obtain ⟨y0, y1, y2, y3, y4, y5, y6, y7⟩ := hy
              obtain ⟨⟨u0, u1, u2, u3, u4, u5, u6, u7⟩, z0, z1, z2, z3, z4, z5, z6, z7⟩ := hu
              simp only [VerV.cells] at HCC
              have HK := Lib.hid (keepz_drew (N := wr.heap.size) (W := wr) (Nat.le_refl _))
              have hltz2 : (k2 : Int) + 1 < ((n - (kp + 1) : Nat) : Int) := by omega
              have hltz3 : (k2 : Int) < ((n - (kp + 1) : Nat) : Int) := by omega
              have i4 : (0 : Int) ≤ (k2 : Int) + 1 := by omega
              have i5 : (0 : Int) ≤ (k2 : Int) := by omega
              have i6 : (kk : Int) < (n : Int) := by omega
              have i7 : (0 : Int) ≤ (kk : Int) := by omega
              have hwp : IntKind.i64.wrap (k2 : Int) = (k2 : Int) := by rw [IntKind.wrap_i64]; omega
              have e0 : ((k2 : Int) + 1).toNat = k2 + 1 := by omega
              cases qv with
              | true =>
                go_wp2_with fail
                go_region_held3 (fun W' => (∀ b o, b < wr.heap.size → W'.cell? ⟨b, o, none⟩ = wr.cell? ⟨b, o, none⟩) ∧ (∀ b o, b < wr.heap.size → W'.frozen? ⟨b, o, none⟩ = wr.frozen? ⟨b, o, none⟩) ∧ Hid (Below wr.heap.size wr W') ∧ wr.heap.size ≤ W'.heap.size)
                  (first
                    | (exact HK.out)
                    | (refine keepz_step (by assumption) ?_; first | assumption | exact Below.refl _ _ | exact (Below.refl _ _).alloc (Nat.le_refl _) _))
                  (first
                    | (go_simp; go_at_call 38; refine (HCC.out _ (only_of_below (Hid.out (by go_split_ands; assumption)) _)).mono ?_; rintro e w1 ⟨rfl, hb1⟩))
                have hBB : Below wr.heap.size wr w1 := Hid.out (by go_split_ands; assumption)
                have HRB1 := Lib.hid (HRB.out _ hBB)
                clear hBB
                have HSK := Lib.hid (HI.out.skip (by omega) HQV.out)
                go_wp2
                go_roundg (n - (kp + 1 + (k2 + 1 + 1)))
                case rel => exact ⟨kk, k2 + 1 + 1, G, rfl, by go_num, by omega, by omega, Nat.le_refl _, HRB1.out.1, HRB1.out.2, HSK⟩
                case measure => omega
              | false =>
                go_wp2_with fail
                go_region_held3 (fun W' => (∀ b o, b < wr.heap.size → W'.cell? ⟨b, o, none⟩ = wr.cell? ⟨b, o, none⟩) ∧ (∀ b o, b < wr.heap.size → W'.frozen? ⟨b, o, none⟩ = wr.frozen? ⟨b, o, none⟩) ∧ Hid (Below wr.heap.size wr W') ∧ wr.heap.size ≤ W'.heap.size)
                  (first
                    | (exact HK.out)
                    | (refine keepz_step (by assumption) ?_; first | assumption | exact Below.refl _ _ | exact (Below.refl _ _).alloc (Nat.le_refl _) _))
                  (first
                    | (go_simp; go_at_call 38; refine (HCC.out _ (only_of_below (Hid.out (by go_split_ands; assumption)) _)).mono ?_; rintro e w1 ⟨rfl, hb1⟩))
                have hBB : Below wr.heap.size wr w1 := Hid.out (by go_split_ands; assumption)
                have HRB1 := Lib.hid (HRB.out _ hBB)
                clear hBB
                have HKE := Lib.hid (HI.out.keep HQV.out)
                rw [HXV.out] at HKE
                have HPUT := Lib.hid (HRB1.out.1.put kk (by omega) x)
                have HPG := Lib.hid (put8_grown HRB1.out.2 kk x)
                go_wp2
                change Handed _ _ _ (put8 w1 g kk x)
                generalize put8 w1 g kk x = W2 at HPUT HPG ⊢
                go_roundg (n - (kp + 1 + (k2 + 1 + 1)))
                case rel => exact ⟨kk + 1, k2 + 1 + 1, _, by go_num, by go_num, by omega, by omega, Nat.le_refl _, HPUT, HPG, HKE⟩
                case measure => omega
            · have hltz2 : ¬ (k2 : Int) < ((n - (kp + 1) : Nat) : Int) := by omega
              have hke : kp + 1 + k2 = n := by omega
              rw [hke] at HI
              have hkk := HI.out.lt
              have hle := HI.out.len
              have HLE := Lib.hid hle; clear hle hke
              obtain ⟨vs, hvs⟩ : ∃ vs, vs = (Builtin.zeroCells (Value.agg #[.string ByteArray.empty, .slice none 0 0, .int .i64 0, .int .i64 0, .int .i64 0, .float .f64 0, .int .i64 0, .string ByteArray.empty]).cells (n - kk)).toList := ⟨_, rfl⟩
              have hfz : ∀ j, j < (n - kk) * 8 → (wr.cell? ⟨g, kk * 8 + j, none⟩).isSome = true ∧ wr.frozen? ⟨g, kk * 8 + j, none⟩ = false := fun j hj => by
                have e : kk * 8 + j = (kk + j / 8) * 8 + j % 8 := by omega
                have hlt3 : kk + j / 8 < n := by omega
                have h8 : j % 8 < 8 := by omega
                rw [e]
                have := (HRk.out _ hlt3) (j % 8) _ (List.getElem?_eq_getElem (by simpa [VerV.cells] using h8))
                exact ⟨by rw [this.1]; rfl, this.2⟩
              have hcl : ∀ ty, (Builtin.clear_ #[22] ty #[.slice (some ⟨g, kk * 8, none⟩) (n - kk) (cap - kk)]).run Try.prog wr = .ok (.tuple #[]) (wr.setCells g (kk * 8) vs) := fun ty => by
                rw [hvs]
                exact run_clear_rows wr 22 35 ty _ Try.underlying22 (fun w => by kernel_rfl) (by simp [Value.cells, Value.oneCell']) g (kk * 8) (n - kk) (cap - kk) (by omega) (fun j hj => (hfz j hj).1) (fun j hj => (hfz j hj).2)
              have HCLR := Lib.hid (HRk.out.clear kk (by omega) vs)
              have HCG := Lib.hid (grown_setCells HG.out vs (kk * 8))
              clear hvs hfz
              have i6 : (kk : Int) < (n : Int) := by omega
              have i7 : (0 : Int) ≤ (kk : Int) := by omega
              have i8 : kk ≠ cap := by omega
              go_wp2
              go_ret
              rw [← HLE.out]
              exact ⟨rfl, HCG.out, HCLR.out.congr fun j hj => (HI.out.done j hj).symm⟩
      · have hltz : ¬ (k : Int) < (n : Int) := by omega
        obtain rfl : k = n := by omega
        have hk := keepL_all q k HA.out
        have HKK := Lib.hid hk; clear hk
        go_wp2
        go_ret
        rw [HKK.out]
        exact ⟨by simp, HG.out, by rw [List.length_range]; exact HRk.out.congr fun j hj => by simp [hj]⟩

end Go.Proofs.Ythicjpkomigacaa
