/- Words for memory: slices of ints that only are read. No program in sight but the model. -/
import Derived.WalkKit
import Derived.WalkSpells
import Derived.WalkLawsBesides
import Derived.Lib.Hide
namespace Go.Proofs.Ythicjpkomigacaa
open Go.RowKit

/-- A cell is as it was behind whatever new block. -/
theorem cell_new {w : World} {a : Addr} {v : Value} (h : w.cell? a = some v) : ∀ o : Obj, (w.alloc o).cell? a = some v := fun o =>
  (World.cell?_alloc_lt w o a (World.block_lt_of_cell? w a h)).trans h

theorem frozen_new {w : World} {a : Addr} {v : Value} (h : w.cell? a = some v) (hf : w.frozen? a = false) : ∀ o : Obj, (w.alloc o).frozen? a = false := fun o => by
  have hb := World.block_lt_of_cell? w a h
  rw [World.frozen?_of_block (w := w) (Below.heap_alloc w o a.block hb)]
  exact hf

/-- The slice value v reads as the ints xs in world w. -/
def VecR (w : World) (v : Value) (xs : List Int) : Prop :=
  ∃ A c, v = .slice A xs.length c ∧ xs.length ≤ c ∧ c ≤ maxLen ∧ ∀ j, j < xs.length → ∃ b o, A = some ⟨b, o, none⟩ ∧ w.cell? ⟨b, o + j, none⟩ = some (.int .i64 (xs.getD j 0))

theorem VecR.below {w w' : World} {v : Value} {xs : List Int} (h : VecR w v xs) (hb : Below w.heap.size w w') : VecR w' v xs := by
  obtain ⟨A, c, hv, h1, h2, hc⟩ := h
  refine ⟨A, c, hv, h1, h2, fun j hj => ?_⟩
  obtain ⟨b, o, hA, hcell⟩ := hc j hj
  exact ⟨b, o, hA, by rw [hb.cell (World.block_lt_of_cell? w _ hcell)]; exact hcell⟩

/-- one address for all of the cells -/
theorem VecR.form {w : World} {v : Value} {xs : List Int} (h : VecR w v xs) :
    (xs = [] ∧ ∃ A c, v = .slice A 0 c ∧ c ≤ maxLen) ∨
    ∃ b o c, v = .slice (some ⟨b, o, none⟩) xs.length c ∧ 0 < xs.length ∧ xs.length ≤ c ∧ c ≤ maxLen ∧ ∀ j, j < xs.length → w.cell? ⟨b, o + j, none⟩ = some (.int .i64 (xs.getD j 0)) := by
  obtain ⟨A, c, hv, h1, h2, hc⟩ := h
  cases xs with
  | nil => exact .inl ⟨rfl, A, c, hv, h2⟩
  | cons x xs =>
    obtain ⟨b, o, rfl, _⟩ := hc 0 (by simp)
    refine .inr ⟨b, o, c, hv, by simp, h1, h2, fun j hj => ?_⟩
    obtain ⟨b', o', hA, hcell⟩ := hc j hj
    cases hA
    exact hcell

theorem run_store_float (P : Program) (w : World) (a : Addr) (m : Mode) (k : FloatKind) (b : Nat) : (store a (.float k b) m).run P w = stored P w a (.float k b) m := run_store P w a _ m rfl

theorem only_of_below {a w : World} (h : Below a.heap.size a w) (row : Option Nat) : a.grownBy w row := ⟨h.os, h.tape, h.output, h.size, fun i hi _ => h.block i hi⟩

/-! For 'go_region_held3': what a region of reads, quiet calls and calls that make memory keeps: all cells below N. -/
theorem keep_start {N : Nat} {W : World} (h : N ≤ W.heap.size) : (∀ b o, b < N → W.cell? ⟨b, o, none⟩ = W.cell? ⟨b, o, none⟩) ∧ Hid (Below N W W) ∧ N ≤ W.heap.size :=
  ⟨fun _ _ _ => rfl, Below.refl _ _, h⟩
theorem keep_drew {N : Nat} {W : World} (h : N ≤ W.heap.size) : (∀ b o, b < N → W.drew.cell? ⟨b, o, none⟩ = W.cell? ⟨b, o, none⟩) ∧ Hid (Below N W W.drew) ∧ N ≤ W.drew.heap.size :=
  ⟨fun _ _ _ => rfl, (Below.refl _ _).drew, h⟩
theorem keep_step {N : Nat} {W W' W'' : World} (h : (∀ b o, b < N → W'.cell? ⟨b, o, none⟩ = W.cell? ⟨b, o, none⟩) ∧ Hid (Below N W W') ∧ N ≤ W'.heap.size) (hb : Below W'.heap.size W' W'') :
    (∀ b o, b < N → W''.cell? ⟨b, o, none⟩ = W.cell? ⟨b, o, none⟩) ∧ Hid (Below N W W'') ∧ N ≤ W''.heap.size :=
  ⟨fun b o hl => (hb.cell (p := ⟨b, o, none⟩) (Nat.lt_of_lt_of_le hl h.2.2)).trans (h.1 b o hl), h.2.1.out.trans (hb.mono h.2.2), Nat.le_trans h.2.2 hb.size⟩

/-! The same, the marks too. -/
theorem keepz_drew {N : Nat} {W : World} (h : N ≤ W.heap.size) : (∀ b o, b < N → W.drew.cell? ⟨b, o, none⟩ = W.cell? ⟨b, o, none⟩) ∧ (∀ b o, b < N → W.drew.frozen? ⟨b, o, none⟩ = W.frozen? ⟨b, o, none⟩) ∧ Hid (Below N W W.drew) ∧ N ≤ W.drew.heap.size :=
  ⟨fun _ _ _ => rfl, fun _ _ _ => rfl, (Below.refl _ _).drew, h⟩
theorem keepz_step {N : Nat} {W W' W'' : World} (h : (∀ b o, b < N → W'.cell? ⟨b, o, none⟩ = W.cell? ⟨b, o, none⟩) ∧ (∀ b o, b < N → W'.frozen? ⟨b, o, none⟩ = W.frozen? ⟨b, o, none⟩) ∧ Hid (Below N W W') ∧ N ≤ W'.heap.size) (hb : Below W'.heap.size W' W'') :
    (∀ b o, b < N → W''.cell? ⟨b, o, none⟩ = W.cell? ⟨b, o, none⟩) ∧ (∀ b o, b < N → W''.frozen? ⟨b, o, none⟩ = W.frozen? ⟨b, o, none⟩) ∧ Hid (Below N W W'') ∧ N ≤ W''.heap.size :=
  ⟨fun b o hl => (hb.cell (p := ⟨b, o, none⟩) (Nat.lt_of_lt_of_le hl h.2.2.2)).trans (h.1 b o hl), fun b o hl => (hb.frozen (p := ⟨b, o, none⟩) (Nat.lt_of_lt_of_le hl h.2.2.2)).trans (h.2.1 b o hl), h.2.2.1.out.trans (hb.mono h.2.2.2), Nat.le_trans h.2.2.2 hb.size⟩

end Go.Proofs.Ythicjpkomigacaa
