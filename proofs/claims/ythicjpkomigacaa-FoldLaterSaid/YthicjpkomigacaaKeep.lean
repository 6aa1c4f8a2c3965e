/- For 'go_region_held3': a region that ends with stores into a box of the call's own. -/
import Derived.Test.YthicjpkomigacaaMem
namespace Go.Proofs.Ythicjpkomigacaa
open Go.RowKit

/-- What a cell holds, under a name that the walk does not open. -/
def got (w : World) (b o : Nat) : Value := (w.cell? ⟨b, o, none⟩).getD (.int .i64 0)

theorem got_some {w : World} {b o : Nat} (h : (w.cell? ⟨b, o, none⟩).isSome = true) : w.cell? ⟨b, o, none⟩ = some (got w b o) := by
  unfold got
  cases hc : w.cell? ⟨b, o, none⟩ with
  | none => rw [hc] at h; cases h
  | some v => rfl

abbrev KeepJ (N n : Nat) (W W' : World) : Prop :=
  (∀ b o, b < N → W'.cell? ⟨b, o, none⟩ = W.cell? ⟨b, o, none⟩) ∧ (∀ b o, b < N + 1 → W'.frozen? ⟨b, o, none⟩ = W.frozen? ⟨b, o, none⟩) ∧ (∀ o, o < n → W'.cell? ⟨N, o, none⟩ = some (got W' N o)) ∧ Hid (Below N W W') ∧ N + 1 ≤ W'.heap.size

theorem KeepJ.drew {N n : Nat} {W : World} (h : N + 1 ≤ W.heap.size) (hc : ∀ o, o < n → (W.cell? ⟨N, o, none⟩).isSome = true) : KeepJ N n W W.drew :=
  ⟨fun _ _ _ => rfl, fun _ _ _ => rfl, fun o ho => got_some (w := W.drew) (hc o ho), (Below.refl _ _).drew, h⟩

theorem KeepJ.step {N n : Nat} {W W' W'' : World} (h : KeepJ N n W W') (hb : Below W'.heap.size W' W'') : KeepJ N n W W'' :=
  ⟨fun b o hl => (hb.cell (p := ⟨b, o, none⟩) (by have := h.2.2.2.2; show b < _; omega)).trans (h.1 b o hl), fun b o hl => (hb.frozen (p := ⟨b, o, none⟩) (by have := h.2.2.2.2; show b < _; omega)).trans (h.2.1 b o hl),
    fun o ho => got_some (by rw [hb.cell (p := ⟨N, o, none⟩) (by have := h.2.2.2.2; show N < _; omega), h.2.2.1 o ho]; rfl), h.2.2.2.1.out.trans (hb.mono (by have := h.2.2.2.2; omega)), Nat.le_trans h.2.2.2.2 hb.size⟩

theorem KeepJ.set {N n : Nat} {W W' : World} (h : KeepJ N n W W') (o : Nat) (v : Value) : KeepJ N n W (W'.setCell ⟨N, o, none⟩ v) :=
  ⟨fun b p hl => (World.cell?_setCell_other _ _ _ _ (fun e => by cases e; omega)).trans (h.1 b p hl), fun b p hl => (World.frozen?_setCell _ _ _ _).trans (h.2.1 b p hl),
    fun p hp => got_some (by
      by_cases c : o = p
      · subst c; rw [World.cell?_setCell_same _ _ (v := v) (h.2.2.1 o hp)]; rfl
      · rw [World.cell?_setCell_other _ _ _ _ (fun e => c (by cases e; rfl)), h.2.2.1 p hp]; rfl),
    h.2.2.2.1.out.setCell (p := ⟨N, o, none⟩) (Nat.le_refl _) v, by rw [World.size_setCell]; exact h.2.2.2.2⟩

end Go.Proofs.Ythicjpkomigacaa
