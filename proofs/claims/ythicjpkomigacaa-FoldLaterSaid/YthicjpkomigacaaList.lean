/- A list of versions that the call gathers: its row is the call's own, its elements' times lie below. -/
import Derived.Test.YthicjpkomigacaaOrdW
namespace Go.Proofs.Ythicjpkomigacaa
open Go.RowKit

/-- The row vo, the call's own from B on, holds the versions us, which read so in W0. -/
def ListB (W0 : World) (B : Nat) (w : World) (vo : Value) (us : List VerD) : Prop :=
  ∃ f : Nat → VerV, w.ownsRow B 35 8 vo us.length (rowCells f us.length) ∧ ∀ j v, us[j]? = some v → Means W0 (f j) v

theorem ListB.nil (W0 : World) (B : Nat) (w : World) : ListB W0 B w (.slice none 0 0) [] :=
  ⟨fun _ => ⟨ByteArray.empty, none, 0, 0, 0, 0, 0, 0, 0, ByteArray.empty⟩, World.ownsRow_nil _ _ _ _, fun j v h => by simp at h⟩

theorem ListB.below {W0 w w' : World} {B : Nat} {vo : Value} {us : List VerD} (h : ListB W0 B w vo us) (hb : Below w.heap.size w w') : ListB W0 B w' vo us := by
  obtain ⟨f, h1, h2⟩ := h
  exact ⟨f, ownsRow_below h1 hb, h2⟩

theorem ListB.lt {W0 w : World} {B : Nat} {vo : Value} {us : List VerD} (h : ListB W0 B w vo us) : ∀ j, vo.ownBlock = some j → B ≤ j := by
  obtain ⟨f, h1, _⟩ := h
  exact fun j hj => (h1.lt j hj).1

theorem ListB.reads {W0 w : World} {B : Nat} {vo : Value} {us : List VerD} (h : ListB W0 B w vo us) (hB : B = W0.heap.size) (hb : Below B W0 w) : VersR w vo us := by
  obtain ⟨f, h1, h2⟩ := h
  subst hB
  rcases h1.2 with ⟨rfl, h0⟩ | ⟨g, cap, cur, rfl, hbg, hg, hnc, hcm, _⟩
  · exact ⟨none, 0, f, by rw [h0], by omega, by simp [maxLen], fun j hj => by omega, fun j v hj => (h2 j v hj).below hb⟩
  · refine ⟨some ⟨g, 0, none⟩, cap, f, rfl, hnc, hcm, fun j hj => ⟨g, 0, rfl, fun i u hu => ?_⟩, fun j v hj => (h2 j v hj).below hb⟩
    have hi : i < 8 := (List.getElem?_eq_some_iff.1 hu).1
    rw [Nat.zero_add, h1.cellAt (j * 8 + i) (by omega)]
    exact rowCells_at f us.length j i u hj hu

/-- What appending one version does. -/
theorem ListB.push {W0 w2 : World} {B : Nat} {v' : Value} {us : List VerD} {f : Nat → VerV} (h2 : ∀ j v, us[j]? = some v → Means W0 (f j) v) {x : VerV} {v : VerD} (hx : Means W0 x v)
    (hown : w2.ownsRow B 35 8 v' (us.length + 1) (rowCells f us.length ++ x.cells)) : ListB W0 B w2 v' (us ++ [v]) := by
  refine ⟨fun i => if i = us.length then x else f i, ?_, fun j u hj => ?_⟩
  · rw [List.length_append, List.length_singleton, rowCells_succ]
    simp only [if_true]
    rw [rowCells_congr (f := fun i => if i = us.length then x else f i) (f' := f) (fun j hj => if_neg (by omega))]
    exact hown
  · by_cases e : j = us.length
    · subst e
      simp at hj
      subst hj
      simpa using hx
    · have hlt : j < us.length := by
        have := (List.getElem?_eq_some_iff.1 hj).1
        simp at this; omega
      rw [List.getElem?_append_left hlt] at hj
      simpa [e] using h2 j u hj

end Go.Proofs.Ythicjpkomigacaa
