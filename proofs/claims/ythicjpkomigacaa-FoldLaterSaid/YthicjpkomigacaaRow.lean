/- Rows of versions in memory (eight cells each), for the sort. -/
import Derived.Test.YthicjpkomigacaaMem
import Derived.Test.YthicjpkomigacaaSortP
import Derived.BigRegion
namespace Go.Proofs.Ythicjpkomigacaa
open Go.RowKit

/-- A version as it lies: its slice by address. -/
structure VerV where
  key : ByteArray
  A : Option Addr
  n : Nat
  c : Nat
  origin : Int
  tx : Int
  kind : Int
  num : Nat
  int : Int
  text : ByteArray
  deriving Inhabited

def VerV.cells (x : VerV) : List Value :=
  [.string x.key, .slice x.A x.n x.c, .int .i64 x.origin, .int .i64 x.tx, .int .i64 x.kind, .float .f64 x.num, .int .i64 x.int, .string x.text]

/-- Element j of the row in block g lies there, eight cells. -/
def At8 (w : World) (g j : Nat) (x : VerV) : Prop :=
  ∀ i v, x.cells[i]? = some v → w.cell? ⟨g, j * 8 + i, none⟩ = some v ∧ w.frozen? ⟨g, j * 8 + i, none⟩ = false

def RowF (w : World) (g n : Nat) (f : Nat → VerV) : Prop := ∀ j, j < n → At8 w g j (f j)

theorem At8.facts {w : World} {g j : Nat} {x : VerV} (h : At8 w g j x) :
    (w.cell? ⟨g, j * 8, none⟩ = some (.string x.key) ∧ w.cell? ⟨g, j * 8 + 1, none⟩ = some (.slice x.A x.n x.c) ∧ w.cell? ⟨g, j * 8 + 2, none⟩ = some (.int .i64 x.origin) ∧ w.cell? ⟨g, j * 8 + 3, none⟩ = some (.int .i64 x.tx) ∧
     w.cell? ⟨g, j * 8 + 4, none⟩ = some (.int .i64 x.kind) ∧ w.cell? ⟨g, j * 8 + 5, none⟩ = some (.float .f64 x.num) ∧ w.cell? ⟨g, j * 8 + 6, none⟩ = some (.int .i64 x.int) ∧ w.cell? ⟨g, j * 8 + 7, none⟩ = some (.string x.text)) ∧
    (w.frozen? ⟨g, j * 8, none⟩ = false ∧ w.frozen? ⟨g, j * 8 + 1, none⟩ = false ∧ w.frozen? ⟨g, j * 8 + 2, none⟩ = false ∧ w.frozen? ⟨g, j * 8 + 3, none⟩ = false ∧
     w.frozen? ⟨g, j * 8 + 4, none⟩ = false ∧ w.frozen? ⟨g, j * 8 + 5, none⟩ = false ∧ w.frozen? ⟨g, j * 8 + 6, none⟩ = false ∧ w.frozen? ⟨g, j * 8 + 7, none⟩ = false) :=
  ⟨⟨(h 0 _ rfl).1, (h 1 _ rfl).1, (h 2 _ rfl).1, (h 3 _ rfl).1, (h 4 _ rfl).1, (h 5 _ rfl).1, (h 6 _ rfl).1, (h 7 _ rfl).1⟩,
   (h 0 _ rfl).2, (h 1 _ rfl).2, (h 2 _ rfl).2, (h 3 _ rfl).2, (h 4 _ rfl).2, (h 5 _ rfl).2, (h 6 _ rfl).2, (h 7 _ rfl).2⟩

theorem RowF.keep {w w' : World} {g n : Nat} {f : Nat → VerV} (h : RowF w g n f) (hk : w'.heap[g]? = w.heap[g]?) : RowF w' g n f := fun j hj i v hv =>
  ⟨by rw [World.cell?_of_block (w := w) (a := ⟨g, j * 8 + i, none⟩) hk]; exact (h j hj i v hv).1, by rw [World.frozen?_of_block (w := w) (a := ⟨g, j * 8 + i, none⟩) hk]; exact (h j hj i v hv).2⟩

/-- The eight stores of one element. -/
def put8 (w : World) (g j : Nat) (x : VerV) : World :=
  (((((((w.setCell ⟨g, j * 8, none⟩ (.string x.key)).setCell ⟨g, j * 8 + 1, none⟩ (.slice x.A x.n x.c)).setCell ⟨g, j * 8 + 2, none⟩ (.int .i64 x.origin)).setCell ⟨g, j * 8 + 3, none⟩ (.int .i64 x.tx)).setCell ⟨g, j * 8 + 4, none⟩ (.int .i64 x.kind)).setCell ⟨g, j * 8 + 5, none⟩ (.float .f64 x.num)).setCell ⟨g, j * 8 + 6, none⟩ (.int .i64 x.int)).setCell ⟨g, j * 8 + 7, none⟩ (.string x.text)

theorem grown_setCell {a w : World} {g : Nat} (h : a.grownBy w (some g)) {o : Nat} (u : Value) : a.grownBy (w.setCell ⟨g, o, none⟩ u) (some g) :=
  ⟨h.os, h.tape, h.output, by simpa [World.setCell] using h.size, fun i hi hne => (Below.heap_setCell w ⟨g, o, none⟩ u i (by rintro rfl; exact hne rfl)).trans (h.block i hi hne)⟩

theorem put8_grown {a w : World} {g : Nat} (h : a.grownBy w (some g)) (j : Nat) (x : VerV) : a.grownBy (put8 w g j x) (some g) := by
  unfold put8
  iterate 8 refine grown_setCell ?_ _
  exact h

theorem put8_frozen (w : World) (g j : Nat) (x : VerV) (a : Addr) : (put8 w g j x).frozen? a = w.frozen? a := by
  unfold put8
  simp only [World.frozen?_setCell]

theorem put8_other (w : World) (g j : Nat) (x : VerV) (k : Nat) (hk : k < j * 8 ∨ j * 8 + 8 ≤ k) : (put8 w g j x).cell? ⟨g, k, none⟩ = w.cell? ⟨g, k, none⟩ := by
  unfold put8
  iterate 8 rw [World.cell?_setCell_other _ _ _ _ (by intro e; injection e; omega)]

theorem put8_same (w : World) (g j : Nat) (x : VerV) (i : Nat) (v : Value) (hv : x.cells[i]? = some v) (hin : ∀ i, i < 8 → (w.cell? ⟨g, j * 8 + i, none⟩).isSome = true) : (put8 w g j x).cell? ⟨g, j * 8 + i, none⟩ = some v := by
  have hi : i < 8 := (List.getElem?_eq_some_iff.1 hv).1
  have st : ∀ (W : World) (k : Nat) (u : Value), (∀ i, i < 8 → (W.cell? ⟨g, j * 8 + i, none⟩).isSome = true) → (∀ i, i < 8 → ((W.setCell ⟨g, k, none⟩ u).cell? ⟨g, j * 8 + i, none⟩).isSome = true) := fun W k u h i hi => by
    by_cases e : k = j * 8 + i
    · subst e; rw [World.cell?_setCell_same' _ _ _ (h i hi)]; rfl
    · rw [World.cell?_setCell_other _ _ _ _ (by intro q; injection q; omega)]; exact h i hi
  have h0 := hin
  have h1 := st w (j * 8) (.string x.key) h0
  have h2 := st _ (j * 8 + 1) (.slice x.A x.n x.c) h1
  have h3 := st _ (j * 8 + 2) (.int .i64 x.origin) h2
  have h4 := st _ (j * 8 + 3) (.int .i64 x.tx) h3
  have h5 := st _ (j * 8 + 4) (.int .i64 x.kind) h4
  have h6 := st _ (j * 8 + 5) (.float .f64 x.num) h5
  have h7 := st _ (j * 8 + 6) (.int .i64 x.int) h6
  unfold put8
  match i, hi with
  | 7, _ => rw [World.cell?_setCell_same' _ _ _ (h7 7 (by omega))]; exact hv
  | 6, _ =>
    iterate 1 rw [World.cell?_setCell_other _ _ _ _ (by intro e; injection e; omega)]
    rw [World.cell?_setCell_same' _ _ _ (h6 6 (by omega))]; exact hv
  | 5, _ =>
    iterate 2 rw [World.cell?_setCell_other _ _ _ _ (by intro e; injection e; omega)]
    rw [World.cell?_setCell_same' _ _ _ (h5 5 (by omega))]; exact hv
  | 4, _ =>
    iterate 3 rw [World.cell?_setCell_other _ _ _ _ (by intro e; injection e; omega)]
    rw [World.cell?_setCell_same' _ _ _ (h4 4 (by omega))]; exact hv
  | 3, _ =>
    iterate 4 rw [World.cell?_setCell_other _ _ _ _ (by intro e; injection e; omega)]
    rw [World.cell?_setCell_same' _ _ _ (h3 3 (by omega))]; exact hv
  | 2, _ =>
    iterate 5 rw [World.cell?_setCell_other _ _ _ _ (by intro e; injection e; omega)]
    rw [World.cell?_setCell_same' _ _ _ (h2 2 (by omega))]; exact hv
  | 1, _ =>
    iterate 6 rw [World.cell?_setCell_other _ _ _ _ (by intro e; injection e; omega)]
    rw [World.cell?_setCell_same' _ _ _ (h1 1 (by omega))]; exact hv
  | 0, _ =>
    iterate 7 rw [World.cell?_setCell_other _ _ _ _ (by intro e; injection e; omega)]
    rw [Nat.add_zero, World.cell?_setCell_same' _ _ _ (by simpa using h0 0 (by omega))]; exact hv

theorem RowF.isSome {w : World} {g n : Nat} {f : Nat → VerV} (h : RowF w g n f) {j : Nat} (hj : j < n) : ∀ i, i < 8 → (w.cell? ⟨g, j * 8 + i, none⟩).isSome = true := fun i hi => by
  rw [((h j hj) i _ (List.getElem?_eq_getElem (by simpa [VerV.cells] using hi))).1]; rfl

theorem RowF.put {w : World} {g n : Nat} {f : Nat → VerV} (h : RowF w g n f) (j : Nat) (hj : j < n) (x : VerV) : RowF (put8 w g j x) g n (fun i => if i = j then x else f i) := by
  intro k hk i v hv
  have hi : i < 8 := (List.getElem?_eq_some_iff.1 hv).1
  by_cases e : k = j
  · subst e
    simp only [if_true] at hv
    exact ⟨put8_same w g k x i v hv (h.isSome hk), by rw [put8_frozen]; exact ((h k hk) i _ (List.getElem?_eq_getElem (by simpa [VerV.cells] using hi))).2⟩
  · simp only [if_neg e] at hv
    exact ⟨by rw [put8_other w g j x _ (by omega)]; exact (h k hk i v hv).1, by rw [put8_frozen]; exact (h k hk i v hv).2⟩

theorem RowF.swap {w : World} {g n : Nat} {f : Nat → VerV} (h : RowF w g n f) (x y : Nat) (hx : x < n) (hy : y < n) (hne : x ≠ y) : RowF (put8 (put8 w g x (f y)) g y (f x)) g n (swpG f x y) := by
  have := (h.put x hx (f y)).put y hy (f x)
  intro k hk
  have hk' := this k hk
  unfold swpG
  by_cases e1 : k = y
  · subst e1; rw [if_neg (Ne.symm hne), if_pos rfl]; simpa using hk'
  · by_cases e2 : k = x
    · subst e2; rw [if_pos rfl]; simpa [hne] using hk'
    · rw [if_neg e2, if_neg e1]; simpa [e1, e2] using hk'

theorem swapRG_zero (f : Nat → VerV) (a b : Nat) : swapRG f a b 0 = f := by
  funext i; unfold swapRG
  rw [if_neg (by omega), if_neg (by omega)]

theorem swapRG_succ (f : Nat → VerV) (a b k : Nat) (h : a + k < b) : swpG (swapRG f a b k) (a + k) (b + k) = swapRG f a b (k + 1) := by
  funext i; unfold swpG swapRG
  by_cases h1 : i = a + k
  · subst h1
    rw [if_pos rfl, if_neg (by omega), if_neg (by omega), if_pos (by omega)]
    congr 1; omega
  · by_cases h2 : i = b + k
    · subst h2
      rw [if_neg h1, if_pos rfl, if_neg (by omega), if_neg (by omega), if_neg (by omega), if_pos (by omega)]
      congr 1; omega
    · rw [if_neg h1, if_neg h2]
      by_cases h3 : a ≤ i ∧ i < a + k
      · rw [if_pos h3, if_pos (by omega)]
      · rw [if_neg h3, if_neg (show ¬ (a ≤ i ∧ i < a + (k + 1)) by omega)]
        by_cases h4 : b ≤ i ∧ i < b + k
        · rw [if_pos h4, if_pos (by omega)]
        · rw [if_neg h4, if_neg (by omega)]

theorem only_drew {a w : World} {row : Option Nat} (h : a.grownBy w row) : a.grownBy w.drew row := ⟨h.os, h.tape, h.output, h.size, h.block⟩
theorem only_below {a w w' : World} {g : Nat} (h : a.grownBy w (some g)) (hb : Below w.heap.size w w') : a.grownBy w' (some g) :=
  ⟨hb.os.trans h.os, hb.tape.trans h.tape, hb.output.trans h.output, Nat.le_trans h.size hb.size, fun i hi hn => (hb.block i (Nat.lt_of_lt_of_le hi h.size)).trans (h.block i hi hn)⟩
theorem only_drewN {a w : World} {row : Option Nat} (h : a.grownBy w row) (n : Nat) : a.grownBy (w.drewN n) row := ⟨h.os, h.tape, h.output, h.size, h.block⟩
theorem RowF.drewN {w : World} {g n : Nat} {f : Nat → VerV} (h : RowF w g n f) (k : Nat) : RowF (w.drewN k) g n f := h
theorem RowF.drew {w : World} {g n : Nat} {f : Nat → VerV} (h : RowF w g n f) : RowF w.drew g n f := h
theorem RowF.below {w w' : World} {g n : Nat} {f : Nat → VerV} (h : RowF w g n f) (hg : g < w.heap.size) (hb : Below w.heap.size w w') : RowF w' g n f := h.keep (hb.block g hg)

theorem swap_world {a w : World} {g n : Nat} {f : Nat → VerV} (h : RowF w g n f) (hg : a.grownBy w (some g)) (x y : Nat) (hx : x < n) (hy : y < n) (hne : x ≠ y) (u v : VerV) (hu : f x = u) (hv : f y = v) :
    RowF (put8 (put8 w g x v) g y u).drew g n (swpG f x y) ∧ a.grownBy (put8 (put8 w g x v) g y u).drew (some g) := by
  subst hu hv
  exact ⟨(h.swap x y hx hy hne).drew, only_drew (put8_grown (put8_grown hg _ _) _ _)⟩

end Go.Proofs.Ythicjpkomigacaa
