/- Lists of versions in memory; clones; fold.Order's closure; fold.copied. -/
import Derived.Test.YthicjpkomigacaaOrd
import Derived.Test.YthicjpkomigacaaRow
import Derived.Laws.AppendOwnNone
namespace Go.Proofs.Ythicjpkomigacaa
open Go.RowKit

def VerV.slice (x : VerV) : Value := .slice x.A x.n x.c
def VerV.data (x : VerV) (l : List Int) : VerD := ⟨x.key, l, x.origin, x.tx, ⟨x.kind, x.num, x.int, x.text⟩⟩
theorem VerV.cells_enc (x : VerV) (l : List Int) : x.cells = encV x.slice (x.data l) := rfl

/-- What lies as x reads as v. -/
def Means (w : World) (x : VerV) (v : VerD) : Prop := VecR w x.slice v.at_ ∧ v = x.data v.at_

theorem Means.cells {w : World} {x : VerV} {v : VerD} (h : Means w x v) : x.cells = encV x.slice v := by rw [h.2]; rfl

theorem VecR.grown {w w' : World} {row : Option Nat} {v : Value} {xs : List Int} (h : VecR w v xs) (hg : w.grownBy w' row) (hne : 0 < xs.length → v.ownBlock ≠ row) : VecR w' v xs := by
  obtain ⟨A, c, rfl, h1, h2, hc⟩ := h
  refine ⟨A, c, rfl, h1, h2, fun j hj => ?_⟩
  obtain ⟨b, o, rfl, hcell⟩ := hc j hj
  refine ⟨b, o, rfl, hg.cell hcell ?_⟩
  have := hne (by omega)
  simpa [Value.ownBlock] using this

theorem VecR.of_block {w w' : World} {v : Value} {xs : List Int} (h : VecR w v xs) (hk : 0 < xs.length → ∃ b, v.ownBlock = some b ∧ w'.heap[b]? = w.heap[b]?) : VecR w' v xs := by
  obtain ⟨A, c, rfl, h1, h2, hc⟩ := h
  refine ⟨A, c, rfl, h1, h2, fun j hj => ?_⟩
  obtain ⟨b, o, rfl, hcell⟩ := hc j hj
  obtain ⟨b', hb, he⟩ := hk (by omega)
  obtain rfl : b = b' := by simpa [Value.ownBlock] using hb
  exact ⟨b, o, rfl, by rw [World.cell?_of_block (w := w) (a := ⟨b, o + j, none⟩) he]; exact hcell⟩

/-- The cells of the elements of a list of versions, wherever it lies. -/
def ElemsAt (w : World) (A : Option Addr) (n : Nat) (f : Nat → VerV) : Prop :=
  ∀ j, j < n → ∃ b o, A = some ⟨b, o, none⟩ ∧ ∀ i u, (f j).cells[i]? = some u → w.cell? ⟨b, o + j * 8 + i, none⟩ = some u

def VersR (w : World) (v : Value) (vs : List VerD) : Prop :=
  ∃ A c f, v = .slice A vs.length c ∧ vs.length ≤ c ∧ c ≤ maxLen ∧ ElemsAt w A vs.length f ∧ ∀ j v, vs[j]? = some v → Means w (f j) v

theorem Means.below {w w' : World} {x : VerV} {v : VerD} (h : Means w x v) (hb : Below w.heap.size w w') : Means w' x v := ⟨h.1.below hb, h.2⟩
theorem ElemsAt.below {w w' : World} {A : Option Addr} {n : Nat} {f : Nat → VerV} (h : ElemsAt w A n f) (hb : Below w.heap.size w w') : ElemsAt w' A n f := fun j hj => by
  obtain ⟨b, o, hA, hc⟩ := h j hj
  exact ⟨b, o, hA, fun i u hu => by have := hc i u hu; rw [hb.cell (World.block_lt_of_cell? w _ this)]; exact this⟩
theorem VersR.below {w w' : World} {v : Value} {vs : List VerD} (h : VersR w v vs) (hb : Below w.heap.size w w') : VersR w' v vs := by
  obtain ⟨A, c, f, hv, h1, h2, h3, h4⟩ := h
  exact ⟨A, c, f, hv, h1, h2, h3.below hb, fun j v hj => (h4 j v hj).below hb⟩

/-- The eight cells of element j at a block and an offset. -/
theorem elem_facts {w : World} {b o j : Nat} {x : VerV} (h : ∀ i u, x.cells[i]? = some u → w.cell? ⟨b, o + j * 8 + i, none⟩ = some u) :
    w.cell? ⟨b, o + j * 8, none⟩ = some (.string x.key) ∧ w.cell? ⟨b, o + j * 8 + 1, none⟩ = some (.slice x.A x.n x.c) ∧ w.cell? ⟨b, o + j * 8 + 2, none⟩ = some (.int .i64 x.origin) ∧ w.cell? ⟨b, o + j * 8 + 3, none⟩ = some (.int .i64 x.tx) ∧
     w.cell? ⟨b, o + j * 8 + 4, none⟩ = some (.int .i64 x.kind) ∧ w.cell? ⟨b, o + j * 8 + 5, none⟩ = some (.float .f64 x.num) ∧ w.cell? ⟨b, o + j * 8 + 6, none⟩ = some (.int .i64 x.int) ∧ w.cell? ⟨b, o + j * 8 + 7, none⟩ = some (.string x.text) :=
  ⟨h 0 _ rfl, h 1 _ rfl, h 2 _ rfl, h 3 _ rfl, h 4 _ rfl, h 5 _ rfl, h 6 _ rfl, h 7 _ rfl⟩

theorem Try.info_int : (Try.prog.info? 3).map (fun i => (i.zero, i.size, i.bytes)) = some (some (.int .i64 0), 1, 8) := by kernel_rfl
theorem Try.info_ver : (Try.prog.info? 35).map (fun i => (i.zero, i.size, i.bytes)) = some (some (.agg #[.string ByteArray.empty, .slice none 0 0, .int .i64 0, .int .i64 0, .int .i64 0, .float .f64 0, .int .i64 0, .string ByteArray.empty]), 8, 96) := by kernel_rfl

theorem ints_oneCell' (xs : List Int) : ∀ u ∈ xs.map (Value.int .i64), u.oneCell' = true := by
  intro u hu
  obtain ⟨x, _, rfl⟩ := List.mem_map.1 hu
  rfl

/-- The slice v leads to ints in a block of their own, from base on. -/
def FreshB (base : Nat) (w : World) (v : Value) (xs : List Int) : Prop := 0 < xs.length → ∃ b cur, v.ownBlock = some b ∧ base ≤ b ∧ w.heap[b]? = some (.cells cur 3 (0, 0))

theorem FreshB.lt {base : Nat} {w : World} {v : Value} {xs : List Int} (h : FreshB base w v xs) (h0 : 0 < xs.length) : ∃ b, v.ownBlock = some b ∧ base ≤ b ∧ b < w.heap.size := by
  obtain ⟨b, cur, h1, h2, h3⟩ := h h0
  exact ⟨b, h1, h2, (Array.getElem?_eq_some_iff.1 h3).1⟩
theorem FreshB.below {base : Nat} {w w' : World} {v : Value} {xs : List Int} (h : FreshB base w v xs) (hb : Below w.heap.size w w') : FreshB base w' v xs := fun h0 => by
  obtain ⟨b, cur, h1, h2, h3⟩ := h h0
  exact ⟨b, cur, h1, h2, (hb.block b (Array.getElem?_eq_some_iff.1 h3).1).trans h3⟩
theorem FreshB.mono {base base' : Nat} {w : World} {v : Value} {xs : List Int} (h : FreshB base w v xs) (hb : base' ≤ base) : FreshB base' w v xs := fun h0 => by
  obtain ⟨b, cur, h1, h2, h3⟩ := h h0
  exact ⟨b, cur, h1, Nat.le_trans hb h2, h3⟩
/-- A row of another type lies elsewhere. -/
theorem FreshB.ne {base : Nat} {w : World} {v : Value} {xs : List Int} (h : FreshB base w v xs) {g : Nat} {cur : Array Value} {t : TypeId} {fr : Nat × Nat} (hg : w.heap[g]? = some (.cells cur t fr)) (ht : t ≠ 3) : 0 < xs.length → v.ownBlock ≠ some g := fun h0 he => by
  obtain ⟨b, cur', h1, _, h3⟩ := h h0
  rw [h1] at he
  cases he
  rw [hg] at h3
  injection h3 with h3
  injection h3 with _ h3 _
  exact ht h3
theorem FreshB.ne_row {base B : Nat} {w : World} {v vo : Value} {xs : List Int} (h : FreshB base w v xs) {t : TypeId} {size k : Nat} {ys : List Value} (ho : w.ownsRow B t size vo k ys) (ht : t ≠ 3) : 0 < xs.length → v.ownBlock ≠ vo.ownBlock := fun h0 => by
  rcases ho.2 with ⟨rfl, _⟩ | ⟨g, cap, cur, rfl, _, hg, _⟩
  · obtain ⟨b, cur, h1, _⟩ := h h0
    rw [h1]; simp [Value.ownBlock]
  · exact h.ne hg ht h0
theorem FreshB.grown {base : Nat} {w w' : World} {v : Value} {xs : List Int} {row : Option Nat} (h : FreshB base w v xs) (hg : w.grownBy w' row) (hne : 0 < xs.length → v.ownBlock ≠ row) : FreshB base w' v xs := fun h0 => by
  obtain ⟨b, cur, h1, h2, h3⟩ := h h0
  exact ⟨b, cur, h1, h2, (hg.block b (Array.getElem?_eq_some_iff.1 h3).1 (by have := hne h0; rw [h1] at this; exact this)).trans h3⟩

/-- Ints that the call owns read as a vector. -/
theorem VecR_own {w : World} {base : Nat} {v : Value} {xs : List Int} (h : w.ownsRow base 3 1 v xs.length (xs.map (Value.int .i64))) : VecR w v xs ∧ FreshB base w v xs := by
  rcases h.2 with ⟨rfl, h0⟩ | ⟨g, cap, cur, rfl, hb, hg, hnc, hcm, hcs, htake⟩
  · have : xs = [] := List.eq_nil_of_length_eq_zero h0
    subst this
    exact ⟨⟨none, 0, rfl, Nat.le_refl _, by simp [maxLen], fun j hj => by simp at hj⟩, fun h => by simp at h⟩
  · refine ⟨⟨_, cap, rfl, hnc, hcm, fun j hj => ⟨g, 0, rfl, ?_⟩⟩, fun _ => ⟨g, cur, rfl, hb, hg⟩⟩
    have := h.cells (g := g) rfl j (.int .i64 (xs.getD j 0)) (by rw [List.getElem?_map, List.getElem?_eq_getElem hj, getD_lt _ _ hj]; rfl)
    rw [show (⟨g, 0, none⟩ : Addr).add j = ⟨g, j, none⟩ by unfold Addr.add; split <;> simp_all] at this
    rw [Nat.zero_add]; exact this

/-- A value is handed back of which P holds. -/
def RetV (P : Value → World → Prop) (e : Ending) (w' : World) : Prop := ∃ v, e = .returned v ∧ P v w'

def CloneP (w : World) (xs : List Int) (v : Value) (w' : World) : Prop :=
  (∃ A c, v = .slice A xs.length c) ∧ Below w.heap.size w w' ∧ VecR w' v xs ∧ FreshB w.heap.size w' v xs

set_option maxHeartbeats 800000 in
theorem clone_any (va : Value) (xs : List Int) (w : World) (ha : VecR w va xs) (hn : xs.length ≤ 1000000000000) :
    Calls Try.prog 50 #[va] w (RetV (CloneP w xs)) := by
  obtain ⟨i0, hi, hz0, hz1, hz2⟩ := info_parts Try.info_int
  have HV := Lib.hid ha
  obtain ⟨A, c, rfl, h1, h2, hca⟩ := ha
  have he := fun (w : World) (A : Option Addr) (n c : Nat) => Lib.run_eql_slice_nil (P := Try.prog) w 24 3 A n c 0 0 Try.underlying24
  rcases A with _ | ad
  · have h0 : xs = [] := by
      cases xs with
      | nil => rfl
      | cons x xs => obtain ⟨b, o, hA, _⟩ := hca 0 (by simp); cases hA
    subst h0
    clear hca
    go_enter Try.func50, Try.ntmps50
    go_wp2
    go_ret
    exact ⟨_, rfl, ⟨_, _, rfl⟩, Below.refl _ _, ⟨none, 0, rfl, Nat.le_refl _, by simp [maxLen], fun j hj => by simp at hj⟩, fun h => by simp at h⟩
  · have hcells : ∀ j u, (xs.map (Value.int .i64))[j]? = some u → w.cell? (ad.add j) = some u := fun j u hu => by
      rw [List.getElem?_map] at hu
      have hj : j < xs.length := by
        rcases Nat.lt_or_ge j xs.length with h | h
        · exact h
        · rw [List.getElem?_eq_none h] at hu; cases hu
      obtain ⟨b, o, hA, hc⟩ := hca j hj
      cases hA
      rw [List.getElem?_eq_getElem hj] at hu
      rw [show (⟨b, o, none⟩ : Addr).add j = ⟨b, o + j, none⟩ by unfold Addr.add; split <;> simp_all, hc, getD_lt _ _ hj]
      simpa using hu
    have HCL := Lib.hid hcells; clear hca hcells
    obtain ⟨n, hnn⟩ : ∃ n, n = xs.length := ⟨_, rfl⟩
    have hlen : (xs.map (Value.int .i64)).length = n * 1 := by simp [hnn]
    rw [← hnn] at hn h1 ⊢
    have HN := Lib.hid hnn; have HL := Lib.hid hlen; clear hnn hlen
    have hn63 : 0 + n ≤ maxLen := by unfold maxLen; omega
    have hnb : (0 + n) * 8 ≤ 140737488355328 := by omega
    have hown : (w.alloc (.cells #[] 3)).ownsRow w.heap.size 3 1 (.slice (some ⟨w.heap.size, 0, none⟩) 0 0) 0 [] := World.ownsRow_made w #[] 0 (Nat.le_refl _) (by simp [maxLen]) rfl
    have HOWN := Lib.hid hown; clear hown
    go_enter Try.func50, Try.ntmps50
    go_wp2_with (at_builtin; refine wpList_append_own _ rfl (.tmp 5) (.tmp 6) 24 rfl w.heap.size 3 i0 (.int .i64 0) 1 8 Try.underlying24 hi hz0 hz1 hz2 rfl (by decide) _ _ _ rfl HOWN.out ad n c (xs.map (Value.int .i64)) rfl HL.out (fun j u hu => cell_new (HCL.out j u hu) _) (ints_oneCell' xs) hn63 hnb (by simp) ?_; intro v' w1 hown1 hgrow1 _)
    go_ret
    rw [Nat.zero_add, List.nil_append, HN.out] at hown1
    have hv := VecR_own hown1
    refine ⟨_, rfl, ?_, ((Below.refl _ _).alloc (Nat.le_refl _) _).grown hgrow1 (by simp) (fun k hk => Nat.le_of_eq (Option.some.inj (show some w.heap.size = some k from hk))), hv.1, hv.2⟩
    obtain ⟨A', c', hv', _⟩ := hv.1
    exact ⟨A', c', hv'⟩

/-- fold.Order's closure. -/
def cmpSame (a b : VerD) : Bool := decide (ordV a b = 0)

set_option maxHeartbeats 800000 in
theorem same_any (va vb : Value) (a b : VerD) (w : World) (ha : VecR w va a.at_) (hb : VecR w vb b.at_) :
    Calls Try.prog 38 #[.agg (encV va a).toArray, .agg (encV vb b).toArray] w fun e w' => e = .returned (.bool (cmpSame a b)) ∧ Below w.heap.size w w' := by
  have hc := fun W h1 h2 => order_any va vb a b W h1 h2
  have HA := Lib.hid ha; have HB := Lib.hid hb
  unfold cmpSame
  generalize ordV a b = r at hc ⊢
  have HC := Lib.hid hc
  clear hc ha hb
  obtain ⟨ka, xs, oa, ta, aa⟩ := a
  obtain ⟨kb, ys, ob, tb, ab⟩ := b
  simp only [encV] at HC ⊢
  by_cases hr : r = 0
  · have hrb : (r == 0) = true := by simpa using hr
    have HR := Lib.hid hr; clear hr
    go_enter Try.func38, Try.ntmps38
    go_wp2_with fail
    refine (HC.out _ (HA.out.below (((Below.refl _ _).alloc (Nat.le_refl _) _).alloc (by simp) _)) (HB.out.below (((Below.refl _ _).alloc (Nat.le_refl _) _).alloc (by simp) _))).mono ?_
    rintro e w1 ⟨rfl, hb1⟩
    have HB1 := Lib.hid hb1; clear hb1
    go_wp2
    go_ret
    exact ⟨by simp [HR.out], (((Below.refl _ _).alloc (Nat.le_refl _) _).alloc (by simp) _).trans (HB1.out.mono (by simp; omega))⟩
  · have hrb : (r == 0) = false := by simpa using hr
    have HR := Lib.hid hr; clear hr
    go_enter Try.func38, Try.ntmps38
    go_wp2_with fail
    refine (HC.out _ (HA.out.below (((Below.refl _ _).alloc (Nat.le_refl _) _).alloc (by simp) _)) (HB.out.below (((Below.refl _ _).alloc (Nat.le_refl _) _).alloc (by simp) _))).mono ?_
    rintro e w1 ⟨rfl, hb1⟩
    have HB1 := Lib.hid hb1; clear hb1
    go_wp2
    go_ret
    exact ⟨by simp [HR.out], (((Below.refl _ _).alloc (Nat.le_refl _) _).alloc (by simp) _).trans (HB1.out.mono (by simp; omega))⟩

/-- fold.copied: the same version, its list new. -/
def CopiedP (w : World) (v : VerD) (r : Value) (w' : World) : Prop :=
  ∃ x' : VerV, r = .agg x'.cells.toArray ∧ Means w' x' v ∧ Below w.heap.size w w' ∧ FreshB w.heap.size w' x'.slice v.at_

set_option maxHeartbeats 1600000 in
theorem copied_any (x : VerV) (v : VerD) (w : World) (h : Means w x v) (hn : v.at_.length ≤ 1000000000000) :
    Calls Try.prog 34 #[.agg x.cells.toArray] w (RetV (CopiedP w v)) := by
  have hsf := run_store_float Try.prog
  have hd := h.2
  have hc := fun W h => clone_any x.slice v.at_ W h hn
  have HC := Lib.hid hc; have HV := Lib.hid h.1; have HD := Lib.hid hd
  clear hc h hd
  unfold VerV.slice at HC
  simp only [VerV.cells]
  go_enter Try.func34, Try.ntmps34
  go_wp2_with fail
  refine (HC.out _ (HV.out.below (((Below.refl _ _).alloc (Nat.le_refl _) _).alloc (by simp) _))).mono ?_
  rintro e w1 ⟨v1, rfl, ⟨A1, c1, rfl⟩, hb1, hv1, hf1⟩
  have hB : Below w.heap.size w w1 := (((Below.refl _ _).alloc (Nat.le_refl _) _).alloc (by simp) _).trans (hb1.mono (by simp; omega))
  have hcell1 : ∀ o, w1.cell? ⟨w.heap.size, o, none⟩ = _ := fun o => hb1.cell (p := ⟨w.heap.size, o, none⟩) (by simp; omega)
  have hcell2 : ∀ o, w1.cell? ⟨w.heap.size + 1, o, none⟩ = _ := fun o => hb1.cell (p := ⟨w.heap.size + 1, o, none⟩) (by simp)
  have hfroz1 : ∀ o, w1.frozen? ⟨w.heap.size, o, none⟩ = _ := fun o => hb1.frozen (p := ⟨w.heap.size, o, none⟩) (by simp; omega)
  have hfroz2 : ∀ o, w1.frozen? ⟨w.heap.size + 1, o, none⟩ = _ := fun o => hb1.frozen (p := ⟨w.heap.size + 1, o, none⟩) (by simp)
  have hlt : w.heap.size + 1 < w1.heap.size := by have := hb1.size; simp at this; omega
  have hf1' : FreshB (w.heap.size + 2) w1 (.slice A1 v.at_.length c1) v.at_ := by simpa using hf1
  have HB := Lib.hid hB; have HV1 := Lib.hid hv1; have HF1 := Lib.hid hf1'
  clear hB hv1 hf1 hf1' hb1
  go_wp2
  refine bodyPost_ret (v := .agg #[.string x.key, .slice A1 v.at_.length c1, .int .i64 x.origin, .int .i64 x.tx, .int .i64 x.kind, .float .f64 x.num, .int .i64 x.int, .string x.text]) (by simp [results, Try.results34, go_sem, hcell2]) rfl ?_
  refine ⟨_, rfl, ⟨x.key, A1, v.at_.length, c1, x.origin, x.tx, x.kind, x.num, x.int, x.text⟩, rfl, ⟨HV1.out.of_block fun h0 => ?_, HD.out⟩, ?_, fun h0 => ?_⟩
  · obtain ⟨b, e1, e2, e3⟩ := HF1.out.lt h0
    refine ⟨b, e1, ?_⟩
    iterate 9 rw [Below.heap_setCell _ _ _ _ (by dsimp only; omega)]
  · iterate 9 refine Below.setCell ?_ (by simp) _
    exact HB.out
  · obtain ⟨b, cur, e1, e2, e3⟩ := HF1.out h0
    refine ⟨b, cur, e1, by omega, ?_⟩
    iterate 9 rw [Below.heap_setCell _ _ _ _ (by dsimp only; omega)]
    exact e3

end Go.Proofs.Ythicjpkomigacaa
