/- bedrock/op: Value. -/
import Derived.Test.YthicjpkomigacaaOpE
import Derived.Test.YthicjpkomigacaaIOrd
import Derived.Test.YthicjpkomigacaaOrdW
import Derived.Test.YthicjpkomigacaaKeep
import Derived.Deep.RegionLaw
import Derived.Deep.RegionHeld3
import Derived.Deep.QuietTactic
import Derived.BigQuiet
import Derived.BigRegion
namespace Go.Proofs.Ythicjpkomigacaa
open Go.RowKit

def zeroW : ValD := ⟨false, 0, 0, ByteArray.empty⟩

def stepV (k : ByteArray) (st : ValD × Option VerD) (v : VerD) : ValD × Option VerD :=
  if fitsD k v.act then
    (if regK k then
      (match st.2 with
       | none => (st.1, some v)
       | some u => if ordV v u < 0 then (st.1, some v) else st)
     else (afterD k st.1 v.act, st.2))
  else st

def stV (k : ByteArray) (vs : List VerD) (j : Nat) : ValD × Option VerD := (vs.take j).foldl (stepV k) (zeroW, none)

def valueD (k : ByteArray) (vs : List VerD) : ValD :=
  match (vs.foldl (stepV k) (zeroW, none)).2 with
  | some u => afterD k zeroW u.act
  | none => (vs.foldl (stepV k) (zeroW, none)).1

theorem joinD_num {a b : ActD} (ha : a.num < 18446744073709551616) (hb : b.num < 18446744073709551616) : (joinD a b).num < 18446744073709551616 := by
  unfold joinD maxF minF
  by_cases h1 : b.kind = 1
  · rw [if_pos h1]; show 0 < _; omega
  · rw [if_neg h1]
    by_cases h2 : b.kind = 2
    · rw [if_pos h2]; dsimp only; split <;> assumption
    · rw [if_neg h2]
      by_cases h3 : b.kind = 3
      · rw [if_pos h3]; dsimp only; split <;> assumption
      · rw [if_neg h3]; exact hb

theorem afterD_num {k : ByteArray} {v : ValD} {a : ActD} (hv : v.num < 18446744073709551616) (ha : a.num < 18446744073709551616) : (afterD k v a).num < 18446744073709551616 := by
  unfold afterD
  by_cases h1 : fitsD k a = true
  · rw [if_pos h1]
    dsimp only
    have hj : (if (v.there && !regK k) = true then joinD ⟨a.kind, v.num, v.int, ByteArray.empty⟩ a else a).num < 18446744073709551616 := by
      split
      · exact joinD_num hv ha
      · exact ha
    generalize (if (v.there && !regK k) = true then joinD ⟨a.kind, v.num, v.int, ByteArray.empty⟩ a else a) = a' at hj ⊢
    split
    · show 0 < _; omega
    · exact hj
  · rw [if_neg h1]; exact hv

/-- A box of the call's own that holds a value. -/
def BoxW (w : World) (g : Nat) (v : ValD) : Prop :=
  (w.cell? ⟨g, 0, none⟩ = some (.bool v.there) ∧ w.cell? ⟨g, 1, none⟩ = some (.float .f64 v.num) ∧ w.cell? ⟨g, 2, none⟩ = some (.int .i64 v.int) ∧ w.cell? ⟨g, 3, none⟩ = some (.string v.text)) ∧
  (w.frozen? ⟨g, 0, none⟩ = false ∧ w.frozen? ⟨g, 1, none⟩ = false ∧ w.frozen? ⟨g, 2, none⟩ = false ∧ w.frozen? ⟨g, 3, none⟩ = false)

theorem BoxW.below {w w' : World} {g : Nat} {v : ValD} (h : BoxW w g v) {N : Nat} (hb : Below N w w') (hg : g < N) : BoxW w' g v := by
  obtain ⟨⟨a, b, c, d⟩, e, f, g', h'⟩ := h
  have q := fun o => hb.cell (p := ⟨g, o, none⟩) hg
  have z := fun o => hb.frozen (p := ⟨g, o, none⟩) hg
  exact ⟨⟨(q 0).trans a, (q 1).trans b, (q 2).trans c, (q 3).trans d⟩, (z 0).trans e, (z 1).trans f, (z 2).trans g', (z 3).trans h'⟩

/-- A value is stored into a box. -/
def putW (w : World) (g : Nat) (v : ValD) : World :=
  (((w.setCell ⟨g, 0, none⟩ (.bool v.there)).setCell ⟨g, 1, none⟩ (.float .f64 v.num)).setCell ⟨g, 2, none⟩ (.int .i64 v.int)).setCell ⟨g, 3, none⟩ (.string v.text)

theorem putW_box {w : World} {g : Nat} {u : ValD} (h : BoxW w g u) (v : ValD) : BoxW (putW w g v) g v := by
  obtain ⟨⟨a, b, c, d⟩, e, f, g', h'⟩ := h
  unfold putW
  refine ⟨?_, ?_⟩ <;> simp [go_sem, a, b, c, d, e, f, g', h']

theorem putW_other {w : World} {g g' : Nat} {u : ValD} (h : BoxW w g' u) (hne : g' ≠ g) (v : ValD) : BoxW (putW w g v) g' u := by
  have q : ∀ o, (putW w g v).cell? ⟨g', o, none⟩ = w.cell? ⟨g', o, none⟩ := fun o => by
    unfold putW
    rw [World.cell?_setCell_other _ _ _ _ (fun e => hne (by cases e; rfl)), World.cell?_setCell_other _ _ _ _ (fun e => hne (by cases e; rfl)), World.cell?_setCell_other _ _ _ _ (fun e => hne (by cases e; rfl)), World.cell?_setCell_other _ _ _ _ (fun e => hne (by cases e; rfl))]
  have z : ∀ o, (putW w g v).frozen? ⟨g', o, none⟩ = w.frozen? ⟨g', o, none⟩ := fun o => by
    unfold putW
    rw [World.frozen?_setCell, World.frozen?_setCell, World.frozen?_setCell, World.frozen?_setCell]
  obtain ⟨⟨a, b, c, d⟩, e, f, g', h'⟩ := h
  exact ⟨⟨(q 0).trans a, (q 1).trans b, (q 2).trans c, (q 3).trans d⟩, (z 0).trans e, (z 1).trans f, (z 2).trans g', (z 3).trans h'⟩

theorem putW_below {N : Nat} {a w : World} (h : Below N a w) {g : Nat} (hg : N ≤ g) (v : ValD) : Below N a (putW w g v) :=
  (((h.setCell (p := ⟨g, 0, none⟩) hg _).setCell (p := ⟨g, 1, none⟩) hg _).setCell (p := ⟨g, 2, none⟩) hg _).setCell (p := ⟨g, 3, none⟩) hg _

theorem putW_size (w : World) (g : Nat) (v : ValD) : (putW w g v).heap.size = w.heap.size := by
  unfold putW; simp

theorem stV_succ (k : ByteArray) (vs : List VerD) (j : Nat) (v : VerD) (hv : vs[j]? = some v) : stV k vs (j + 1) = stepV k (stV k vs j) v := by
  obtain ⟨hj, rfl⟩ := List.getElem?_eq_some_iff.1 hv
  unfold stV
  rw [List.take_succ_eq_append_getElem hj, List.foldl_append]
  rfl

theorem stV_num (k : ByteArray) (vs : List VerD) (hx : ∀ v ∈ vs, v.act.num < 18446744073709551616) (j : Nat) : (stV k vs j).1.num < 18446744073709551616 := by
  induction j with
  | zero => show 0 < _; omega
  | succ j ih =>
    rcases Nat.lt_or_ge j vs.length with h | h
    · rw [stV_succ k vs j vs[j] (List.getElem?_eq_getElem h)]
      have hv := hx _ (List.getElem_mem h)
      generalize stV k vs j = st at ih ⊢
      unfold stepV
      split
      · split
        · split
          · exact ih
          · split
            · exact ih
            · exact ih
        · exact afterD_num ih hv
      · exact ih
    · have e : stV k vs (j + 1) = stV k vs j := by unfold stV; rw [List.take_of_length_le h, List.take_of_length_le (by omega)]
      rw [e]; exact ih

theorem Below_drewN (w : World) (n : Nat) : Below w.heap.size w (w.drewN n) := by
  induction n with
  | zero => exact Below.refl _ _
  | succ n ih => exact ih.drew

/-- How the last fit version is named. -/
def LastAt (A : Option Addr) (vs : List VerD) (l : Option VerD) (vl : Value) : Prop :=
  match l with
  | none => vl = .pointer none
  | some u => ∃ p b o, A = some ⟨b, o, none⟩ ∧ p < vs.length ∧ vs[p]? = some u ∧ vl = .pointer (some ⟨b, o + p * 8, none⟩)

set_option maxHeartbeats 3200000 in
theorem value_walk (k : ByteArray) (va : Value) (vs : List VerD) (w : World) (hv : VersR w va vs) (hn : vs.length ≤ 100000) (hx : ∀ v ∈ vs, v.act.num < 18446744073709551616) :
    Calls Try.prog 29 #[.string k, va] w fun e w' => e = .returned (.agg (encW (valueD k vs)).toArray) ∧ Below w.heap.size w w' := by
  have hsf := run_store_float Try.prog
  obtain ⟨A, c, f, rfl, h1, h2, h3, h4⟩ := hv
  unfold maxLen at h2
  have hg := fun W => registers_any k W
  obtain ⟨rk, hrk⟩ : ∃ rk, rk = regK k := ⟨_, rfl⟩
  rw [← hrk] at hg
  have hnum := stV_num k vs hx
  obtain ⟨n, hnn⟩ : ∃ n, n = vs.length := ⟨_, rfl⟩
  rw [← hnn] at h1 h3 hn ⊢
  have HN := Lib.hid hnn; have H3 := Lib.hid h3; have H4 := Lib.hid h4; have HX := Lib.hid hx; have HG := Lib.hid hg; have HRK := Lib.hid hrk; have HNUM := Lib.hid hnum
  clear hnn h3 h4 hx hg hrk hnum
  obtain ⟨B, hB⟩ : ∃ B, B = w.heap.size := ⟨_, rfl⟩
  have hW0 : ∀ W, W = ((w.alloc (.cells #[.bool false, .float .f64 0, .int .i64 0, .string ⟨#[]⟩] 38)).alloc (.cells #[.bool false, .float .f64 0, .int .i64 0, .string ⟨#[]⟩] 38)) → Below B w W ∧ BoxW W B zeroW ∧ BoxW W (B + 1) zeroW ∧ B + 2 ≤ W.heap.size := by
    rintro W rfl
    subst hB
    refine ⟨((Below.refl _ _).alloc (Nat.le_refl _) _).alloc (by simp) _, ?_, ?_, by simp⟩ <;> simp [BoxW, zeroW, go_sem] <;> rfl
  have HB := Lib.hid hB; have HW0 := Lib.hid hW0; clear hB hW0
  have HSZ : Hid (valueD k vs = valueD k vs) := Lib.hid rfl
  go_enter Try.func29, Try.ntmps29
  go_wp2
  rw [← HB.out]
  generalize hW : ((w.alloc _).alloc _) = W0
  have HW := Lib.hid (HW0.out W0 hW.symm)
  clear hW HW0
  go_loopw [6, 11] (fun vl vj wr => ∃ j : Nat, vj = .int .i64 j ∧ j ≤ n ∧ Hid (LastAt A vs (stV k vs j).2 vl) ∧ Hid (Below B w wr) ∧ Hid (BoxW wr B zeroW) ∧ Hid (BoxW wr (B + 1) (stV k vs j).1) ∧ Hid (B + 2 ≤ wr.heap.size)) (fun _ vj _ => n - (intOf vj).toNat)
  case atStart => exact ⟨0, rfl, Nat.zero_le _, rfl, HW.out.1, HW.out.2.1, HW.out.2.2.1, HW.out.2.2.2⟩
  case round =>
    obtain ⟨j, rfl, hj, HL, HBW, HR0, HO, HZ⟩ := hrel
    by_cases hlt : j < n
    · have hltz : (j : Int) < (n : Int) := by omega
      have hvk : vs[j]? = some (vs.getD j default) := by rw [getD_lt _ _ (by rw [← HN.out]; exact hlt)]; exact List.getElem?_eq_getElem _
      obtain ⟨b, o, rfl, hcw⟩ := H3.out j hlt
      have hbB : b < B := by rw [HB.out]; exact World.block_lt_of_cell? w _ (hcw 0 _ rfl)
      have hmean := H4.out j _ hvk
      have hxn := HX.out _ (List.mem_of_getElem? hvk)
      have hst := stV_succ k vs j _ hvk
      have hcells : ∀ W, Below B w W → ∀ i u, (f j).cells[i]? = some u → W.cell? ⟨b, o + j * 8 + i, none⟩ = some u := fun W hW i u hu => (hW.cell (p := ⟨b, o + j * 8 + i, none⟩) hbB).trans (hcw i u hu)
      have hact : (f j).data (vs.getD j default).at_ = vs.getD j default := hmean.2.symm
      obtain ⟨v, hvv⟩ : ∃ v, v = vs.getD j default := ⟨_, rfl⟩
      rw [← hvv] at hvk hmean hxn hst hact
      have hfit := fun W => fits_any k v.act hxn W
      have hst1 := HNUM.out j
      have haft := fun W => after_any k (stV k vs j).1 v.act hst1 hxn W
      obtain ⟨st, hstt⟩ : ∃ st, st = stV k vs j := ⟨_, rfl⟩
      rw [← hstt] at haft hst hst1 HO HL
      obtain ⟨fb, hfb⟩ : ∃ fb, fb = fitsD k v.act := ⟨_, rfl⟩
      rw [← hfb] at hfit
      have hstep : stV k vs (j + 1) = if fb then (if rk then (match st.2 with | none => (st.1, some v) | some u => if ordV v u < 0 then (st.1, some v) else st) else (afterD k st.1 v.act, st.2)) else st := by
        rw [hst, stepV, hfb, HRK.out]
      have hx4 : ∀ W, Below B w W → W.cell? ⟨b, o + j * 8 + 4, none⟩ = some (.int .i64 v.act.kind) ∧ W.cell? ⟨b, o + j * 8 + 5, none⟩ = some (.float .f64 v.act.num) ∧ W.cell? ⟨b, o + j * 8 + 6, none⟩ = some (.int .i64 v.act.int) ∧ W.cell? ⟨b, o + j * 8 + 7, none⟩ = some (.string v.act.text) := fun W hW => by
        have q := elem_facts (hcells W hW)
        rw [← hact]
        exact q.2.2.2.2
      have HX4 := Lib.hid hx4; have HVK := Lib.hid hvk; have HMEAN := Lib.hid hmean; have HSTEP := Lib.hid hstep; have HFIT := Lib.hid hfit; have HAFT := Lib.hid haft; have HCELLS := Lib.hid hcells; have HSTT := Lib.hid hstt
      clear hx4 hvk hmean hstep hfit haft hcells hstt hst hst1 hxn hact hfb hcw hvv
      have hx0 := HX4.out wr HBW.out
      obtain ⟨x4, x5, x6, x7⟩ := hx0
      simp only [encA] at HFIT HAFT
      simp only [encW] at HAFT
      go_wp2_with fail
      refine (HFIT.out _).mono ?_
      rintro e w1 ⟨rfl, hb1⟩
      have hb1w : Below w.heap.size w w1 := by rw [← HB.out]; exact HBW.out.trans (hb1.mono (by have := HZ.out; omega))
      have HBW1 : Hid (Below B w w1) := Lib.hid (by rw [HB.out]; exact hb1w)
      have HR1 := Lib.hid (HR0.out.below hb1 (by have := HZ.out; omega))
      have HO1 := Lib.hid (HO.out.below hb1 (by have := HZ.out; omega))
      have HZ1 : Hid (B + 2 ≤ w1.heap.size) := Lib.hid (Nat.le_trans HZ.out hb1.size)
      clear hb1 hb1w x4 x5 x6 x7 HFIT
      obtain ⟨x4, x5, x6, x7⟩ := HX4.out w1 HBW1.out
      cases fb with
      | false =>
        have hstep := HSTEP.out
        simp only [Bool.false_eq_true, if_false] at hstep
        have HST := Lib.hid hstep; clear hstep
        go_wp2
        go_roundw
        case rel => exact ⟨j + 1, by go_num, by omega, by rw [HST.out]; exact HL, HBW1, HR1, by rw [HST.out]; exact HO1, HZ1⟩
        case measure => simp [intOf]; omega
      | true =>
        have hstep := HSTEP.out
        simp only [if_true] at hstep
        go_wp2_with fail
        refine (HG.out _).mono ?_
        rintro e w' ⟨rfl, rfl⟩
        cases rk with
        | false =>
          simp only [Bool.false_eq_true, if_false] at hstep
          have HST := Lib.hid hstep; clear hstep
          obtain ⟨out, l⟩ := st
          simp only [] at HAFT HST HO1 HL
          obtain ⟨⟨o0, o1, o2, o3⟩, z0, z1, z2, z3⟩ := HO1.out
          have hbB1 : b < B + 1 := by omega
          go_wp2_with fail
          go_region_law (first | (go_simp; go_at_call 48; refine (HAFT.out _).mono ?_; rintro e w2 ⟨rfl, hb2⟩; obtain ⟨⟨p0, p1, p2, p3⟩, q0, q1, q2, q3⟩ := HO1.out.below ((Below.refl _ _).drew.trans hb2) (by have := HZ1.out; show _ < w1.heap.size; omega)))
          all_goals
            have hb2' : Below w1.heap.size w1 w2 := (Below.refl _ _).drew.trans hb2
            have hz2 : B + 2 ≤ w2.heap.size := Nat.le_trans HZ1.out hb2'.size
            have hbw2 : Below B w w2 := HBW1.out.trans (hb2'.mono (by have := HZ1.out; omega))
            have HBW3 := Lib.hid (putW_below hbw2 (show B ≤ B + 1 by omega) (afterD k out v.act))
            have HO3 := Lib.hid (putW_box (HO1.out.below hb2' (by have := HZ1.out; omega)) (afterD k out v.act))
            have HR3 := Lib.hid (putW_other (HR1.out.below hb2' (by have := HZ1.out; omega)) (show B ≠ B + 1 by omega) (afterD k out v.act))
            have HZ3 : Hid (B + 2 ≤ (putW w2 (B + 1) (afterD k out v.act)).heap.size) := Lib.hid (by rw [putW_size]; exact hz2)
            change Exit.inBlock _ _ _ _ (putW w2 (B + 1) (afterD k out v.act))
            generalize putW w2 (B + 1) (afterD k out v.act) = w3 at HBW3 HO3 HR3 HZ3 ⊢
            clear hb2 hb2' hz2 hbw2 p0 p1 p2 p3 q0 q1 q2 q3
            go_wp2
            go_roundw
            case rel => exact ⟨j + 1, by go_num, by omega, by rw [HST.out]; exact HL, HBW3, HR3, by rw [HST.out]; exact HO3, HZ3⟩
            case measure => simp [intOf]; omega
        | true =>
          simp only [if_true] at hstep
          obtain ⟨out, l⟩ := st
          cases l with
          | none =>
            simp only [] at hstep
            have HST := Lib.hid hstep; clear hstep
            obtain rfl : u6 = .pointer none := HL.out
            go_wp2
            go_quiet (fail)
            rename_i nq
            have hb2' : Below w1.heap.size w1 (w1.drewN nq) := Below_drewN w1 nq
            have HBW3 := Lib.hid (HBW1.out.trans (hb2'.mono (by have := HZ1.out; omega)))
            have HO3 := Lib.hid (HO1.out.below hb2' (by have := HZ1.out; omega))
            have HR3 := Lib.hid (HR1.out.below hb2' (by have := HZ1.out; omega))
            have HZ3 : Hid (B + 2 ≤ (w1.drewN nq).heap.size) := Lib.hid (Nat.le_trans HZ1.out hb2'.size)
            clear hb2'
            go_wp2
            go_roundw
            case rel => exact ⟨j + 1, by go_num, by omega, by rw [HST.out]; exact ⟨j, b, o, rfl, by rw [← HN.out]; exact hlt, HVK.out, rfl⟩, HBW3, HR3, by rw [HST.out]; exact HO3, HZ3⟩
            case measure => simp [intOf]; omega
          | some u =>
            simp only [] at hstep
            obtain ⟨p, b', o', hA, hp, hpu, rfl⟩ := HL.out
            cases hA
            obtain ⟨b', o', hA, hcu⟩ := H3.out p (by rw [HN.out]; exact hp)
            cases hA
            have hmu := H4.out p u hpu
            have hcu1 := elem_facts (w := w1) (x := f p) (fun i u hu => (HBW1.out.cell (p := ⟨b, o + p * 8 + i, none⟩) hbB).trans (hcu i u hu))
            have hcj1 := elem_facts (HCELLS.out w1 HBW1.out)
            have hmv := HMEAN.out
            generalize f p = y at hmu hcu1
            generalize f j = x at hmv hcj1
            have hw1 : Below w.heap.size w w1 := by rw [← HB.out]; exact HBW1.out
            have hord : ∀ W, Hid (Below w1.heap.size w1 W) → Calls Try.prog 49 #[.agg x.cells.toArray, .agg y.cells.toArray] W fun e w' => e = .returned (.int .i64 (ordV v u)) ∧ Below W.heap.size W w' := fun W hW => by
              have hWw : Below w.heap.size w W := hw1.trans (hW.out.mono hw1.size)
              rw [(hmv.below hWw).cells, (hmu.below hWw).cells]
              exact iorder_any _ _ _ _ W (hmv.below hWw).1 (hmu.below hWw).1
            have HORD := Lib.hid hord; have HPU := Lib.hid hpu
            clear hord hmv hmu hw1 hcu x4 x5 x6 x7 hpu
            simp only [VerV.cells] at HORD
            have HLL := Lib.hid HL.out
            by_cases hr : ordV v u < 0
            · rw [if_pos hr] at hstep
              have HST := Lib.hid hstep; clear hstep
              generalize ordV v u = r at HORD hr
              have hrb : decide (r < 0) = true := by simpa using hr
              obtain ⟨x0, x1, x2, x3, x4, x5, x6, x7⟩ := hcj1
              obtain ⟨y0, y1, y2, y3, y4, y5, y6, y7⟩ := hcu1
              have HS := Lib.hid (keepz_drew (N := w1.heap.size) (W := w1) (Nat.le_refl _))
              have hbs : b < w1.heap.size := by have := HZ1.out; omega
              go_wp2_with fail
              go_region_held3 (fun W' => (∀ b o, b < w1.heap.size → W'.cell? ⟨b, o, none⟩ = w1.cell? ⟨b, o, none⟩) ∧ (∀ b o, b < w1.heap.size → W'.frozen? ⟨b, o, none⟩ = w1.frozen? ⟨b, o, none⟩) ∧ Hid (Below w1.heap.size w1 W') ∧ w1.heap.size ≤ W'.heap.size)
                (first
                  | (exact HS.out)
                  | (refine keepz_step (by assumption) ?_; first | assumption | exact Below.refl _ _ | exact (Below.refl _ _).alloc (Nat.le_refl _) _))
                (first
                  | (go_at_call 49; refine (HORD.out _ (by go_split_ands; assumption)).mono ?_; rintro e w2 ⟨rfl, hb2⟩))
              have hb2' : Below w1.heap.size w1 w2 := Hid.out (by go_split_ands; assumption)
              have HBW3 := Lib.hid (HBW1.out.trans (hb2'.mono (by have := HZ1.out; omega)))
              have HO3 := Lib.hid (HO1.out.below hb2' (by have := HZ1.out; omega))
              have HR3 := Lib.hid (HR1.out.below hb2' (by have := HZ1.out; omega))
              have HZ3 : Hid (B + 2 ≤ w2.heap.size) := Lib.hid (Nat.le_trans HZ1.out hb2'.size)
              clear hb2 hb2' x0 x1 x2 x3 x4 x5 x6 x7 y0 y1 y2 y3 y4 y5 y6 y7
              go_wp2
              go_roundw
              case rel => exact ⟨j + 1, by go_num, by omega, by rw [HST.out]; exact ⟨j, b, o, rfl, by rw [← HN.out]; exact hlt, HVK.out, rfl⟩, HBW3, HR3, by rw [HST.out]; exact HO3, HZ3⟩
              case measure => simp [intOf]; omega
            · rw [if_neg hr] at hstep
              have HST := Lib.hid hstep; clear hstep
              generalize ordV v u = r at HORD hr
              have hrb : decide (r < 0) = false := by simpa using hr
              obtain ⟨x0, x1, x2, x3, x4, x5, x6, x7⟩ := hcj1
              obtain ⟨y0, y1, y2, y3, y4, y5, y6, y7⟩ := hcu1
              have HS := Lib.hid (keepz_drew (N := w1.heap.size) (W := w1) (Nat.le_refl _))
              have hbs : b < w1.heap.size := by have := HZ1.out; omega
              go_wp2_with fail
              go_region_held3 (fun W' => (∀ b o, b < w1.heap.size → W'.cell? ⟨b, o, none⟩ = w1.cell? ⟨b, o, none⟩) ∧ (∀ b o, b < w1.heap.size → W'.frozen? ⟨b, o, none⟩ = w1.frozen? ⟨b, o, none⟩) ∧ Hid (Below w1.heap.size w1 W') ∧ w1.heap.size ≤ W'.heap.size)
                (first
                  | (exact HS.out)
                  | (refine keepz_step (by assumption) ?_; first | assumption | exact Below.refl _ _ | exact (Below.refl _ _).alloc (Nat.le_refl _) _))
                (first
                  | (go_at_call 49; refine (HORD.out _ (by go_split_ands; assumption)).mono ?_; rintro e w2 ⟨rfl, hb2⟩))
              have hb2' : Below w1.heap.size w1 w2 := Hid.out (by go_split_ands; assumption)
              have HBW3 := Lib.hid (HBW1.out.trans (hb2'.mono (by have := HZ1.out; omega)))
              have HO3 := Lib.hid (HO1.out.below hb2' (by have := HZ1.out; omega))
              have HR3 := Lib.hid (HR1.out.below hb2' (by have := HZ1.out; omega))
              have HZ3 : Hid (B + 2 ≤ w2.heap.size) := Lib.hid (Nat.le_trans HZ1.out hb2'.size)
              clear hb2 hb2' x0 x1 x2 x3 x4 x5 x6 x7 y0 y1 y2 y3 y4 y5 y6 y7
              go_wp2
              go_roundw
              case rel => exact ⟨j + 1, by go_num, by omega, by rw [HST.out]; exact HLL.out, HBW3, HR3, by rw [HST.out]; exact HO3, HZ3⟩
              case measure => simp [intOf]; omega
    · obtain rfl : j = n := by omega
      have hltz : ¬ (j : Int) < (j : Int) := by omega
      have hvd : valueD k vs = match (stV k vs j).2 with | some u => afterD k zeroW u.act | none => (stV k vs j).1 := by
        unfold valueD stV; rw [HN.out, List.take_length]
      have hst1 := HNUM.out j
      have haft := fun W u (hu : u ∈ vs) => after_any k zeroW u.act (by show 0 < _; omega) (HX.out u hu) W
      generalize stV k vs j = st at HL HO hvd hst1
      obtain ⟨out, l⟩ := st
      obtain ⟨⟨r0, r1, r2, r3⟩, t0, t1, t2, t3⟩ := HR0.out
      obtain ⟨⟨o0, o1, o2, o3⟩, z0, z1, z2, z3⟩ := HO.out
      simp only [zeroW] at r0 r1 r2 r3
      cases l with
      | none =>
        simp only [] at hvd
        have HVD := Lib.hid hvd; clear hvd haft
        obtain rfl : u6 = .pointer none := HL.out
        go_wp2
        refine bodyPost_ret (v := .agg #[.bool out.there, .float .f64 out.num, .int .i64 out.int, .string out.text]) (by simp [results, Try.results29, go_sem, r0, r1, r2, r3]) rfl ?_
        exact ⟨by rw [HVD.out]; rfl, by rw [← HB.out]; exact putW_below HBW.out (Nat.le_refl _) out⟩
      | some u =>
        simp only [] at hvd
        obtain ⟨p, b, o, rfl, hp, hpu, rfl⟩ := HL.out
        obtain ⟨b', o', hA, hcu⟩ := H3.out p (by rw [HN.out]; exact hp)
        obtain ⟨rfl, rfl⟩ : b = b' ∧ o = o' := by cases hA; exact ⟨rfl, rfl⟩
        have hbB : b < B := by rw [HB.out]; exact World.block_lt_of_cell? w _ (hcu 0 _ rfl)
        have hmu := H4.out p u hpu
        have hcu1 := elem_facts (w := wr) (x := f p) (fun i u hu => (HBW.out.cell (p := ⟨b, o + p * 8 + i, none⟩) hbB).trans (hcu i u hu))
        have hact : (f p).data u.at_ = u := hmu.2.symm
        have haft := fun W => haft W u (List.mem_of_getElem? hpu)
        rw [← hact] at haft hvd
        simp only [VerV.data, encA, encW, zeroW] at haft
        simp only [VerV.data] at hvd
        generalize f p = x at hcu1 haft hvd
        have HVD := Lib.hid hvd; have HAFT := Lib.hid haft; clear hvd haft hact hmu hcu hpu
        obtain ⟨x0, x1, x2, x3, x4, x5, x6, x7⟩ := hcu1
        generalize hq : afterD k zeroW ⟨x.kind, x.num, x.int, x.text⟩ = q at HVD
        have hq' : afterD k ⟨false, 0, 0, ByteArray.empty⟩ ⟨x.kind, x.num, x.int, x.text⟩ = q := hq
        rw [hq'] at HAFT
        clear hq hq'
        go_wp2_with fail
        refine (HAFT.out _).mono ?_
        rintro e w2 ⟨rfl, hb2⟩
        have hbw2 : Below B w w2 := HBW.out.trans (hb2.mono (by have := HZ.out; omega))
        obtain ⟨⟨s0, s1, s2, s3⟩, v0, v1, v2, v3⟩ := HR0.out.below hb2 (by have := HZ.out; omega)
        have HBW2 := Lib.hid hbw2; clear hb2 hbw2
        go_wp2
        refine bodyPost_ret (v := .agg #[.bool q.there, .float .f64 q.num, .int .i64 q.int, .string q.text]) (by simp [results, Try.results29, go_sem, s0, s1, s2, s3]) rfl ?_
        exact ⟨by rw [HVD.out]; rfl, by rw [← HB.out]; exact putW_below HBW2.out (Nat.le_refl _) q⟩

end Go.Proofs.Ythicjpkomigacaa
