/- fold.lastOf: its closure, slices.ContainsFunc at versions. -/
import Derived.Test.YthicjpkomigacaaList
namespace Go.Proofs.Ythicjpkomigacaa
open Go.RowKit

/-- The eight cells of a version at an address. -/
def CellsAt (w : World) (b o : Nat) (x : VerV) : Prop := ∀ i u, x.cells[i]? = some u → w.cell? ⟨b, o + i, none⟩ = some u

theorem CellsAt.below {w w' : World} {b o : Nat} {x : VerV} (h : CellsAt w b o x) {N : Nat} (hb : Below N w w') (hN : b < N) : CellsAt w' b o x := fun i u hu => (hb.cell (p := ⟨b, o + i, none⟩) hN).trans (h i u hu)

theorem CellsAt.facts {w : World} {b o : Nat} {x : VerV} (h : CellsAt w b o x) :
    w.cell? ⟨b, o, none⟩ = some (.string x.key) ∧ w.cell? ⟨b, o + 1, none⟩ = some (.slice x.A x.n x.c) ∧ w.cell? ⟨b, o + 2, none⟩ = some (.int .i64 x.origin) ∧ w.cell? ⟨b, o + 3, none⟩ = some (.int .i64 x.tx) ∧
     w.cell? ⟨b, o + 4, none⟩ = some (.int .i64 x.kind) ∧ w.cell? ⟨b, o + 5, none⟩ = some (.float .f64 x.num) ∧ w.cell? ⟨b, o + 6, none⟩ = some (.int .i64 x.int) ∧ w.cell? ⟨b, o + 7, none⟩ = some (.string x.text) :=
  ⟨h 0 _ rfl, h 1 _ rfl, h 2 _ rfl, h 3 _ rfl, h 4 _ rfl, h 5 _ rfl, h 6 _ rfl, h 7 _ rfl⟩

def beforeD (u v : VerD) : Bool := decide (ordV u v < 0)

set_option maxHeartbeats 1600000 in
theorem closure_any (x y : VerV) (u v : VerD) (bf : Nat) (w : World) (hc : CellsAt w bf 0 y) (hu : Means w y u) (hv : Means w x v) :
    Calls Try.prog 41 #[.agg x.cells.toArray, .pointer (some ⟨bf, 0, none⟩)] w fun e w' => e = .returned (.bool (beforeD u v)) ∧ Below w.heap.size w w' := by
  have hbf : bf < w.heap.size := World.block_lt_of_cell? w ⟨bf, 0 + 0, none⟩ (hc 0 _ rfl)
  have hord : ∀ W, Below w.heap.size w W → Calls Try.prog 36 #[.agg y.cells.toArray, .agg x.cells.toArray] W fun e w' => e = .returned (.int .i64 (ordV u v)) ∧ Below W.heap.size W w' := fun W hW => by
    rw [(hu.below hW).cells, (hv.below hW).cells]
    exact order_any _ _ _ _ W (hu.below hW).1 (hv.below hW).1
  unfold beforeD
  generalize ordV u v = r at hord ⊢
  have hy := (hc.below ((Below.refl _ _).alloc (Nat.le_refl _) (.cells #[.string x.key, .slice x.A x.n x.c, .int .i64 x.origin, .int .i64 x.tx, .int .i64 x.kind, .float .f64 x.num, .int .i64 x.int, .string x.text] 35)) hbf).facts
  have HORD := Lib.hid hord; clear hord hu hv hc
  simp only [VerV.cells] at HORD ⊢
  obtain ⟨y0, y1, y2, y3, y4, y5, y6, y7⟩ := hy
  simp only [Nat.zero_add] at y0 y1 y2 y3 y4 y5 y6 y7
  go_enter Try.func41, Try.ntmps41
  go_wp2_with fail
  refine (HORD.out _ ((Below.refl _ _).alloc (Nat.le_refl _) _)).mono ?_
  rintro e w1 ⟨rfl, hb1⟩
  have hB1 : Below w.heap.size w w1 := ((Below.refl _ _).alloc (Nat.le_refl _) _).trans (hb1.mono (by simp))
  have HB1 := Lib.hid hB1; clear hB1 hb1
  go_wp2
  go_ret
  exact ⟨rfl, HB1.out⟩

set_option maxRecDepth 100000 in
set_option maxHeartbeats 3200000 in
theorem anyV_any (va : Value) (vs : List VerD) (y : VerV) (u : VerD) (bf : Nat) (w : World) (hs : VersR w va vs) (hc : CellsAt w bf 0 y) (hu : Means w y u) (hn : vs.length ≤ 100000) :
    Calls Try.prog 56 #[va, .func (.func 41) #[] #[.pointer (some ⟨bf, 0, none⟩)]] w fun e w' => (∃ i : Int, e = .returned (.int .i64 i) ∧ decide (0 ≤ i) = vs.any (beforeD u)) ∧ Below w.heap.size w w' := by
  have hbf : bf < w.heap.size := World.block_lt_of_cell? w ⟨bf, 0 + 0, none⟩ (hc 0 _ rfl)
  obtain ⟨A, c, f, rfl, h1, h2, h3, h4⟩ := hs
  unfold maxLen at h2
  obtain ⟨r, hr⟩ : ∃ r, r = vs.any (beforeD u) := ⟨_, rfl⟩
  rw [← hr]
  have hbad : ∀ (j : Nat) (v : VerD), vs[j]? = some v → beforeD u v = true → r = true := fun j v hj hb => by
    rw [hr]; exact List.any_eq_true.2 ⟨v, List.mem_of_getElem? hj, hb⟩
  have hall : (∀ (j : Nat) (v : VerD), vs[j]? = some v → beforeD u v = false) → r = false := fun h => by
    rw [hr, List.any_eq_false]; intro x hx
    obtain ⟨j, hj, rfl⟩ := List.getElem_of_mem hx
    simp [h j _ (List.getElem?_eq_getElem hj)]
  obtain ⟨n, hnn⟩ : ∃ n, n = vs.length := ⟨_, rfl⟩
  rw [← hnn] at h1 h3 hn ⊢
  have HN := Lib.hid hnn; have H3 := Lib.hid h3; have H4 := Lib.hid h4; have HBAD := Lib.hid hbad; have HALL := Lib.hid hall; have HC := Lib.hid hc; have HU := Lib.hid hu
  clear hnn h3 h4 hbad hall hr hc hu
  go_enter Try.func56, Try.ntmps56
  go_wp2
  go_loopw [8] (fun vj wr => ∃ j : Nat, j ≤ n ∧ vj = .int .i64 j ∧ Hid (∀ i v, i < j → vs[i]? = some v → beforeD u v = false) ∧ Hid (Below w.heap.size w wr)) (fun vj _ => n - (intOf vj).toNat)
  case atStart => exact ⟨0, Nat.zero_le _, rfl, fun i v hi => by omega, Below.refl _ _⟩
  case round =>
    obtain ⟨j, hj, rfl, HS, HG⟩ := hrel
    by_cases hlt : j < n
    · have hltz : (j : Int) < (n : Int) := by omega
      have hvk : vs[j]? = some (vs.getD j default) := by rw [getD_lt _ _ (by rw [← HN.out]; exact hlt)]; exact List.getElem?_eq_getElem _
      obtain ⟨b, o, rfl, hcells⟩ := (H3.out.below HG.out) j hlt
      have hx := elem_facts hcells
      have hmean := (H4.out j _ hvk).below HG.out
      have hb := HBAD.out j _ hvk
      have hnx := fun hf : beforeD u (vs.getD j default) = false => fun i v (hi : i < j + 1) (hv : vs[i]? = some v) => show beforeD u v = false by
        by_cases h : i = j
        · subst h; rw [hvk] at hv; cases hv; exact hf
        · exact HS.out i v (by omega) hv
      generalize vs.getD j default = v at hvk hmean hb hnx
      generalize f j = x at hx hmean
      have hcl := closure_any x y u v bf wr (HC.out.below HG.out hbf) (HU.out.below HG.out) hmean
      generalize beforeD u v = q at hb hnx hcl
      have HCL := Lib.hid hcl; have HB := Lib.hid hb; have HNX := Lib.hid hnx
      clear hcl hb hnx hvk hmean hcells
      simp only [VerV.cells] at HCL
      obtain ⟨x0, x1, x2, x3, x4, x5, x6, x7⟩ := hx
      cases q with
      | true =>
        go_wp2_with fail
        refine HCL.out.mono ?_
        rintro e w1 ⟨rfl, hb1⟩
        have HG1 := Lib.hid (HG.out.trans (hb1.mono HG.out.size)); clear hb1
        go_wp2
        go_ret
        exact ⟨⟨_, rfl, by rw [HB.out trivial]; simp⟩, HG1.out⟩
      | false =>
        go_wp2_with fail
        refine HCL.out.mono ?_
        rintro e w1 ⟨rfl, hb1⟩
        have HG1 := Lib.hid (HG.out.trans (hb1.mono HG.out.size)); clear hb1
        go_wp2
        go_roundw
        case rel => exact ⟨j + 1, by omega, by go_num, HNX.out trivial, HG1⟩
        case measure => simp [intOf]; omega
    · have hltz : ¬ (j : Int) < (n : Int) := by omega
      go_wp2
      go_ret
      exact ⟨⟨_, rfl, by rw [HALL.out (fun i v hv => HS.out i v (by have := (List.getElem?_eq_some_iff.1 hv).1; rw [← HN.out] at this; omega) hv)]; rfl⟩, HG.out⟩

theorem containsV_any (va : Value) (vs : List VerD) (y : VerV) (u : VerD) (bf : Nat) (w : World) (hs : VersR w va vs) (hc : CellsAt w bf 0 y) (hu : Means w y u) (hn : vs.length ≤ 100000) :
    Calls Try.prog 40 #[va, .func (.func 41) #[] #[.pointer (some ⟨bf, 0, none⟩)]] w fun e w' => e = .returned (.bool (vs.any (beforeD u))) ∧ Below w.heap.size w w' := by
  have hi := anyV_any va vs y u bf w hs hc hu hn
  generalize vs.any (beforeD u) = r at hi ⊢
  have HI := Lib.hid hi; clear hi hs hc hu
  go_enter Try.func40, Try.ntmps40
  go_wp2_with fail
  refine HI.out.mono ?_
  rintro e w' ⟨⟨i, rfl, hr⟩, hb⟩
  have HR := Lib.hid hr; clear hr
  go_wp2
  go_ret
  exact ⟨by rw [← HR.out]; rfl, hb⟩

def goneD (ss : List VerD) (u : VerD) (fs : List Int) (all : Bool) : Bool := all && (decide (u.act.kind = 4) && (decide (timeI u ≤ minL fs) && (decide (ss.length = 0) || !ss.any (beforeD u))))

set_option maxRecDepth 100000 in
set_option maxHeartbeats 6400000 in
theorem lastOf_any (vs_ vf : Value) (A : Option Addr) (c : Nat) (ss us : List VerD) (u : VerD) (fs : List Int) (all : Bool) (w : World) (hs : VersR w vs_ ss) (hu : VersR w (.slice A (us.length + 1) c) (u :: us)) (hf : VecR w vf fs) (hf0 : 0 < fs.length) (hn : ss.length ≤ 100000) :
    Calls Try.prog 23 #[vs_, .slice A (us.length + 1) c, vf, .bool all] w fun e w' => e = .returned (if goneD ss u fs all then .slice none 0 0 else .slice A 1 c) ∧ Below w.heap.size w w' := by
  have hsf := run_store_float Try.prog
  obtain ⟨A', c', f, hv, h1, h2, h3, h4⟩ := hu
  simp only [List.length_cons] at hv h1 h3
  simp only [Value.slice.injEq] at hv
  obtain ⟨rfl, _, rfl⟩ := hv
  unfold maxLen at h2
  obtain ⟨b, o, rfl, hcells⟩ := h3 0 (by omega)
  have hx := elem_facts hcells
  simp only [Nat.zero_mul, Nat.add_zero] at hx
  have hmean := h4 0 u rfl
  have hk : (f 0).kind = u.act.kind := by rw [hmean.2]; rfl
  have htime : ∀ W, Below w.heap.size w W → Calls Try.prog 42 #[.agg (f 0).cells.toArray] W fun e w' => e = .returned (.int .i64 (timeI u)) ∧ Below W.heap.size W w' := fun W hW => by
    rw [(hmean.below hW).cells]; exact time_any _ _ W (hmean.below hW).1
  have hmin : ∀ W, Below w.heap.size w W → Calls Try.prog 43 #[vf] W fun e w' => e = .returned (.int .i64 (minL fs)) ∧ W = w' := fun W hW => slicesMin_any vf fs W (hf.below hW) hf0
  have hcon : ∀ W bf, Below w.heap.size w W → CellsAt W bf 0 (f 0) → Calls Try.prog 40 #[vs_, .func (.func 41) #[] #[.pointer (some ⟨bf, 0, none⟩)]] W fun e w' => e = .returned (.bool (ss.any (beforeD u))) ∧ Below W.heap.size W w' :=
    fun W bf hW hc => containsV_any vs_ ss (f 0) u bf W (hs.below hW) hc (hmean.below hW) hn
  have hr : goneD ss u fs all = (all && (decide (u.act.kind = 4) && (decide (timeI u ≤ minL fs) && (decide (ss.length = 0) || !ss.any (beforeD u))))) := rfl
  generalize goneD ss u fs all = gone at hr ⊢
  rw [← hk] at hr
  generalize timeI u = t at hr htime
  generalize minL fs = mf at hr hmin
  generalize ss.any (beforeD u) = q at hr hcon
  clear hf hk hmean hcells h3 h4
  generalize f 0 = x at hx hr htime hcon
  obtain ⟨x0, x1, x2, x3, x4, x5, x6, x7⟩ := hx
  obtain ⟨A2, c2, f2, rfl, g1, g2, _, _⟩ := hs
  generalize ss.length = n at *
  generalize us.length = m at *
  unfold maxLen at g2
  have HT := Lib.hid htime; have HM := Lib.hid hmin; have HC := Lib.hid hcon; have HR := Lib.hid hr
  clear htime hmin hcon hr
  simp only [VerV.cells] at HT
  have hbox : CellsAt (w.alloc (.cells #[.string x.key, .slice x.A x.n x.c, .int .i64 x.origin, .int .i64 x.tx, .int .i64 x.kind, .float .f64 x.num, .int .i64 x.int, .string x.text] 35)) w.heap.size 0 x := by
    intro i v hv
    have hi : i < 8 := (List.getElem?_eq_some_iff.1 hv).1
    obtain rfl | rfl | rfl | rfl | rfl | rfl | rfl | rfl : i = 0 ∨ i = 1 ∨ i = 2 ∨ i = 3 ∨ i = 4 ∨ i = 5 ∨ i = 6 ∨ i = 7 := by omega
    all_goals (cases hv; simp [go_sem])
  have HBOX := Lib.hid hbox; clear hbox
  have hB0 : Below w.heap.size w (w.alloc (.cells #[.string x.key, .slice x.A x.n x.c, .int .i64 x.origin, .int .i64 x.tx, .int .i64 x.kind, .float .f64 x.num, .int .i64 x.int, .string x.text] 35)) := (Below.refl _ _).alloc (Nat.le_refl _) _
  have HB0 := Lib.hid hB0; clear hB0
  obtain ⟨rv, hrv⟩ : ∃ rv, rv = (if gone then Value.slice none 0 0 else .slice (some ⟨b, o, none⟩) 1 c) := ⟨_, rfl⟩
  rw [← hrv]
  have HRV := Lib.hid hrv; clear hrv
  by_cases n0 : n = 0
  · subst n0
    cases all with
    | false =>
      · go_enter Try.func23, Try.ntmps23
        go_wp2
        go_ret
        exact ⟨by rw [HRV.out, HR.out]; simp, ((Below.refl _ _).alloc (by simp <;> omega) _)⟩
    | true =>
      by_cases k4 : x.kind = 4
      · have k4b : (x.kind == 4) = true := by simpa using k4
        have K4 := Lib.hid k4; clear k4
        by_cases tm : t ≤ mf
        · have tmz : t ≤ mf := tm
          · go_enter Try.func23, Try.ntmps23
            go_wp2_with fail
            refine (HT.out _ (HB0.out)).mono ?_
            rintro e w1 ⟨rfl, hb1⟩
            have hlt1 : w.heap.size + 1 ≤ w1.heap.size := by have := hb1.size; simp at this; omega
            have hB1 : Hid (Below w.heap.size w w1) := Lib.hid (((Below.refl _ _).alloc (by simp <;> omega) _).trans (hb1.mono (by simp <;> omega)))
            have hc1_0 : ∀ o, w1.cell? ⟨w.heap.size, o, none⟩ = _ := fun o => hb1.cell (p := ⟨w.heap.size, o, none⟩) (by simp <;> omega)
            clear hb1
            go_wp2_with fail
            refine (HM.out _ (hB1.out)).mono ?_
            rintro e w' ⟨rfl, rfl⟩
            go_wp2
            go_ret
            exact ⟨by rw [HRV.out, HR.out]; first | (simp [K4.out]; done) | (simp [K4.out, tm]; done), hB1.out⟩
        · have tmz : ¬ t ≤ mf := tm
          · go_enter Try.func23, Try.ntmps23
            go_wp2_with fail
            refine (HT.out _ (HB0.out)).mono ?_
            rintro e w1 ⟨rfl, hb1⟩
            have hlt1 : w.heap.size + 1 ≤ w1.heap.size := by have := hb1.size; simp at this; omega
            have hB1 : Hid (Below w.heap.size w w1) := Lib.hid (((Below.refl _ _).alloc (by simp <;> omega) _).trans (hb1.mono (by simp <;> omega)))
            have hc1_0 : ∀ o, w1.cell? ⟨w.heap.size, o, none⟩ = _ := fun o => hb1.cell (p := ⟨w.heap.size, o, none⟩) (by simp <;> omega)
            clear hb1
            go_wp2_with fail
            refine (HM.out _ (hB1.out)).mono ?_
            rintro e w' ⟨rfl, rfl⟩
            go_wp2
            go_ret
            exact ⟨by rw [HRV.out, HR.out]; first | (simp [K4.out]; done) | (simp [K4.out, tm]; done), hB1.out⟩
      · have k4b : (x.kind == 4) = false := by simpa using k4
        · go_enter Try.func23, Try.ntmps23
          go_wp2
          go_ret
          exact ⟨by rw [HRV.out, HR.out]; simp [k4], ((Below.refl _ _).alloc (by simp <;> omega) _)⟩
  · have n0b : ((n : Int) == 0) = false := by simp [n0]
    cases q with
    | false =>
      cases all with
      | false =>
        · go_enter Try.func23, Try.ntmps23
          go_wp2_with fail
          refine (HC.out _ _ HB0.out HBOX.out).mono ?_
          rintro e w1 ⟨rfl, hb1⟩
          have hlt1 : w.heap.size + 1 ≤ w1.heap.size := by have := hb1.size; simp at this; omega
          have hB1 : Hid (Below w.heap.size w w1) := Lib.hid (((Below.refl _ _).alloc (by simp <;> omega) _).trans (hb1.mono (by simp <;> omega)))
          have hc1_0 : ∀ o, w1.cell? ⟨w.heap.size, o, none⟩ = _ := fun o => hb1.cell (p := ⟨w.heap.size, o, none⟩) (by simp <;> omega)
          clear hb1
          go_wp2
          go_ret
          exact ⟨by rw [HRV.out, HR.out]; simp [n0], hB1.out⟩
      | true =>
        by_cases k4 : x.kind = 4
        · have k4b : (x.kind == 4) = true := by simpa using k4
          have K4 := Lib.hid k4; clear k4
          by_cases tm : t ≤ mf
          · have tmz : t ≤ mf := tm
            · go_enter Try.func23, Try.ntmps23
              go_wp2_with fail
              refine (HC.out _ _ HB0.out HBOX.out).mono ?_
              rintro e w1 ⟨rfl, hb1⟩
              have hlt1 : w.heap.size + 1 ≤ w1.heap.size := by have := hb1.size; simp at this; omega
              have hB1 : Hid (Below w.heap.size w w1) := Lib.hid (((Below.refl _ _).alloc (by simp <;> omega) _).trans (hb1.mono (by simp <;> omega)))
              have hc1_0 : ∀ o, w1.cell? ⟨w.heap.size, o, none⟩ = _ := fun o => hb1.cell (p := ⟨w.heap.size, o, none⟩) (by simp <;> omega)
              clear hb1
              go_wp2_with fail
              refine (HT.out _ (hB1.out)).mono ?_
              rintro e w2 ⟨rfl, hb2⟩
              have hlt2 : w.heap.size + 1 ≤ w2.heap.size := Nat.le_trans hlt1 hb2.size
              have hB2 : Hid (Below w.heap.size w w2) := Lib.hid (hB1.out.trans (hb2.mono (by omega)))
              have hc2_0 : ∀ o, w2.cell? ⟨w.heap.size, o, none⟩ = _ := fun o => hb2.cell (p := ⟨w.heap.size, o, none⟩) (by first | (show w.heap.size < _; omega) | (simp <;> omega))
              clear hb2
              go_wp2_with fail
              refine (HM.out _ (hB2.out)).mono ?_
              rintro e w' ⟨rfl, rfl⟩
              go_wp2
              go_ret
              exact ⟨by rw [HRV.out, HR.out]; first | (simp [K4.out]; done) | (simp [K4.out, n0]; done) | (simp [K4.out, tm]; done) | (simp [K4.out, tm, n0]; done), hB2.out⟩
          · have tmz : ¬ t ≤ mf := tm
            · go_enter Try.func23, Try.ntmps23
              go_wp2_with fail
              refine (HC.out _ _ HB0.out HBOX.out).mono ?_
              rintro e w1 ⟨rfl, hb1⟩
              have hlt1 : w.heap.size + 1 ≤ w1.heap.size := by have := hb1.size; simp at this; omega
              have hB1 : Hid (Below w.heap.size w w1) := Lib.hid (((Below.refl _ _).alloc (by simp <;> omega) _).trans (hb1.mono (by simp <;> omega)))
              have hc1_0 : ∀ o, w1.cell? ⟨w.heap.size, o, none⟩ = _ := fun o => hb1.cell (p := ⟨w.heap.size, o, none⟩) (by simp <;> omega)
              clear hb1
              go_wp2_with fail
              refine (HT.out _ (hB1.out)).mono ?_
              rintro e w2 ⟨rfl, hb2⟩
              have hlt2 : w.heap.size + 1 ≤ w2.heap.size := Nat.le_trans hlt1 hb2.size
              have hB2 : Hid (Below w.heap.size w w2) := Lib.hid (hB1.out.trans (hb2.mono (by omega)))
              have hc2_0 : ∀ o, w2.cell? ⟨w.heap.size, o, none⟩ = _ := fun o => hb2.cell (p := ⟨w.heap.size, o, none⟩) (by first | (show w.heap.size < _; omega) | (simp <;> omega))
              clear hb2
              go_wp2_with fail
              refine (HM.out _ (hB2.out)).mono ?_
              rintro e w' ⟨rfl, rfl⟩
              go_wp2
              go_ret
              exact ⟨by rw [HRV.out, HR.out]; first | (simp [K4.out]; done) | (simp [K4.out, n0]; done) | (simp [K4.out, tm]; done) | (simp [K4.out, tm, n0]; done), hB2.out⟩
        · have k4b : (x.kind == 4) = false := by simpa using k4
          · go_enter Try.func23, Try.ntmps23
            go_wp2_with fail
            refine (HC.out _ _ HB0.out HBOX.out).mono ?_
            rintro e w1 ⟨rfl, hb1⟩
            have hlt1 : w.heap.size + 1 ≤ w1.heap.size := by have := hb1.size; simp at this; omega
            have hB1 : Hid (Below w.heap.size w w1) := Lib.hid (((Below.refl _ _).alloc (by simp <;> omega) _).trans (hb1.mono (by simp <;> omega)))
            have hc1_0 : ∀ o, w1.cell? ⟨w.heap.size, o, none⟩ = _ := fun o => hb1.cell (p := ⟨w.heap.size, o, none⟩) (by simp <;> omega)
            clear hb1
            go_wp2
            go_ret
            exact ⟨by rw [HRV.out, HR.out]; first | (simp [k4]; done) | (simp [k4, n0]; done), hB1.out⟩
    | true =>
      cases all with
      | false =>
        · go_enter Try.func23, Try.ntmps23
          go_wp2_with fail
          refine (HC.out _ _ HB0.out HBOX.out).mono ?_
          rintro e w1 ⟨rfl, hb1⟩
          have hlt1 : w.heap.size + 1 ≤ w1.heap.size := by have := hb1.size; simp at this; omega
          have hB1 : Hid (Below w.heap.size w w1) := Lib.hid (((Below.refl _ _).alloc (by simp <;> omega) _).trans (hb1.mono (by simp <;> omega)))
          have hc1_0 : ∀ o, w1.cell? ⟨w.heap.size, o, none⟩ = _ := fun o => hb1.cell (p := ⟨w.heap.size, o, none⟩) (by simp <;> omega)
          clear hb1
          go_wp2
          go_ret
          exact ⟨by rw [HRV.out, HR.out]; simp [n0], hB1.out⟩
      | true =>
        by_cases k4 : x.kind = 4
        · have k4b : (x.kind == 4) = true := by simpa using k4
          have K4 := Lib.hid k4; clear k4
          by_cases tm : t ≤ mf
          · have tmz : t ≤ mf := tm
            · go_enter Try.func23, Try.ntmps23
              go_wp2_with fail
              refine (HC.out _ _ HB0.out HBOX.out).mono ?_
              rintro e w1 ⟨rfl, hb1⟩
              have hlt1 : w.heap.size + 1 ≤ w1.heap.size := by have := hb1.size; simp at this; omega
              have hB1 : Hid (Below w.heap.size w w1) := Lib.hid (((Below.refl _ _).alloc (by simp <;> omega) _).trans (hb1.mono (by simp <;> omega)))
              have hc1_0 : ∀ o, w1.cell? ⟨w.heap.size, o, none⟩ = _ := fun o => hb1.cell (p := ⟨w.heap.size, o, none⟩) (by simp <;> omega)
              clear hb1
              go_wp2_with fail
              refine (HT.out _ (hB1.out)).mono ?_
              rintro e w2 ⟨rfl, hb2⟩
              have hlt2 : w.heap.size + 1 ≤ w2.heap.size := Nat.le_trans hlt1 hb2.size
              have hB2 : Hid (Below w.heap.size w w2) := Lib.hid (hB1.out.trans (hb2.mono (by omega)))
              have hc2_0 : ∀ o, w2.cell? ⟨w.heap.size, o, none⟩ = _ := fun o => hb2.cell (p := ⟨w.heap.size, o, none⟩) (by first | (show w.heap.size < _; omega) | (simp <;> omega))
              clear hb2
              go_wp2_with fail
              refine (HM.out _ (hB2.out)).mono ?_
              rintro e w' ⟨rfl, rfl⟩
              go_wp2
              go_ret
              exact ⟨by rw [HRV.out, HR.out]; first | (simp [K4.out]; done) | (simp [K4.out, n0]; done) | (simp [K4.out, tm]; done) | (simp [K4.out, tm, n0]; done), hB2.out⟩
          · have tmz : ¬ t ≤ mf := tm
            · go_enter Try.func23, Try.ntmps23
              go_wp2_with fail
              refine (HC.out _ _ HB0.out HBOX.out).mono ?_
              rintro e w1 ⟨rfl, hb1⟩
              have hlt1 : w.heap.size + 1 ≤ w1.heap.size := by have := hb1.size; simp at this; omega
              have hB1 : Hid (Below w.heap.size w w1) := Lib.hid (((Below.refl _ _).alloc (by simp <;> omega) _).trans (hb1.mono (by simp <;> omega)))
              have hc1_0 : ∀ o, w1.cell? ⟨w.heap.size, o, none⟩ = _ := fun o => hb1.cell (p := ⟨w.heap.size, o, none⟩) (by simp <;> omega)
              clear hb1
              go_wp2_with fail
              refine (HT.out _ (hB1.out)).mono ?_
              rintro e w2 ⟨rfl, hb2⟩
              have hlt2 : w.heap.size + 1 ≤ w2.heap.size := Nat.le_trans hlt1 hb2.size
              have hB2 : Hid (Below w.heap.size w w2) := Lib.hid (hB1.out.trans (hb2.mono (by omega)))
              have hc2_0 : ∀ o, w2.cell? ⟨w.heap.size, o, none⟩ = _ := fun o => hb2.cell (p := ⟨w.heap.size, o, none⟩) (by first | (show w.heap.size < _; omega) | (simp <;> omega))
              clear hb2
              go_wp2_with fail
              refine (HM.out _ (hB2.out)).mono ?_
              rintro e w' ⟨rfl, rfl⟩
              go_wp2
              go_ret
              exact ⟨by rw [HRV.out, HR.out]; first | (simp [K4.out]; done) | (simp [K4.out, n0]; done) | (simp [K4.out, tm]; done) | (simp [K4.out, tm, n0]; done), hB2.out⟩
        · have k4b : (x.kind == 4) = false := by simpa using k4
          · go_enter Try.func23, Try.ntmps23
            go_wp2_with fail
            refine (HC.out _ _ HB0.out HBOX.out).mono ?_
            rintro e w1 ⟨rfl, hb1⟩
            have hlt1 : w.heap.size + 1 ≤ w1.heap.size := by have := hb1.size; simp at this; omega
            have hB1 : Hid (Below w.heap.size w w1) := Lib.hid (((Below.refl _ _).alloc (by simp <;> omega) _).trans (hb1.mono (by simp <;> omega)))
            have hc1_0 : ∀ o, w1.cell? ⟨w.heap.size, o, none⟩ = _ := fun o => hb1.cell (p := ⟨w.heap.size, o, none⟩) (by simp <;> omega)
            clear hb1
            go_wp2
            go_ret
            exact ⟨by rw [HRV.out, HR.out]; first | (simp [k4]; done) | (simp [k4, n0]; done), hB1.out⟩

end Go.Proofs.Ythicjpkomigacaa
