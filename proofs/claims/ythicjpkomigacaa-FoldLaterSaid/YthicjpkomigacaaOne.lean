/- fold.one. -/
import Derived.Test.YthicjpkomigacaaFoldD
import Derived.Test.YthicjpkomigacaaJoin
import Derived.Test.YthicjpkomigacaaList
namespace Go.Proofs.Ythicjpkomigacaa
open Go.RowKit

theorem bothD_num {k : ByteArray} {a b : ActD} (ha : a.num < 18446744073709551616) (hb : b.num < 18446744073709551616) : (bothD k a b).num < 18446744073709551616 := by
  unfold bothD
  split
  · exact hb
  · exact joinD_num ha hb

/-- The box of a version, the call's own: its cells lie there and can be written. -/
def BoxV (w : World) (g : Nat) (x : VerV) : Prop :=
  (w.cell? ⟨g, 0, none⟩ = some (.string x.key) ∧ w.cell? ⟨g, 1, none⟩ = some (.slice x.A x.n x.c) ∧ w.cell? ⟨g, 2, none⟩ = some (.int .i64 x.origin) ∧ w.cell? ⟨g, 3, none⟩ = some (.int .i64 x.tx) ∧
   w.cell? ⟨g, 4, none⟩ = some (.int .i64 x.kind) ∧ w.cell? ⟨g, 5, none⟩ = some (.float .f64 x.num) ∧ w.cell? ⟨g, 6, none⟩ = some (.int .i64 x.int) ∧ w.cell? ⟨g, 7, none⟩ = some (.string x.text)) ∧
  (w.frozen? ⟨g, 0, none⟩ = false ∧ w.frozen? ⟨g, 1, none⟩ = false ∧ w.frozen? ⟨g, 2, none⟩ = false ∧ w.frozen? ⟨g, 3, none⟩ = false ∧ w.frozen? ⟨g, 4, none⟩ = false ∧ w.frozen? ⟨g, 5, none⟩ = false ∧ w.frozen? ⟨g, 6, none⟩ = false ∧ w.frozen? ⟨g, 7, none⟩ = false)

theorem BoxV.below {w w' : World} {g : Nat} {x : VerV} (h : BoxV w g x) {N : Nat} (hb : Below N w w') (hg : g < N) : BoxV w' g x := by
  obtain ⟨⟨a0, a1, a2, a3, a4, a5, a6, a7⟩, b0, b1, b2, b3, b4, b5, b6, b7⟩ := h
  have q := fun o => hb.cell (p := ⟨g, o, none⟩) hg
  have r := fun o => hb.frozen (p := ⟨g, o, none⟩) hg
  simp only [BoxV, q, r]
  exact ⟨⟨a0, a1, a2, a3, a4, a5, a6, a7⟩, b0, b1, b2, b3, b4, b5, b6, b7⟩

/-- Only block g is written. -/
theorem VecR.setCell {w : World} {v : Value} {xs : List Int} (h : VecR w v xs) {p : Addr} (hne : 0 < xs.length → v.ownBlock ≠ some p.block) (u : Value) : VecR (w.setCell p u) v xs :=
  h.of_block fun h0 => by
    obtain ⟨A, c, rfl, _, _, hc⟩ := h
    obtain ⟨b, o, rfl, _⟩ := hc 0 h0
    refine ⟨b, rfl, ?_⟩
    rw [Below.heap_setCell _ _ _ _ (by have := hne h0; simpa [Value.ownBlock] using this)]

/-- What fold.one holds behind j rounds. -/
theorem one_states (k : ByteArray) (es : List VerD) (m : Nat) (hn : es.length = m + 1) : ∃ st : Nat → VerD, st 0 = ⟨k, (es.getD m default).at_, 254, (es.getD m default).tx, (es.getD m default).act⟩ ∧ (∀ p j, p + 1 + j = m → st (j + 1) = oneStep k (st j) (es.getD p default)) ∧ st m = oneD k es := by
  refine ⟨fun j => ((((es.take m).reverse).take j).foldl (oneStep k) ⟨k, (es.getD m default).at_, 254, (es.getD m default).tx, (es.getD m default).act⟩), rfl, fun p j hp => ?_, ?_⟩
  · dsimp only
    have hlen : ((es.take m).reverse).length = m := by rw [List.length_reverse, List.length_take]; omega
    rw [List.take_succ_eq_append_getElem (by omega), List.foldl_append]
    have : ((es.take m).reverse)[j]'(by omega) = es.getD p default := by
      rw [List.getElem_reverse, List.getElem_take, getD_lt _ _ (by omega)]
      congr 1
      simp; omega
    rw [this]
    rfl
  · have hrev : es.reverse = es.getD m default :: (es.take m).reverse := by
      have h : es = es.take m ++ [es.getD m default] := by
        have := List.take_succ_eq_append_getElem (l := es) (i := m) (by omega)
        rw [getD_lt _ _ (by omega), ← this, List.take_of_length_le (by omega)]
      conv => lhs; rw [h]
      simp
    dsimp only
    unfold oneD
    rw [hrev, List.take_of_length_le (by rw [List.length_reverse, List.length_take]; omega)]

theorem FreshB.setCell {base : Nat} {w : World} {v : Value} {xs : List Int} (h : FreshB base w v xs) {p : Addr} (hne : 0 < xs.length → v.ownBlock ≠ some p.block) (u : Value) : FreshB base (w.setCell p u) v xs := fun h0 => by
  obtain ⟨b, cur, h1, h2, h3⟩ := h h0
  refine ⟨b, cur, h1, h2, ?_⟩
  rw [Below.heap_setCell _ _ _ _ (by have := hne h0; rw [h1] at this; simpa using this)]
  exact h3

/-- Where the version's times lie: behind no round below the boxes B to B + 2, then in a block of their own behind them. -/
def Far (B : Nat) (w : World) (y : VerV) (v : VerD) (j : Nat) : Prop := (j = 0 → 0 < v.at_.length → ∀ b, y.slice.ownBlock = some b → b < B) ∧ (0 < j → FreshB (B + 3) w y.slice v.at_)

theorem Far.ne {B : Nat} {w : World} {y : VerV} {v : VerD} {j : Nat} (h : Far B w y v j) (h0 : 0 < v.at_.length) {b : Nat} (hb : B ≤ b) (hb3 : b < B + 3) : y.slice.ownBlock ≠ some b := fun e => by
  rcases Nat.eq_zero_or_pos j with hj | hj
  · have := h.1 hj h0 b e; omega
  · obtain ⟨b2, _, h1, h2, _⟩ := h.2 hj h0
    rw [e] at h1; cases h1; omega

set_option maxRecDepth 100000 in
set_option maxHeartbeats 6400000 in
theorem one_any (k : ByteArray) (va : Value) (es : List VerD) (w : World) (hv : VersR w va es) (hnl : es.length ≤ 100000) (h0 : 0 < es.length) (hx : ∀ v ∈ es, v.act.num < 18446744073709551616) (hl : ∀ v ∈ es, v.at_.length ≤ 1000000) :
    Calls Try.prog 25 #[.string k, va] w (RetV fun v w' => Below w.heap.size w w' ∧ ∃ x : VerV, v = .agg x.cells.toArray ∧ Means w' x (oneD k es) ∧ (1 < es.length → FreshB w.heap.size w' x.slice (oneD k es).at_)) := by
  have hsf := run_store_float Try.prog
  obtain ⟨A, c, f, rfl, h1, h2, h3, h4⟩ := hv
  unfold maxLen at h2
  generalize hn : es.length = n at *
  obtain ⟨m, rfl⟩ : ∃ m, n = m + 1 := ⟨n - 1, by omega⟩
  obtain ⟨st, hs0, hsucc, hend⟩ := one_states k es m hn
  have hin : ∀ j, j < m + 1 → es.getD j default ∈ es ∧ es[j]? = some (es.getD j default) := fun j hj => by
    rw [getD_lt _ _ (by omega)]; exact ⟨List.getElem_mem _, List.getElem?_eq_getElem _⟩
  have hlen : ∀ j, j ≤ m → (st j).at_.length ≤ 1000000 ∧ (st j).act.num < 18446744073709551616 := fun j => by
    induction j with
    | zero => intro _; rw [hs0]; have q := (hin m (by omega)).1; exact ⟨hl (es.getD m default) q, hx (es.getD m default) q⟩
    | succ j ih =>
      intro hj
      obtain ⟨q1, q2⟩ := ih (by omega)
      rw [hsucc (m - 1 - j) j (by omega)]
      refine ⟨?_, bothD_num q2 (hx _ (hin _ (by omega)).1)⟩
      show (joinL _ _).length ≤ _
      unfold joinL
      split
      · rw [List.length_zipWith]; omega
      · simp
  have hmean : ∀ j, j < m + 1 → Means w (f j) (es.getD j default) := fun j hj => h4 j _ (hin j hj).2
  have hnum : ∀ j, j < m + 1 → (es.getD j default).act.num < 18446744073709551616 := fun j hj => hx _ (hin j hj).1
  obtain ⟨b, o, rfl, hcells⟩ := h3 m (by omega)
  have hx := elem_facts hcells
  have HNL := Lib.hid hn; have HEND := Lib.hid hend; have HSUCC := Lib.hid hsucc; have HS0 := Lib.hid hs0; have HLEN := Lib.hid hlen; have HNUM := Lib.hid hnum; have HMEAN := Lib.hid hmean
  have HF := Lib.hid (hmean m (by omega)); have H3 := Lib.hid h3
  clear hcells h3 h4 hend hsucc hs0 hlen hin hl hmean hn hnum h0
  generalize f m = x at hx HF
  obtain ⟨x0, x1, x2, x3, x4, x5, x6, x7⟩ := hx
  have y0 := cell_new x0; have y1 := cell_new x1; have y2 := cell_new x2; have y3 := cell_new x3; have y4 := cell_new x4; have y5 := cell_new x5; have y6 := cell_new x6; have y7 := cell_new x7
  obtain ⟨B, hB⟩ : ∃ B, B = w.heap.size := ⟨_, rfl⟩
  have HB := Lib.hid hB; clear hB
  have hbB : b < B := by rw [HB.out]; exact World.block_lt_of_cell? w _ x0
  go_enter Try.func25, Try.ntmps25
  go_wp2
  rw [← HB.out]
  clear x0 x1 x2 x3 x4 x5 x6 x7 y0 y1 y2 y3 y4 y5 y6 y7
  go_loopw [7] (fun vi wr => ∃ (q j : Nat) (y : VerV), q + j = m ∧ vi = .int .i64 ((q : Int) - 1) ∧ Hid (BoxV wr B ⟨⟨#[]⟩, none, 0, 0, 0, 0, 0, 0, 0, ⟨#[]⟩⟩) ∧ Hid (BoxV wr (B + 1 + 1) y) ∧ Hid (Means wr y (st j)) ∧ Hid (Far B wr y (st j) j) ∧ Hid (Below B w wr) ∧ Hid (B + 3 ≤ wr.heap.size)) (fun vi _ => (intOf vi + 1).toNat)
  case atStart =>
    have hB := HB.out
    subst hB
    have hbw : Below w.heap.size w (((w.alloc (.cells #[.string ⟨#[]⟩, .slice none 0 0, .int .i64 0, .int .i64 0, .int .i64 0, .float .f64 0, .int .i64 0, .string ⟨#[]⟩] 35)).alloc (.cells #[.string x.key, .slice x.A x.n x.c, .int .i64 x.origin, .int .i64 x.tx, .int .i64 x.kind, .float .f64 x.num, .int .i64 x.int, .string x.text] 35)).alloc (.cells #[.string k, .slice x.A x.n x.c, .int .i64 254, .int .i64 x.tx, .int .i64 x.kind, .float .f64 x.num, .int .i64 x.int, .string x.text] 35)) :=
      (((Below.refl _ _).alloc (Nat.le_refl _) _).alloc (by simp) _).alloc (by simp <;> omega) _
    refine ⟨m, 0, ⟨k, x.A, x.n, x.c, 254, x.tx, x.kind, x.num, x.int, x.text⟩, by omega, by congr 1; omega, ?_, ?_, ?_, ?_, hbw, by show _ ≤ _; simp⟩
    · show BoxV _ _ _
      simp [BoxV, go_sem]
    · show BoxV _ _ _
      simp [BoxV, go_sem]
    · have q := HF.out.below hbw
      refine ⟨?_, ?_⟩
      · rw [HS0.out]; exact q.1
      · rw [HS0.out, q.2]; rfl
    · refine ⟨fun _ h0 b' hb' => ?_, fun h => by omega⟩
      rw [HS0.out] at h0
      obtain ⟨A', c', hsl, _, _, hcc⟩ := HF.out.1
      obtain ⟨b2, o2, rfl, hc2⟩ := hcc 0 h0
      simp only [VerV.slice, Value.slice.injEq] at hsl hb'
      rw [hsl.1] at hb'
      simp only [Value.ownBlock, Option.some.injEq] at hb'
      subst hb'
      exact World.block_lt_of_cell? w _ hc2
  case round =>
    obtain ⟨q, j, y, hqj, rfl, HR0, HBX, HME, HFAR, HBW, HZ⟩ := hrel
    cases q with
    | zero =>
      obtain rfl : j = m := by omega
      rw [show (((0 : Nat) : Int) - 1) = -1 from rfl]
      obtain ⟨⟨b0, b1, b2, b3, b4, b5, b6, b7⟩, z0, z1, z2, z3, z4, z5, z6, z7⟩ := HBX.out
      obtain ⟨⟨r0, r1, r2, r3, r4, r5, r6, r7⟩, t0, t1, t2, t3, t4, t5, t6, t7⟩ := HR0.out
      have hme := HME.out; have hfar := HFAR.out
      rw [HEND.out] at hme hfar
      have HME2 := Lib.hid hme; have HFAR2 := Lib.hid hfar; clear hme hfar
      go_wp2
      refine bodyPost_ret (v := .agg #[.string y.key, .slice y.A y.n y.c, .int .i64 y.origin, .int .i64 y.tx, .int .i64 y.kind, .float .f64 y.num, .int .i64 y.int, .string y.text]) (by simp [results, Try.results25, go_sem, r0, r1, r2, r3, r4, r5, r6, r7]) rfl ?_
      have hne : 0 < (oneD k es).at_.length → y.slice.ownBlock ≠ some B := fun h0 => HFAR2.out.ne h0 (Nat.le_refl _) (by omega)
      refine ⟨_, rfl, ?_, y, rfl, ⟨?_, HME2.out.2⟩, fun h1 => ?_⟩
      · rw [← HB.out]
        iterate 8 refine Below.setCell (p := ⟨B, _, none⟩) ?_ (Nat.le_refl B) _
        exact HBW.out
      · iterate 8 refine VecR.setCell ?_ hne _
        exact HME2.out.1
      · have h2 := HFAR2.out.2 (by have := HNL.out; omega)
        rw [← HB.out]
        iterate 8 refine FreshB.setCell ?_ hne _
        exact h2.mono (by omega)
    | succ p =>
      rw [show (((p + 1 : Nat) : Int) - 1) = (p : Int) by omega]
      have hstep := HSUCC.out p j hqj
      obtain ⟨hl1, hn1⟩ := HLEN.out j (by omega)
      have hn2 := HNUM.out p (by omega)
      have hxm := HMEAN.out p (by omega)
      obtain ⟨b', o', hA, hcells⟩ := H3.out p (by omega)
      cases hA
      have hcx := elem_facts (w := wr) (x := f p) (fun i u hu => (HBW.out.cell (p := ⟨b, o + p * 8 + i, none⟩) hbB).trans (hcells i u hu))
      have hBr : Below w.heap.size w wr := by rw [← HB.out]; exact HBW.out
      generalize es.getD p default = v at hstep hn2 hxm
      generalize f p = x at hcx hxm
      have hxm2 := hxm.below hBr
      have hjoin : ∀ W, Below wr.heap.size wr W → Calls Try.prog 12 #[.slice y.A y.n y.c, .slice x.A x.n x.c] W (RetV (JoinP W (st j).at_ v.at_)) := fun W hW =>
        join_any _ _ _ _ W (HME.out.1.below hW) (hxm2.1.below hW) hl1
      have hboth := fun W => both_any k (st j).act v.act hn1 hn2 W
      have hys := HME.out.2; have hxs := hxm.2
      generalize st j = s at hstep hjoin hboth hys
      rw [hys, hxs] at hboth hstep
      simp only [oneStep, VerV.data, encA] at hboth hstep
      generalize bothD k ⟨y.kind, y.num, y.int, y.text⟩ ⟨x.kind, x.num, x.int, x.text⟩ = r at hboth hstep
      obtain ⟨x0, x1, x2, x3, x4, x5, x6, x7⟩ := hcx
      have c0 := cell_new x0; have c1 := cell_new x1; have c2 := cell_new x2; have c3 := cell_new x3; have c4 := cell_new x4; have c5 := cell_new x5; have c6 := cell_new x6; have c7 := cell_new x7
      have HST := Lib.hid hstep; have HJ := Lib.hid hjoin; have HBO := Lib.hid hboth
      clear hstep hjoin hboth hys hxs hn1 hn2 hl1 hxm hxm2 hcells hBr
      have hz := HZ.out
      obtain ⟨⟨b0, b1, b2, b3, b4, b5, b6, b7⟩, z0, z1, z2, z3, z4, z5, z6, z7⟩ := HBX.out
      have d1 := cell_new b1
      go_wp2_with fail
      refine (HJ.out _ ((Below.refl _ _).alloc (Nat.le_refl _) _)).mono ?_
      rintro e w1 ⟨vj, rfl, hb1, hvj, hfj⟩
      have hw1 : Below wr.heap.size wr w1 := ((Below.refl _ _).alloc (Nat.le_refl _) _).trans (hb1.mono (by simp))
      obtain ⟨⟨g0, g1, g2, g3, g4, g5, g6, g7⟩, q0, q1, q2, q3, q4, q5, q6, q7⟩ := HBX.out.below hw1 (by omega)
      have hc1 : ∀ o, w1.cell? ⟨wr.heap.size, o, none⟩ = _ := fun o => hb1.cell (p := ⟨wr.heap.size, o, none⟩) (by simp)
      have hne1 : ¬ wr.heap.size = B + 1 + 1 := by omega
      have hz1 : wr.heap.size + 1 ≤ w1.heap.size := by have := hb1.size; simpa using this
      have HR1 := Lib.hid (HR0.out.below hw1 (by omega))
      obtain ⟨Aj, cj, rfl, _⟩ := hvj
      have HVJ := Lib.hid (show VecR w1 _ _ from ⟨Aj, cj, rfl, by assumption⟩)
      have HFJ := Lib.hid hfj; have HW1 := Lib.hid hw1
      clear hb1 hfj hw1 b0 b1 b2 b3 b4 b5 b6 b7 z0 z1 z2 z3 z4 z5 z6 z7 d1 c0 c1 c2 c3 c4 c5 c6 c7 x0 x1 x2 x3 x4 x5 x6 x7 HBX
      generalize hnj : (joinL s.at_ v.at_).length = nj at *
      have HNJ := Lib.hid hnj; clear hnj
      by_cases htx : y.tx < x.tx
      · go_wp2_with fail
        refine (HBO.out _).mono ?_
        rintro e w2 ⟨rfl, hb2⟩
        have hc2 : ∀ o, w2.cell? ⟨B + 1 + 1, o, none⟩ = _ := fun o => hb2.cell (p := ⟨B + 1 + 1, o, none⟩) (by simp; omega)
        have hf2 : ∀ o, w2.frozen? ⟨B + 1 + 1, o, none⟩ = _ := fun o => hb2.frozen (p := ⟨B + 1 + 1, o, none⟩) (by simp; omega)
        have hz2 : wr.heap.size + 1 ≤ w2.heap.size := by have := hb2.size; simp at this; omega
        have hbw2 : Below B w w2 := ((((HBW.out.trans (HW1.out.mono (by omega))).setCell (p := ⟨B + 1 + 1, 1, none⟩) (by show B ≤ B + 1 + 1; omega) _).setCell (p := ⟨B + 1 + 1, 3, none⟩) (by show B ≤ B + 1 + 1; omega) _).trans (hb2.mono (by simp; omega)))
        have hne2 : 0 < (joinL s.at_ v.at_).length → (Value.slice Aj nj cj).ownBlock ≠ some (B + 1 + 1) := fun h0 e => by
          obtain ⟨b2, _, e1, e2, _⟩ := HFJ.out h0
          rw [e] at e1
          cases e1
          simp at e2; omega
        have hvr2 : VecR w2 (.slice Aj nj cj) (joinL s.at_ v.at_) := ((HVJ.out.setCell (p := ⟨B + 1 + 1, 1, none⟩) hne2 _).setCell (p := ⟨B + 1 + 1, 3, none⟩) hne2 _).below hb2
        have hfr2 : FreshB (B + 3) w2 (.slice Aj nj cj) (joinL s.at_ v.at_) := (((HFJ.out.mono (by simp; omega)).setCell (p := ⟨B + 1 + 1, 1, none⟩) hne2 _).setCell (p := ⟨B + 1 + 1, 3, none⟩) hne2 _).below hb2
        have HFR2 := Lib.hid hfr2; clear hfr2
        have hr2 : BoxV w2 B ⟨⟨#[]⟩, none, 0, 0, 0, 0, 0, 0, 0, ⟨#[]⟩⟩ := by
          obtain ⟨⟨r0, r1, r2, r3, r4, r5, r6, r7⟩, t0, t1, t2, t3, t4, t5, t6, t7⟩ := HR1.out
          have e1 : ∀ o, w2.cell? ⟨B, o, none⟩ = w1.cell? ⟨B, o, none⟩ := fun o => by
            rw [hb2.cell (p := ⟨B, o, none⟩) (by simp; omega)]
            simp [go_sem]
          have e2 : ∀ o, w2.frozen? ⟨B, o, none⟩ = w1.frozen? ⟨B, o, none⟩ := fun o => by
            rw [hb2.frozen (p := ⟨B, o, none⟩) (by simp; omega)]
            simp [go_sem]
          simp only [BoxV, e1, e2]
          exact ⟨⟨r0, r1, r2, r3, r4, r5, r6, r7⟩, t0, t1, t2, t3, t4, t5, t6, t7⟩
        have HC2 := Lib.hid hc2; have HF2 := Lib.hid hf2
        have HBW2 := Lib.hid hbw2; have HNE2 := Lib.hid hne2; have HVR2 := Lib.hid hvr2; have HR2 := Lib.hid hr2
        clear hb2 hbw2 hne2 hvr2 hr2
        go_wp2
        go_roundw
        case rel =>
          refine ⟨p, j + 1, ⟨y.key, Aj, nj, cj, y.origin, x.tx, r.kind, r.num, r.int, r.text⟩, by omega, rfl, ?_, ?_, ?_, ?_, ?_, ?_⟩
          · have h := HR2.out
            show BoxV _ _ _
            simpa [BoxV, go_sem] using h
          · show BoxV _ _ _
            simp [BoxV, go_sem, hc2, hf2, g0, g1, g2, g3, g4, g5, g6, g7, q0, q1, q2, q3, q4, q5, q6, q7]
          · refine ⟨?_, ?_⟩
            · rw [HST.out]
              iterate 4 refine VecR.setCell ?_ HNE2.out _
              exact HVR2.out
            · rw [HST.out]
              show (⟨_, _, _, _, _⟩ : VerD) = ⟨_, _, _, _, _⟩
              rw [show mx y.tx x.tx = x.tx from if_pos htx]
          · rw [HST.out]
            refine ⟨fun h => by omega, fun _ => ?_⟩
            iterate 4 refine FreshB.setCell ?_ HNE2.out _
            exact HFR2.out
          · show Below _ _ _
            iterate 4 refine Below.setCell (p := ⟨B + 1 + 1, _, none⟩) ?_ (by show B ≤ B + 1 + 1; omega) _
            exact HBW2.out
          · show _ ≤ _
            simp [go_sem]; omega
        case measure => simp [intOf]
      · go_wp2_with fail
        refine (HBO.out _).mono ?_
        rintro e w2 ⟨rfl, hb2⟩
        have hc2 : ∀ o, w2.cell? ⟨B + 1 + 1, o, none⟩ = _ := fun o => hb2.cell (p := ⟨B + 1 + 1, o, none⟩) (by simp; omega)
        have hf2 : ∀ o, w2.frozen? ⟨B + 1 + 1, o, none⟩ = _ := fun o => hb2.frozen (p := ⟨B + 1 + 1, o, none⟩) (by simp; omega)
        have hz2 : wr.heap.size + 1 ≤ w2.heap.size := by have := hb2.size; simp at this; omega
        have hbw2 : Below B w w2 := ((((HBW.out.trans (HW1.out.mono (by omega))).setCell (p := ⟨B + 1 + 1, 1, none⟩) (by show B ≤ B + 1 + 1; omega) _).setCell (p := ⟨B + 1 + 1, 3, none⟩) (by show B ≤ B + 1 + 1; omega) _).trans (hb2.mono (by simp; omega)))
        have hne2 : 0 < (joinL s.at_ v.at_).length → (Value.slice Aj nj cj).ownBlock ≠ some (B + 1 + 1) := fun h0 e => by
          obtain ⟨b2, _, e1, e2, _⟩ := HFJ.out h0
          rw [e] at e1
          cases e1
          simp at e2; omega
        have hvr2 : VecR w2 (.slice Aj nj cj) (joinL s.at_ v.at_) := ((HVJ.out.setCell (p := ⟨B + 1 + 1, 1, none⟩) hne2 _).setCell (p := ⟨B + 1 + 1, 3, none⟩) hne2 _).below hb2
        have hfr2 : FreshB (B + 3) w2 (.slice Aj nj cj) (joinL s.at_ v.at_) := (((HFJ.out.mono (by simp; omega)).setCell (p := ⟨B + 1 + 1, 1, none⟩) hne2 _).setCell (p := ⟨B + 1 + 1, 3, none⟩) hne2 _).below hb2
        have HFR2 := Lib.hid hfr2; clear hfr2
        have hr2 : BoxV w2 B ⟨⟨#[]⟩, none, 0, 0, 0, 0, 0, 0, 0, ⟨#[]⟩⟩ := by
          obtain ⟨⟨r0, r1, r2, r3, r4, r5, r6, r7⟩, t0, t1, t2, t3, t4, t5, t6, t7⟩ := HR1.out
          have e1 : ∀ o, w2.cell? ⟨B, o, none⟩ = w1.cell? ⟨B, o, none⟩ := fun o => by
            rw [hb2.cell (p := ⟨B, o, none⟩) (by simp; omega)]
            simp [go_sem]
          have e2 : ∀ o, w2.frozen? ⟨B, o, none⟩ = w1.frozen? ⟨B, o, none⟩ := fun o => by
            rw [hb2.frozen (p := ⟨B, o, none⟩) (by simp; omega)]
            simp [go_sem]
          simp only [BoxV, e1, e2]
          exact ⟨⟨r0, r1, r2, r3, r4, r5, r6, r7⟩, t0, t1, t2, t3, t4, t5, t6, t7⟩
        have HC2 := Lib.hid hc2; have HF2 := Lib.hid hf2
        have HBW2 := Lib.hid hbw2; have HNE2 := Lib.hid hne2; have HVR2 := Lib.hid hvr2; have HR2 := Lib.hid hr2
        clear hb2 hbw2 hne2 hvr2 hr2
        go_wp2
        go_roundw
        case rel =>
          refine ⟨p, j + 1, ⟨y.key, Aj, nj, cj, y.origin, y.tx, r.kind, r.num, r.int, r.text⟩, by omega, rfl, ?_, ?_, ?_, ?_, ?_, ?_⟩
          · have h := HR2.out
            show BoxV _ _ _
            simpa [BoxV, go_sem] using h
          · show BoxV _ _ _
            simp [BoxV, go_sem, hc2, hf2, g0, g1, g2, g3, g4, g5, g6, g7, q0, q1, q2, q3, q4, q5, q6, q7]
          · refine ⟨?_, ?_⟩
            · rw [HST.out]
              iterate 4 refine VecR.setCell ?_ HNE2.out _
              exact HVR2.out
            · rw [HST.out]
              show (⟨_, _, _, _, _⟩ : VerD) = ⟨_, _, _, _, _⟩
              rw [show mx y.tx x.tx = y.tx from if_neg (by omega)]
          · rw [HST.out]
            refine ⟨fun h => by omega, fun _ => ?_⟩
            iterate 4 refine FreshB.setCell ?_ HNE2.out _
            exact HFR2.out
          · show Below _ _ _
            iterate 4 refine Below.setCell (p := ⟨B + 1 + 1, _, none⟩) ?_ (by show B ≤ B + 1 + 1; omega) _
            exact HBW2.out
          · show _ ≤ _
            simp [go_sem]; omega
        case measure => simp [intOf]

end Go.Proofs.Ythicjpkomigacaa
