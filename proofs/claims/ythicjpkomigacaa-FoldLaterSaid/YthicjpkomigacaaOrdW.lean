/- fold.Order: the walk. -/
import Derived.Test.YthicjpkomigacaaVers
import Derived.Test.YthicjpkomigacaaStab
import Derived.Test.YthicjpkomigacaaComp
import Derived.Deep.AppendLies
namespace Go.Proofs.Ythicjpkomigacaa
open Go.RowKit

instance : Inhabited VerD := ⟨⟨ByteArray.empty, [], 0, 0, ⟨0, 0, 0, ByteArray.empty⟩⟩⟩

def rowCells (f : Nat → VerV) (k : Nat) : List Value := (List.range k).flatMap fun j => (f j).cells

theorem rowCells_succ (f : Nat → VerV) (k : Nat) : rowCells f (k + 1) = rowCells f k ++ (f k).cells := by simp [rowCells, List.range_succ]
theorem rowCells_congr {f f' : Nat → VerV} {k : Nat} (h : ∀ j, j < k → f j = f' j) : rowCells f k = rowCells f' k := by
  induction k with
  | zero => rfl
  | succ k ih => rw [rowCells_succ, rowCells_succ, ih fun j hj => h j (by omega), h k (by omega)]
theorem rowCells_len (f : Nat → VerV) (k : Nat) : (rowCells f k).length = k * 8 := by
  induction k with
  | zero => rfl
  | succ k ih => rw [rowCells_succ, List.length_append, ih]; simp [VerV.cells]; omega
theorem rowCells_at (f : Nat → VerV) (k j i : Nat) (u : Value) (hj : j < k) (hu : (f j).cells[i]? = some u) : (rowCells f k)[j * 8 + i]? = some u := by
  have hi : i < 8 := (List.getElem?_eq_some_iff.1 hu).1
  induction k with
  | zero => omega
  | succ k ih =>
    rw [rowCells_succ]
    by_cases e : j = k
    · subst e
      rw [List.getElem?_append_right (by rw [rowCells_len]; omega), rowCells_len, show j * 8 + i - j * 8 = i by omega]
      exact hu
    · rw [List.getElem?_append_left (by rw [rowCells_len]; omega)]
      exact ih (by omega)

theorem ownsRow_below {w w' : World} {base : Nat} {e : TypeId} {size : Nat} {v : Value} {n : Nat} {xs : List Value} (h : w.ownsRow base e size v n xs) (hb : Below w.heap.size w w') : w'.ownsRow base e size v n xs := by
  refine ⟨h.1, ?_⟩
  rcases h.2 with hn | ⟨g, cap, cur, rfl, hbg, hg, rest⟩
  · exact .inl hn
  · exact .inr ⟨g, cap, cur, rfl, hbg, (hb.block g (Array.getElem?_eq_some_iff.1 hg).1).trans hg, rest⟩

/-- A row of versions that the call owns. -/
theorem RowF_own {w : World} {base : Nat} {v : Value} {n : Nat} {f : Nat → VerV} (h : w.ownsRow base 35 8 v n (rowCells f n)) (hn : 0 < n) :
    ∃ g cap cur, v = .slice (some ⟨g, 0, none⟩) n cap ∧ base ≤ g ∧ n ≤ cap ∧ cap ≤ maxLen ∧ w.heap[g]? = some (.cells cur 35 (0, 0)) ∧ RowF w g n f := by
  rcases h.2 with ⟨_, h0⟩ | ⟨g, cap, cur, rfl, hb, hg, hnc, hcm, hcs, htake⟩
  · omega
  · refine ⟨g, cap, cur, rfl, hb, hnc, hcm, hg, fun j hj i u hu => ⟨?_, ?_⟩⟩
    · have := h.cells (g := g) rfl (j * 8 + i) u (rowCells_at f n j i u hj hu)
      rw [show (⟨g, 0, none⟩ : Addr).add (j * 8 + i) = ⟨g, j * 8 + i, none⟩ by unfold Addr.add; split <;> simp_all] at this
      exact this
    · simp [World.frozen?, hg]

/-- A list of versions of the call's own, all of whose lists are its own too, each in a block of its own. -/
def OwnVers (base : Nat) (w : World) (r : Value) (vs : List VerD) : Prop :=
  ∃ A c f, r = .slice A vs.length c ∧ vs.length ≤ c ∧ c ≤ maxLen ∧ (0 < vs.length → ∃ g, A = some ⟨g, 0, none⟩ ∧ base ≤ g ∧ RowF w g vs.length f ∧ ∀ j v, vs[j]? = some v → 0 < v.at_.length → (f j).slice.ownBlock ≠ some g) ∧
    (∀ j v, vs[j]? = some v → Means w (f j) v ∧ FreshB base w (f j).slice v.at_) ∧
    (∀ i j u v, i < j → vs[i]? = some u → vs[j]? = some v → 0 < u.at_.length → 0 < v.at_.length → (f i).slice.ownBlock ≠ (f j).slice.ownBlock)

theorem OwnVers.reads {base : Nat} {w : World} {r : Value} {vs : List VerD} (h : OwnVers base w r vs) : VersR w r vs := by
  obtain ⟨A, c, f, rfl, h1, h2, h3, h4, _⟩ := h
  refine ⟨A, c, f, rfl, h1, h2, fun j hj => ?_, fun j v hj => (h4 j v hj).1⟩
  obtain ⟨g, rfl, _, hr, _⟩ := h3 (by omega)
  exact ⟨g, 0, rfl, fun i u hu => by rw [Nat.zero_add]; exact (hr j hj i u hu).1⟩

def lexL (d : Nat → VerD) (x y : Nat) : Prop := ordV (d x) (d y) < 0 ∨ (ordV (d x) (d y) = 0 ∧ x < y)

theorem ordV_anti (a b : VerD) : ordV b a = - ordV a b := cmpL_anti _ _
theorem ordV_range (a b : VerD) : ordV a b = -1 ∨ ordV a b = 0 ∨ ordV a b = 1 := cmpL_range _ _
theorem ordV_zero {a b : VerD} (h : ordV a b = 0) : keyV a = keyV b := cmpL_eq h
theorem ordV_congr_left {a b c : VerD} (h : ordV a b = 0) : ordV a c = ordV b c := by unfold ordV; rw [ordV_zero h]
theorem ordV_congr_right {a b c : VerD} (h : ordV b c = 0) : ordV a b = ordV a c := by unfold ordV; rw [ordV_zero h]
theorem ordV_lt_trans {a b c : VerD} (h1 : ordV a b < 0) (h2 : ordV b c < 0) : ordV a c < 0 := cmpL_lt_trans h1 h2

theorem lexOrd (d : Nat → VerD) : LexOrd (ltOf fun x y => ordV (d x) (d y)) (lexL d) where
  trans := fun {x y z} h1 h2 => by
    rcases h1 with h1 | ⟨h1, h1'⟩ <;> rcases h2 with h2 | ⟨h2, h2'⟩
    · exact .inl (ordV_lt_trans h1 h2)
    · exact .inl (by rw [← ordV_congr_right h2]; exact h1)
    · exact .inl (by rw [ordV_congr_left h1]; exact h2)
    · exact .inr ⟨by rw [ordV_congr_left h1]; exact h2, by omega⟩
  of_lt := fun {x y} h => .inl (by simpa [ltOf] using h)
  of_ge := fun {x y} h hxy => by
    have h0 : ¬ ordV (d y) (d x) < 0 := by simpa [ltOf] using h
    have := ordV_anti (d x) (d y)
    rcases ordV_range (d x) (d y) with e | e | e
    · exact .inl (by omega)
    · exact .inr ⟨e, hxy⟩
    · omega

/-- What fold.Order hands back: the places in order, each stamp once. -/
def OrderedBy (vs rs : List VerD) : Prop :=
  ∃ s, PermOn 0 vs.length (fun i => i) s ∧ SortedOn (lexL fun i => vs.getD i default) 0 vs.length s ∧
    rs = (keepL (fun i => cmpSame (vs.getD (s i) default) (vs.getD (s (i - 1)) default)) vs.length).map fun j => vs.getD (s j) default

def OrderP (w : World) (vs : List VerD) (r : Value) (w' : World) : Prop := Below w.heap.size w w' ∧ ∃ rs, OrderedBy vs rs ∧ OwnVers w.heap.size w' r rs

theorem getD_of_getElem? {α : Type} {l : List α} {j : Nat} {v d : α} (h : l[j]? = some v) : l.getD j d = v := by simp [List.getD, h]

/-- What one round of fold.Order's loop does to what it owns. -/
theorem order_step {vs : List VerD} {k : Nat} {f' : Nat → VerV} {x' : VerV} {w wr w1 w2 : World} {vo v' : Value} {B : Nat} {o : Obj} {v : VerD} (HO : wr.ownsRow B 35 8 vo k (rowCells f' k)) (HB : Below B w wr) (hBz : B ≤ wr.heap.size)
    (HM : ∀ j v, j < k → vs[j]? = some v → Means wr (f' j) v ∧ FreshB B wr (f' j).slice v.at_)
    (HD : ∀ i j u v, i < j → j < k → vs[i]? = some u → vs[j]? = some v → 0 < u.at_.length → 0 < v.at_.length → (f' i).slice.ownBlock ≠ (f' j).slice.ownBlock)
    (hb1 : Below wr.heap.size wr w1) (hm1 : Means w1 x' v) (hf1 : FreshB (wr.heap.size + 1) w1 x'.slice v.at_) (hvk : vs[k]? = some v)
    (hown2 : w2.ownsRow B 35 8 v' (k + 1) (rowCells f' k ++ x'.cells)) (hg2 : (w1.alloc o).grownBy w2 vo.ownBlock) :
    w2.ownsRow B 35 8 v' (k + 1) (rowCells (fun i => if i = k then x' else f' i) (k + 1)) ∧ Below B w w2 ∧
    (∀ j v, j < k + 1 → vs[j]? = some v → Means w2 ((fun i => if i = k then x' else f' i) j) v ∧ FreshB B w2 ((fun i => if i = k then x' else f' i) j).slice v.at_) ∧
    (∀ i j u v, i < j → j < k + 1 → vs[i]? = some u → vs[j]? = some v → 0 < u.at_.length → 0 < v.at_.length → ((fun i => if i = k then x' else f' i) i).slice.ownBlock ≠ ((fun i => if i = k then x' else f' i) j).slice.ownBlock) := by
  have hb2 : Below w1.heap.size w1 (w1.alloc o) := (Below.refl _ _).alloc (Nat.le_refl _) _
  have ho1 := ownsRow_below HO hb1
  have ho2 := ho1.alloc o
  have hrow : ∀ j, vo.ownBlock = some j → B ≤ j := fun j hj => (HO.lt j hj).1
  refine ⟨?_, ?_, fun j u hj hu => ?_, fun i j u u' hij hj hu hu' h0 h0' => ?_⟩
  · rw [rowCells_succ]
    simp only [if_true]
    rw [rowCells_congr (f := fun i => if i = k then x' else f' i) (f' := f') (fun j hj => if_neg (by omega))]
    exact hown2
  · exact ((HB.trans (hb1.mono hBz)).alloc (Nat.le_trans hBz hb1.size) o).grown hg2 (by simp; have := hb1.size; omega) hrow
  · dsimp only
    by_cases e : j = k
    · subst e
      rw [if_pos rfl]
      rw [hvk] at hu
      cases hu
      have a1 := hf1.below hb2
      have ne := a1.ne_row ho2 (by decide)
      exact ⟨⟨(hm1.1.below hb2).grown hg2 ne, hm1.2⟩, (a1.grown hg2 ne).mono (by omega)⟩
    · rw [if_neg e]
      obtain ⟨q1, q2⟩ := HM j u (by omega) hu
      have a1 := (q2.below hb1).below hb2
      have ne := a1.ne_row ho2 (by decide)
      exact ⟨⟨((q1.1.below hb1).below hb2).grown hg2 ne, q1.2⟩, a1.grown hg2 ne⟩
  · dsimp only
    rw [if_neg (show ¬ i = k by omega)]
    by_cases e : j = k
    · subst e
      rw [if_pos rfl]
      rw [hvk] at hu'
      cases hu'
      obtain ⟨b, e1, e2, e3⟩ := (HM i u hij hu).2.lt h0
      obtain ⟨b', f1, f2, f3⟩ := hf1.lt h0'
      rw [e1, f1]
      intro h
      injection h with h
      omega
    · rw [if_neg e]
      exact HD i j u u' hij (by omega) hu hu' h0 h0'

theorem sort_nil (w : World) : Calls Try.prog 35 #[.slice none 0 0, .func (.func 36) #[] #[]] w fun e w' => e = .returned (.tuple #[]) ∧ w = w' := by
  have hi : ∀ w, Calls Try.prog 64 #[.slice none 0 0, .int .i64 0, .int .i64 0, .func (.func 36) #[] #[]] w fun e w' => e = .returned (.tuple #[]) ∧ w = w' := fun w => by
    go_enter Try.func64, Try.ntmps64
    go_wp2
    refine wp_loop_rounds 1 ?_
    rw [rounds_succ]
    go_wp2
    go_end0
    exact ⟨rfl, rfl⟩
  have hs : ∀ w, Calls Try.prog 51 #[.slice none 0 0, .int .i64 0, .func (.func 36) #[] #[]] w fun e w' => e = .returned (.tuple #[]) ∧ w = w' := fun w => by
    have HI := Lib.hid hi
    go_enter Try.func51, Try.ntmps51
    go_wp2
    refine wp_loop_rounds 1 ?_
    rw [rounds_succ]
    go_wp2_with (go_at_call 64; refine (HI.out _).mono ?_; rintro e w' ⟨rfl, rfl⟩)
    refine wp_loop_rounds 1 ?_
    rw [rounds_succ]
    go_wp2
    go_end0
    exact ⟨rfl, rfl⟩
  have HS := Lib.hid hs
  go_enter Try.func35, Try.ntmps35
  go_wp2_with (go_at_call 51; refine (HS.out _).mono ?_; rintro e w' ⟨rfl, rfl⟩)
  go_end0
  exact ⟨rfl, rfl⟩

theorem compact_nil (w : World) : Calls Try.prog 37 #[.slice none 0 0, .func (.func 38) #[] #[]] w fun e w' => e = .returned (.slice none 0 0) ∧ w = w' := by
  go_enter Try.func37, Try.ntmps37
  go_wp2
  go_ret
  exact ⟨rfl, rfl⟩

theorem keepL_mem {q : Nat → Bool} {n j : Nat} (h : j ∈ keepL q n) : j < n := by
  unfold keepL at h
  exact List.mem_range.1 (List.mem_filter.1 h).1
theorem keepL_lt {q : Nat → Bool} {n i : Nat} (h : i < (keepL q n).length) : (keepL q n).getD i 0 < n := by
  rw [getD_lt _ _ h]
  exact keepL_mem (List.getElem_mem h)
theorem keepL_mono {q : Nat → Bool} {n i j : Nat} (hij : i < j) (h : j < (keepL q n).length) : (keepL q n).getD i 0 < (keepL q n).getD j 0 := by
  have hp : (keepL q n).Pairwise (· < ·) := by
    unfold keepL
    exact List.Pairwise.filter _ List.pairwise_lt_range
  rw [getD_lt _ _ (Nat.lt_trans hij h), getD_lt _ _ h]
  exact List.pairwise_iff_getElem.1 hp i j (Nat.lt_trans hij h) h hij

set_option maxRecDepth 100000 in
set_option maxHeartbeats 6400000 in
theorem order_walk (va : Value) (vs : List VerD) (w : World) (hv : VersR w va vs) (hn : vs.length ≤ 100000) (hl : ∀ v ∈ vs, v.at_.length ≤ 1000000) :
    Calls Try.prog 20 #[va] w (RetV (OrderP w vs)) := by
  have hsf := run_store_float Try.prog
  obtain ⟨i0, hi, hz0, hz1, hz2⟩ := info_parts Try.info_ver
  obtain ⟨A, c, f, rfl, h1, h2, h3, h4⟩ := hv
  unfold maxLen at h2
  obtain ⟨n, hnn⟩ : ∃ n, n = vs.length := ⟨_, rfl⟩
  rw [← hnn] at h1 h3 hn ⊢
  have HN := Lib.hid hnn; have H3 := Lib.hid h3; have H4 := Lib.hid h4; have HLL := Lib.hid hl; clear hnn h3 h4 hl
  obtain ⟨B, hB⟩ : ∃ B, B = w.heap.size := ⟨_, rfl⟩
  have HB := Lib.hid hB; clear hB
  go_enter Try.func20, Try.ntmps20
  go_wp2
  go_loopw [3, 5, 8] (fun vo vb vk wr => ∃ (k : Nat) (f' : Nat → VerV), vk = .int .i64 k ∧ k ≤ n ∧ Hid (k = 0 → vo = .slice none 0 0) ∧ Hid (wr.ownsRow B 35 8 vo k (rowCells f' k)) ∧ Hid (Below B w wr) ∧ Hid (∀ j v, j < k → vs[j]? = some v → Means wr (f' j) v ∧ FreshB B wr (f' j).slice v.at_) ∧
      Hid (∀ i j u v, i < j → j < k → vs[i]? = some u → vs[j]? = some v → 0 < u.at_.length → 0 < v.at_.length → (f' i).slice.ownBlock ≠ (f' j).slice.ownBlock)) (fun _ _ vk _ => n - (intOf vk).toNat)
  case atStart => exact ⟨0, f, rfl, Nat.zero_le _, fun _ => rfl, World.ownsRow_nil _ _ _ _, Below.refl _ _, fun j v hj => by omega, fun i j u v h1 h2 => by omega⟩
  case round =>
    obtain ⟨k, f', rfl, hk, HNIL, HO, HBW, HM, HD⟩ := hrel
    by_cases hlt : k < n
    · have hltz : (k : Int) < (n : Int) := by omega
      have hbw : Below w.heap.size w wr := by rw [← HB.out]; exact HBW.out
      obtain ⟨b, o, rfl, hcells⟩ := (H3.out.below hbw) k hlt
      have hx := elem_facts hcells
      have hvk : vs[k]? = some (vs.getD k default) := by rw [getD_lt _ _ (by rw [← HN.out]; exact hlt)]; exact List.getElem?_eq_getElem _
      have hmean := (H4.out k _ hvk).below hbw
      have hlen := HLL.out _ (List.mem_of_getElem? hvk)
      have hc := fun (W : World) h => copied_any (f k) (vs.getD k default) W h (by omega)
      generalize f k = x at hx hmean hc
      simp only [VerV.cells] at hc
      have HMEAN := Lib.hid hmean; have HC := Lib.hid hc; have HVK := Lib.hid hvk
      clear hcells hmean hc hvk hlen hbw
      obtain ⟨x0, x1, x2, x3, x4, x5, x6, x7⟩ := hx
      go_wp2_with fail
      refine (HC.out _ (HMEAN.out.below ((Below.refl _ _).alloc (Nat.le_refl _) _))).mono ?_
      rintro e w1 ⟨r, rfl, x', rfl, hm1, hb1, hf1⟩
      have hB1 : Below wr.heap.size wr w1 := ((Below.refl _ _).alloc (Nat.le_refl _) _).trans (hb1.mono (by simp))
      have hf1' : FreshB (wr.heap.size + 1) w1 x'.slice (vs.getD k default).at_ := by simpa using hf1
      have hown1 := (ownsRow_below HO.out hB1).alloc (.cells #[.string x'.key, .slice x'.A x'.n x'.c, .int .i64 x'.origin, .int .i64 x'.tx, .int .i64 x'.kind, .float .f64 x'.num, .int .i64 x'.int, .string x'.text] 35)
      have hBz : B ≤ wr.heap.size := by rw [HB.out]; exact HBW.out.size
      have hBz1 : B ≤ w1.heap.size := Nat.le_trans hBz hB1.size
      have HOWN1 := Lib.hid hown1; have HB1 := Lib.hid hB1; have HM1 := Lib.hid hm1; have HF1 := Lib.hid hf1'; have HBZ := Lib.hid hBz; have HBZ1 := Lib.hid hBz1
      clear hown1 hB1 hm1 hf1' hf1 hb1 hBz hBz1 x0 x1 x2 x3 x4 x5 x6 x7 HC HMEAN
      simp only [VerV.cells]
      go_wp2_with (at_builtin; go_must (refine wpList_append_own _ rfl (.tmp 12) (.tmp 15) 22 rfl B 35 i0 _ 8 96 Try.underlying22 hi hz0 hz1 hz2 rfl (by decide) _ _ _ rfl HOWN1.out ⟨w1.heap.size, 0, none⟩ 1 1 [.string x'.key, .slice x'.A x'.n x'.c, .int .i64 x'.origin, .int .i64 x'.tx, .int .i64 x'.kind, .float .f64 x'.num, .int .i64 x'.int, .string x'.text] rfl rfl (World.news_of_block (heap_alloc_new w1 _)) (by simp [Value.oneCell']) (by unfold maxLen; omega) (by omega) (by have := HBZ1.out; simp; omega) ?_); intro v' w2 hown2 hgrow2 _)
      have hstep := order_step HO.out HBW.out HBZ.out HM.out HD.out HB1.out HM1.out HF1.out HVK.out hown2 hgrow2
      have HST := Lib.hid hstep; clear hstep hown2 hgrow2
      go_roundw
      case rel => exact ⟨k + 1, _, by go_num, by omega, fun h => by omega, HST.out.1, HST.out.2.1, HST.out.2.2.1, HST.out.2.2.2⟩
      case measure => simp [intOf]; omega
    · obtain rfl : k = n := by omega
      have hltz : ¬ (k : Int) < (k : Int) := by omega
      by_cases h0 : k = 0
      · obtain rfl := HNIL.out h0
        subst h0
        have hvs : vs = [] := List.eq_nil_of_length_eq_zero HN.out.symm
        go_wp2_with (first | (go_at_call 35; refine (sort_nil _).mono ?_; rintro e w' ⟨rfl, rfl⟩) | (go_at_call 37; refine (compact_nil _).mono ?_; rintro e w' ⟨rfl, rfl⟩))
        go_ret
        subst hvs
        refine ⟨_, rfl, by rw [← HB.out]; exact HBW.out, [], ⟨fun i => i, PermOn.refl _ _ _, fun i j h1 h2 h3 => by simp at h3, rfl⟩, none, 0, f, rfl, Nat.le_refl _, by simp [maxLen], fun h => by simp at h, fun j v hj => by simp at hj, fun i j u v h1 h2 => by simp at h2⟩
      · obtain ⟨g, cap, cur, rfl, hbg, hnc, hcm, hgh, hrow⟩ := RowF_own HO.out (by omega)
        have hvk : ∀ j, j < k → vs[j]? = some (vs.getD j default) := fun j hj => by
          have hj' : j < vs.length := by rw [← HN.out]; exact hj
          rw [getD_lt _ _ hj', List.getElem?_eq_getElem hj']
        have hmk : ∀ j, j < k → ∀ W, wr.grownBy W (some g) → Means W (f' j) (vs.getD j default) ∧ FreshB B W (f' j).slice (vs.getD j default).at_ := fun j hj W hW => by
          obtain ⟨q1, q2⟩ := HM.out j _ hj (hvk j hj)
          have ne := q2.ne hgh (by decide)
          exact ⟨⟨q1.1.grown hW ne, q1.2⟩, q2.grown hW ne⟩
        have hcmp : CmpOK wr g k f' (fun x y => ordV (vs.getD x default) (vs.getD y default)) := fun x y hx hy W hW => by
          have q1 := (hmk x hx W hW).1
          have q2 := (hmk y hy W hW).1
          rw [q1.cells, q2.cells]
          exact order_any _ _ _ _ W q1.1 q2.1
        have hsort := sortStable_any g k cap f' _ _ (lexOrd fun i => vs.getD i default) wr hrow hcmp hn
        have HSORT := Lib.hid hsort; have HMK := Lib.hid hmk; have HVK := Lib.hid hvk; have HGH := Lib.hid hgh
        have HNC := Lib.hid hnc; have HBG := Lib.hid hbg; have HCM := Lib.hid hcm
        clear hsort hcmp hmk hvk hgh hrow hcm
        go_wp2_with fail
        refine HSORT.out.mono ?_
        rintro e W1 ⟨rfl, hg1, s, hp, hs, hr1⟩
        have hsk : ∀ i, i < k → s i < k := hp.lt (Nat.le_refl _) fun i hi => hi
        have hcomp := compact_any g k cap (fun i => f' (s i)) (fun i => cmpSame (vs.getD (s i) default) (vs.getD (s (i - 1)) default)) W1 hr1 hnc hn fun i h1 h2 W hW => by
          have q1 := (HMK.out (s i) (hsk _ h2) W (hg1.trans hW)).1
          have q2 := (HMK.out (s (i - 1)) (hsk _ (by omega)) W (hg1.trans hW)).1
          rw [q1.cells, q2.cells]
          exact same_any _ _ _ _ W q1.1 q2.1
        obtain ⟨K, hK⟩ : ∃ K, K = keepL (fun i => cmpSame (vs.getD (s i) default) (vs.getD (s (i - 1)) default)) k := ⟨_, rfl⟩
        rw [← hK] at hcomp
        have HK := Lib.hid hK; clear hK
        have HCOMP := Lib.hid hcomp; have HG1 := Lib.hid hg1; have HP := Lib.hid hp; have HS := Lib.hid hs; have HSK := Lib.hid hsk
        clear hcomp hg1 hp hs hsk hr1 hnc hbg
        go_wp2_with fail
        refine HCOMP.out.mono ?_
        rintro e W2 ⟨rfl, hg2, hr2⟩
        have HG2 := Lib.hid (HG1.out.trans hg2); have HR2 := Lib.hid hr2; clear hg2 hr2
        go_wp2
        go_ret
        have HR2' := HR2.out
        have hK := HK.out
        have hKlt : ∀ i, i < K.length → s (K.getD i 0) < k := fun i hi => HSK.out _ (by rw [hK] at hi ⊢; exact keepL_lt hi)
        have hel : ∀ (j : Nat) (v : VerD), (K.map fun j => vs.getD (s j) default)[j]? = some v → j < K.length ∧ v = vs.getD (s (K.getD j 0)) default := fun j v hj => by
          have hlt : j < K.length := by
            rcases Nat.lt_or_ge j K.length with h | h
            · exact h
            · rw [List.getElem?_map, List.getElem?_eq_none h] at hj; cases hj
          rw [List.getElem?_map, List.getElem?_eq_getElem hlt] at hj
          rw [getD_lt _ _ hlt]
          exact ⟨hlt, (by simpa using hj.symm)⟩
        refine ⟨_, rfl, ?_, K.map fun j => vs.getD (s j) default, ⟨s, by rw [← HN.out]; exact HP.out, by rw [← HN.out]; exact HS.out, by rw [← HN.out, ← hK]⟩, some ⟨g, 0, none⟩, cap, fun j => f' (s (K.getD j 0)), by simp, ?_, HCM.out, fun _ => ⟨g, rfl, by rw [← HB.out]; exact HBG.out, ?_, fun j v hj h0 => ?_⟩, fun j v hj => ?_, fun i j u v hij hi hj h0 h0' => ?_⟩
        · rw [← HB.out]
          exact HBW.out.grown HG2.out (by have := HBW.out.size; rw [HB.out]; exact this) (fun q hq => by cases hq; exact HBG.out)
        · have h1 := keepL_len (fun i => cmpSame (vs.getD (s i) default) (vs.getD (s (i - 1)) default)) k
          have := HNC.out
          rw [← hK] at h1
          simp; omega
        · simpa using HR2'
        · obtain ⟨hlt, rfl⟩ := hel j v hj
          exact (HM.out _ _ (hKlt j hlt) (HVK.out _ (hKlt j hlt))).2.ne HGH.out (by decide) h0
        · obtain ⟨hlt, rfl⟩ := hel j v hj
          rw [← HB.out]
          exact HMK.out _ (hKlt j hlt) W2 HG2.out
        · obtain ⟨hlt, rfl⟩ := hel j v hj
          obtain ⟨hlt', rfl⟩ := hel i u hi
          have hne : s (K.getD i 0) ≠ s (K.getD j 0) := by
            obtain ⟨t, _, t2, _, t4⟩ := HP.out
            intro he
            rw [t4, t4] at he
            have := t2 _ _ he
            have hm : K.getD i 0 < K.getD j 0 := by rw [hK] at hlt ⊢; exact keepL_mono hij hlt
            omega
          rcases Nat.lt_or_ge (s (K.getD i 0)) (s (K.getD j 0)) with h | h
          · exact HD.out _ _ _ _ h (hKlt j hlt) (HVK.out _ (hKlt i hlt')) (HVK.out _ (hKlt j hlt)) h0 h0'
          · exact (HD.out _ _ _ _ (by omega) (hKlt i hlt') (HVK.out _ (hKlt j hlt)) (HVK.out _ (hKlt i hlt')) h0' h0).symm

end Go.Proofs.Ythicjpkomigacaa
