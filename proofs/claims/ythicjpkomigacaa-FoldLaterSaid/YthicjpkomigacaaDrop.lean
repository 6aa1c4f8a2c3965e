/- fold.Drop. -/
import Derived.Test.YthicjpkomigacaaOne
import Derived.Test.YthicjpkomigacaaCat
import Derived.Test.YthicjpkomigacaaLast
import Derived.Maps.AppendAt
import Derived.Outline
namespace Go.Proofs.Ythicjpkomigacaa
open Go.RowKit

/-- The list reads so, and leads nowhere only where it is empty. -/
def ReadsV (w : World) (r : Value) (us : List VerD) : Prop := VersR w r us ∧ Proper r

theorem ReadsV.below {w w' : World} {r : Value} {us : List VerD} (h : ReadsV w r us) (hb : Below w.heap.size w w') : ReadsV w' r us := ⟨h.1.below hb, h.2⟩

theorem proper_nil : Proper (.slice none 0 0) := fun n c h => by cases h; exact ⟨rfl, rfl⟩
theorem proper_some (a : Addr) (n c : Nat) : Proper (.slice (some a) n c) := fun _ _ h => by cases h

theorem ListB.reads2 {W0 w : World} {B : Nat} {vo : Value} {us : List VerD} (h : ListB W0 B w vo us) (hB : B = W0.heap.size) (hb : Below B W0 w) : ReadsV w vo us := by
  refine ⟨h.reads hB hb, ?_⟩
  obtain ⟨f, h1, _⟩ := h
  rcases h1.2 with ⟨rfl, _⟩ | ⟨g, cap, cur, rfl, _⟩
  · exact proper_nil
  · exact proper_some _ _ _

theorem order_nil (A : Option Addr) (c : Nat) (w : World) : Calls Try.prog 20 #[.slice A 0 c] w fun e w' => e = .returned (.slice none 0 0) ∧ w = w' := by
  have hs := sort_nil; have hc := compact_nil
  have HS := Lib.hid hs; have HC := Lib.hid hc; clear hs hc
  go_enter Try.func20, Try.ntmps20
  go_wp2
  refine wp_loop_rounds 1 ?_
  rw [rounds_succ]
  go_wp2_with fail
  refine (HS.out _).mono ?_
  rintro e w' ⟨rfl, rfl⟩
  go_wp2_with fail
  refine (HC.out _).mono ?_
  rintro e w' ⟨rfl, rfl⟩
  go_wp2
  go_ret
  exact ⟨rfl, rfl⟩

theorem order_two (va : Value) (vs : List VerD) (w : World) (hv : VersR w va vs) (hn : vs.length ≤ 100000) (hl : ∀ v ∈ vs, v.at_.length ≤ 1000000) :
    Calls Try.prog 20 #[va] w (RetV fun r w' => Below w.heap.size w w' ∧ ReadsV w' r (ordD vs)) := by
  cases vs with
  | nil =>
    obtain ⟨A, c, f, rfl, _⟩ := hv
    refine (order_nil A c w).mono ?_
    rintro e w' ⟨rfl, rfl⟩
    exact ⟨_, rfl, Below.refl _ _, ⟨none, 0, fun _ => ⟨ByteArray.empty, none, 0, 0, 0, 0, 0, 0, 0, ByteArray.empty⟩, rfl, by simp [ordD], by simp [maxLen], fun j hj => by simp [ordD] at hj, fun j v hj => by simp [ordD] at hj⟩, proper_nil⟩
  | cons u us =>
    refine (order_walk va (u :: us) w hv hn hl).mono ?_
    rintro e w' ⟨r, rfl, hb, rs, hrs, hown⟩
    rw [← hrs.eq]
    refine ⟨r, rfl, hb, hown.reads, ?_⟩
    obtain ⟨A, c, f, rfl, h1, h2, h3, _⟩ := hown
    obtain ⟨g, rfl, _⟩ := h3 (by
      rw [hrs.eq]
      have : u ∈ ordD (u :: us) := (mem_ordD _ _).2 (.inl rfl)
      exact List.length_pos_of_mem this)
    exact proper_some _ _ _

theorem ordD_len (vs : List VerD) : (ordD vs).length ≤ vs.length := by
  have key : ∀ (us acc : List VerD), (us.foldl (fun acc v => insD v acc) acc).length ≤ acc.length + us.length := by
    intro us
    induction us with
    | nil => intro acc; simp
    | cons u us ih =>
      intro acc
      have h1 := ih (insD u acc)
      have h2 : (insD u acc).length ≤ acc.length + 1 := by
        clear h1 ih
        induction acc with
        | nil => simp [insD]
        | cons a acc ih =>
          simp only [insD]
          split
          · simp
          · split
            · simp
            · simp only [List.length_cons]; omega
      simp only [List.foldl_cons, List.length_cons]
      omega
  have := key vs []
  simpa [ordD] using this

def DropP (k : ByteArray) (vs : List VerD) (fs : List Int) (all : Bool) (w : World) (r : Value) (w' : World) : Prop := Below w.heap.size w w' ∧ ReadsV w' r (dropD k vs fs all)

theorem drop_off (k : ByteArray) (va vf : Value) (vs : List VerD) (fs : List Int) (all : Bool) (w : World) (hv : VersR w va vs) (hf : VecR w vf fs) (hn : vs.length ≤ 100000) (hl : ∀ v ∈ vs, v.at_.length ≤ 1000000) (hk : (!isK k || !validL fs) = true) :
    Calls Try.prog 11 #[.string k, va, vf, .bool all] w (RetV (DropP k vs fs all w)) := by
  have hd : dropD k vs fs all = ordD vs := by unfold dropD; rw [if_pos hk]
  unfold DropP
  rw [hd]
  have ho := order_two va vs w hv hn hl
  have HO := Lib.hid ho; have HF := Lib.hid hf
  clear ho hd hv hf
  have hi := fun W => iskey_any k W
  have hva := fun W h => valid_any vf fs W h
  generalize isK k = ik at hk hi
  generalize validL fs = vl at hk hva
  have HI := Lib.hid hi; have HV := Lib.hid hva; clear hi hva
  cases ik with
  | false =>
    go_enter Try.func11, Try.ntmps11
    go_wp2_with fail
    refine HO.out.mono ?_
    rintro e w1 ⟨r, rfl, h1⟩
    have H1 := Lib.hid h1; clear h1
    go_wp2_with fail
    refine (HI.out _).mono ?_
    rintro e w' ⟨rfl, rfl⟩
    go_wp2
    go_ret
    exact ⟨_, rfl, H1.out⟩
  | true =>
    obtain rfl : vl = false := by simpa using hk
    go_enter Try.func11, Try.ntmps11
    go_wp2_with fail
    refine HO.out.mono ?_
    rintro e w1 ⟨r, rfl, h1⟩
    have H1 := Lib.hid h1; clear h1
    go_wp2_with fail
    refine (HI.out _).mono ?_
    rintro e w' ⟨rfl, rfl⟩
    go_wp2_with fail
    refine (HV.out _ (HF.out.below H1.out.1)).mono ?_
    rintro e w' ⟨rfl, rfl⟩
    go_wp2
    go_ret
    exact ⟨_, rfl, H1.out⟩

def Apart2 (va vb : Value) : Prop := ∀ b, va.ownBlock = some b → vb.ownBlock ≠ some b

theorem Apart2.symm {va vb : Value} (h : Apart2 va vb) : Apart2 vb va := fun b h1 h2 => h b h2 h1
theorem Apart2.grow {va vb v' : Value} {H : Nat} (h : Apart2 va vb) (hv : v'.ownBlock = va.ownBlock ∨ v'.ownBlock = some H) (hb : ∀ b, vb.ownBlock = some b → b < H) : Apart2 v' vb := fun b h1 h2 => by
  rcases hv with e | e
  · rw [e] at h1; exact h b h1 h2
  · rw [e] at h1; cases h1; have := hb _ h2; omega
theorem ListB.block_lt {W0 w : World} {B : Nat} {vo : Value} {us : List VerD} (h : ListB W0 B w vo us) : ∀ b, vo.ownBlock = some b → b < w.heap.size := fun b hb => by
  obtain ⟨f, h1, _⟩ := h
  rcases h1.2 with ⟨rfl, _⟩ | ⟨g, cap, cur, rfl, _, hg, _⟩
  · cases hb
  · cases hb; exact (Array.getElem?_eq_some_iff.1 hg).1
theorem ListB.kept {W0 w w' : World} {B : Nat} {vo ve : Value} {us : List VerD} (h : ListB W0 B w ve us) (hg : w.grownBy w' vo.ownBlock) (ha : Apart2 vo ve) : ListB W0 B w' ve us := by
  obtain ⟨f, h1, h2⟩ := h
  refine ⟨f, h1.kept hg ?_, h2⟩
  cases hv : ve.ownBlock with
  | none => exact .inl rfl
  | some b => exact .inr fun e => ha b e.symm hv

theorem concat_two (va vb : Value) (xs ys : List VerD) (gb : Nat) (w : World) (h0 : w.cell? ⟨gb, 0, none⟩ = some va) (h1 : w.cell? ⟨gb, 1, none⟩ = some vb) (ha : ReadsV w va xs) (hb : ReadsV w vb ys) (hn : xs.length + ys.length ≤ 100000) :
    Calls Try.prog 24 #[.slice (some ⟨gb, 0, none⟩) 2 2] w (RetV fun v w' => Below w.heap.size w w' ∧ ReadsV w' v (xs ++ ys)) := by
  have he : (List.range 2).flatMap (fun j => if j = 0 then xs else ys) = xs ++ ys := by simp [List.range_succ]
  have h := concat_any (fun j => if j = 0 then va else vb) (fun j => if j = 0 then xs else ys) 2 gb w (fun j hj => by
      rcases (show j = 0 ∨ j = 1 by omega) with rfl | rfl
      · exact h0
      · exact h1)
    (fun j hj => by
      rcases (show j = 0 ∨ j = 1 by omega) with rfl | rfl
      · exact ha
      · exact hb) (by omega) (by rw [he, List.length_append]; exact hn)
  rw [he] at h
  refine h.mono ?_
  rintro e w' ⟨v, rfl, hb1, hl⟩
  exact ⟨v, rfl, hb1, hl.reads2 rfl hb1⟩

theorem ListB.self {w : World} {B : Nat} {vo : Value} {us : List VerD} (h : ListB w B w vo us) : ReadsV w vo us := by
  obtain ⟨f, h1, h2⟩ := h
  rcases h1.2 with ⟨rfl, h0⟩ | ⟨g, cap, cur, rfl, hbg, hg, hnc, hcm, _⟩
  · exact ⟨⟨none, 0, f, by rw [h0], by omega, by simp [maxLen], fun j hj => by omega, h2⟩, proper_nil⟩
  · refine ⟨⟨some ⟨g, 0, none⟩, cap, f, rfl, hnc, hcm, fun j hj => ⟨g, 0, rfl, fun i u hu => ?_⟩, h2⟩, proper_some _ _ _⟩
    have hi : i < 8 := (List.getElem?_eq_some_iff.1 hu).1
    rw [Nat.zero_add, h1.cellAt (j * 8 + i) (by omega)]
    exact rowCells_at f us.length j i u hj hu

theorem VersR.take {w : World} {A : Option Addr} {n c : Nat} {vs : List VerD} (h : VersR w (.slice A n c) vs) (k : Nat) (hk : k ≤ n) : VersR w (.slice A k c) (vs.take k) := by
  obtain ⟨A', c', f, hv, h1, h2, h3, h4⟩ := h
  simp only [Value.slice.injEq] at hv
  obtain ⟨rfl, rfl, rfl⟩ := hv
  refine ⟨A, c, f, by rw [List.length_take, Nat.min_eq_left hk], by rw [List.length_take]; omega, h2, fun j hj => h3 j (by rw [List.length_take] at hj; omega), fun j v hj => h4 j v ?_⟩
  have hlt : j < (vs.take k).length := (List.getElem?_eq_some_iff.1 hj).1
  rw [List.getElem?_take_of_lt (by rw [List.length_take] at hlt; omega)] at hj
  exact hj

theorem stay_succ {fs : List Int} {rs : List VerD} {j : Nat} {v : VerD} (h : rs[j]? = some v) : stayD fs (rs.take (j + 1)) = stayD fs (rs.take j) ++ (if leqL v.at_ fs then [] else [v]) := by
  have hj : j < rs.length := (List.getElem?_eq_some_iff.1 h).1
  have hv : rs[j] = v := (List.getElem?_eq_some_iff.1 h).2
  unfold stayD
  rw [List.take_succ_eq_append_getElem hj, List.filter_append, hv]
  congr 1
  cases c : leqL v.at_ fs <;> simp [c]
theorem seen_succ {k : ByteArray} {fs : List Int} {rs : List VerD} {j : Nat} {v : VerD} (h : rs[j]? = some v) : seenD k fs (rs.take (j + 1)) = seenD k fs (rs.take j) ++ (if leqL v.at_ fs && fitsD k v.act then [v] else []) := by
  have hj : j < rs.length := (List.getElem?_eq_some_iff.1 h).1
  have hv : rs[j] = v := (List.getElem?_eq_some_iff.1 h).2
  unfold seenD
  rw [List.take_succ_eq_append_getElem hj, List.filter_append, hv]
  congr 1
  cases c : (leqL v.at_ fs && fitsD k v.act) <;> simp [c]

set_option maxRecDepth 100000 in
set_option maxHeartbeats 6400000 in
theorem drop_on (k : ByteArray) (va vf : Value) (vs : List VerD) (fs : List Int) (all : Bool) (w : World) (hv : VersR w va vs) (hf : VecR w vf fs) (hn : vs.length ≤ 10000) (hl : ∀ v ∈ vs, v.at_.length ≤ 1000000) (hx : ∀ v ∈ vs, v.act.num < 18446744073709551616) (hk : isK k = true) (hvl : validL fs = true) :
    Calls Try.prog 11 #[.string k, va, vf, .bool all] w (RetV (DropP k vs fs all w)) := by
  have hsf := run_store_float Try.prog
  obtain ⟨i0, hi, hz0, hz1, hz2⟩ := info_parts Try.info_ver
  have hmem : ∀ v ∈ ordD vs, v.at_.length ≤ 1000000 ∧ v.act.num < 18446744073709551616 := fun v hv => ⟨hl v (mem_of_ordD hv), hx v (mem_of_ordD hv)⟩
  have hlen : (ordD vs).length ≤ vs.length := ordD_len vs
  have hdrop : dropD k vs fs all = if (seenD k fs (ordD vs)).length = 0 then stayD fs (ordD vs)
    else if regK k then ordD (stayD fs (ordD vs) ++ keptD (stayD fs (ordD vs)) (seenD k fs (ordD vs)) fs all)
    else if all && decide (1 < (seenD k fs (ordD vs)).length) then stayD fs (ordD vs) ++ [oneD k (seenD k fs (ordD vs))]
    else ordD (stayD fs (ordD vs) ++ seenD k fs (ordD vs)) := by unfold dropD; rw [hk, hvl]; rfl
  have ho := order_two va vs w hv (by omega) hl
  have hi2 := fun W => iskey_any k W
  have hva := fun W h => valid_any vf fs W h
  rw [hk] at hi2
  rw [hvl] at hva
  unfold DropP
  have hks := isK_size hk
  generalize dropD k vs fs all = dr at hdrop ⊢
  generalize ordD vs = rs at hdrop hmem hlen ho
  have HO := Lib.hid ho; have HF := Lib.hid hf; have HI := Lib.hid hi2; have HVA := Lib.hid hva; have HD := Lib.hid hdrop; have HMEM := Lib.hid hmem; have HKS := Lib.hid hks
  have HFPOS : Hid (0 < fs.length) := Lib.hid (by
    unfold validL at hvl
    simp only [Bool.and_eq_true, decide_eq_true_eq] at hvl
    omega)
  clear ho hf hi2 hva hdrop hmem hks hv hl hx hk hvl
  generalize hnn : rs.length = n at hlen
  have HN := Lib.hid hnn; clear hnn
  have hn1 : n ≤ 10000 := by omega
  clear hlen hn
  go_enter Try.func11, Try.ntmps11
  go_wp2_with fail
  refine HO.out.mono ?_
  rintro e W0 ⟨r, rfl, hb0, hrs⟩
  obtain ⟨A, c, f, rfl, h1, h2, h3, h4⟩ := hrs.1
  unfold maxLen at h2
  rw [HN.out] at h1 h3 ⊢
  have HB0 := Lib.hid hb0; have H3 := Lib.hid h3; have H4 := Lib.hid h4; have HF0 := Lib.hid (HF.out.below hb0)
  clear hb0 hrs h3 h4 HO HF
  go_wp2_with fail
  refine (HI.out _).mono ?_
  rintro e w' ⟨rfl, rfl⟩
  go_wp2_with fail
  refine (HVA.out _ HF0.out).mono ?_
  rintro e w' ⟨rfl, rfl⟩
  obtain ⟨B, hB⟩ : ∃ B, B = W0.heap.size := ⟨_, rfl⟩
  have HB := Lib.hid hB; clear hB
  go_wp2
  go_loopw [9, 10, 27] (fun vo ve vj wr => ∃ j : Nat, j ≤ n ∧ vj = .int .i64 j ∧ Hid (ListB W0 B wr vo (stayD fs (rs.take j))) ∧ Hid (ListB W0 B wr ve (seenD k fs (rs.take j))) ∧ Hid (Apart2 vo ve) ∧ Hid (Below B W0 wr)) (fun _ _ vj _ => n - (intOf vj).toNat)
  case atStart => exact ⟨0, Nat.zero_le _, rfl, ListB.nil _ _ _, ListB.nil _ _ _, fun b h => (by cases h), Below.refl _ _⟩
  case round =>
    obtain ⟨j, hj, rfl, HL, HE, HAP, HBR⟩ := hrel
    by_cases hlt : j < n
    · have hltz : (j : Int) < (n : Int) := by omega
      have hvk : rs[j]? = some (rs.getD j default) := by rw [getD_lt _ _ (by rw [HN.out]; exact hlt)]; exact List.getElem?_eq_getElem _
      have hbw : Below W0.heap.size W0 wr := by rw [← HB.out]; exact HBR.out
      obtain ⟨b, o, rfl, hcells⟩ := (H3.out.below hbw) j hlt
      have hx := elem_facts hcells
      have hmean := H4.out j _ hvk
      have hstay := stay_succ (fs := fs) hvk
      have hseen := seen_succ (k := k) (fs := fs) hvk
      have hvm := HMEM.out _ (List.mem_of_getElem? hvk)
      have hl1 : (stayD fs (rs.take j)).length ≤ n := Nat.le_trans (List.length_filter_le _ _) (by simp; omega)
      have hl2 : (seenD k fs (rs.take j)).length ≤ n := Nat.le_trans (List.length_filter_le _ _) (by simp; omega)
      generalize rs.getD j default = v at hvk hmean hstay hseen hvm
      generalize f j = x at hx hmean
      have hleq := fun W (hW : Below W0.heap.size W0 W) => leq_any x.slice vf v.at_ fs W (hmean.below hW).1 (HF0.out.below hW)
      have hfit := fun W => fits_any k v.act hvm.2 W
      generalize leqL v.at_ fs = qb at hleq hstay hseen
      generalize fitsD k v.act = ft at hfit hseen
      have hact := hmean.2
      have hact2 : v.act = ⟨x.kind, x.num, x.int, x.text⟩ := by rw [hact]; rfl
      rw [hact2] at hfit
      simp only [encA] at hfit
      have HLEQ := Lib.hid hleq; have HBW0 := Lib.hid hbw; have HMEAN := Lib.hid hmean; have HFIT := Lib.hid hfit; have HST := Lib.hid hstay; have HSE := Lib.hid hseen
      clear hvk hcells hmean hleq hbw hfit hstay hseen hact hact2 hvm
      simp only [VerV.slice] at HLEQ
      obtain ⟨x0, x1, x2, x3, x4, x5, x6, x7⟩ := hx
      have HBX1 : Hid (Below B W0 (wr.alloc (.cells #[.string x.key, .slice x.A x.n x.c, .int .i64 x.origin, .int .i64 x.tx, .int .i64 x.kind, .float .f64 x.num, .int .i64 x.int, .string x.text] 35))) := Lib.hid (HBR.out.alloc (by have := HBR.out.size; rw [HB.out]; exact this) _)
      have hbB : B ≤ wr.heap.size := by have := HBR.out.size; rw [HB.out]; exact this
      have HBZ := Lib.hid hbB; clear hbB
      cases qb with
      | false =>
        have hst2 := HST.out
        simp only [Bool.false_eq_true, if_false] at hst2
        have hse2 := HSE.out
        simp only [Bool.false_and, Bool.false_eq_true, if_false, List.append_nil] at hse2
        have HST2 := Lib.hid hst2; have HSE2 := Lib.hid hse2
        obtain ⟨f', how, hme⟩ := HL.out
        have hlt2 := HL.out.lt
        clear hst2 hse2
        generalize stayD fs (rs.take j) = us at how hme hl1 HST2
        have hown1 := (how.alloc (.cells #[.string x.key, .slice x.A x.n x.c, .int .i64 x.origin, .int .i64 x.tx, .int .i64 x.kind, .float .f64 x.num, .int .i64 x.int, .string x.text] 35)).alloc (.cells #[.string x.key, .slice x.A x.n x.c, .int .i64 x.origin, .int .i64 x.tx, .int .i64 x.kind, .float .f64 x.num, .int .i64 x.int, .string x.text] 35)
        have HOWN1 := Lib.hid hown1; have HME := Lib.hid hme; have HLT2 := Lib.hid hlt2; clear hown1 how hme hlt2
        go_wp2_with fail
        refine (HLEQ.out _ (by rw [← HB.out]; exact HBX1.out)).mono ?_
        rintro e w' ⟨rfl, rfl⟩
        go_wp2_with (at_builtin; go_must (refine wpList_append_own_at _ rfl (.tmp 37) (.tmp 39) 22 rfl B 35 i0 _ 8 96 Try.underlying22 hi hz0 hz1 hz2 rfl (by decide) _ _ _ rfl HOWN1.out ⟨wr.heap.size + 1, 0, none⟩ 1 1 [.string x.key, .slice x.A x.n x.c, .int .i64 x.origin, .int .i64 x.tx, .int .i64 x.kind, .float .f64 x.num, .int .i64 x.int, .string x.text] rfl rfl (World.news_of_block (by simpa using heap_alloc_new (wr.alloc _) _)) (by simp [Value.oneCell']) (by unfold maxLen; omega) (by omega) (by have := HBZ.out; simp; omega) ?_); intro v' w2 hown2 hgrow2 _ hat2)
        have hg3 : Below B W0 w2 := ((HBR.out.alloc HBZ.out _).alloc (by have := HBZ.out; simp; omega) _).grown hgrow2 (by have := HBZ.out; simp; omega) (fun p hp => HLT2.out p hp)
        exact ⟨⟨j + 1, by omega, by go_num, by rw [HST2.out]; exact ListB.push HME.out HMEAN.out hown2, by rw [HSE2.out]; refine ListB.kept (ListB.below HE.out ?_) hgrow2 HAP.out; exact ((Below.refl _ _).alloc (Nat.le_refl _) _).alloc (by simp) _, HAP.out.grow hat2 (fun b hb => by have := HE.out.block_lt b hb; simp; omega), hg3⟩, by simp [intOf]; omega⟩
      | true =>
        have hst2 := HST.out
        simp only [if_true, List.append_nil] at hst2
        have HST2 := Lib.hid hst2; clear hst2
        cases ft with
        | false =>
          have hse2 := HSE.out
          simp only [Bool.and_false, Bool.false_eq_true, if_false, List.append_nil] at hse2
          have HSE2 := Lib.hid hse2; clear hse2
          go_wp2_with fail
          refine (HLEQ.out _ (by rw [← HB.out]; exact HBX1.out)).mono ?_
          rintro e w' ⟨rfl, rfl⟩
          go_wp2_with fail
          refine (HFIT.out _).mono ?_
          rintro e w2 ⟨rfl, hb2⟩
          have hbw2 : Below wr.heap.size wr w2 := ((Below.refl _ _).alloc (Nat.le_refl _) _).trans (hb2.mono (by simp))
          have HBW2 := Lib.hid hbw2; clear hb2 hbw2
          go_wp2
          go_roundw
          case rel => exact ⟨j + 1, by omega, by go_num, by rw [HST2.out]; exact HL.out.below HBW2.out, by rw [HSE2.out]; exact HE.out.below HBW2.out, HAP, HBR.out.trans (HBW2.out.mono HBZ.out)⟩
          case measure => simp [intOf]; omega
        | true =>
          have hse2 := HSE.out
          simp only [Bool.and_true, if_true] at hse2
          have HSE2 := Lib.hid hse2; clear hse2
          go_wp2_with fail
          refine (HLEQ.out _ (by rw [← HB.out]; exact HBX1.out)).mono ?_
          rintro e w' ⟨rfl, rfl⟩
          go_wp2_with fail
          refine (HFIT.out _).mono ?_
          rintro e w1 ⟨rfl, hb1⟩
          have hbw1 : Below wr.heap.size wr w1 := ((Below.refl _ _).alloc (Nat.le_refl _) _).trans (hb1.mono (by simp))
          have hc1 : ∀ o, w1.cell? ⟨wr.heap.size, o, none⟩ = _ := fun o => hb1.cell (p := ⟨wr.heap.size, o, none⟩) (by simp)
          have hzw1 : wr.heap.size + 1 ≤ w1.heap.size := by have := hb1.size; simpa using this
          have hhe := HE.out.below hbw1
          have hhl := HL.out.below hbw1
          have hlt2 := hhe.lt
          obtain ⟨f', how, hme⟩ := hhe
          have hbwB : Below B W0 w1 := HBR.out.trans (hbw1.mono HBZ.out)
          have hcc : ∀ (q : Obj) (o : Nat), (w1.alloc q).cell? ⟨wr.heap.size, o, none⟩ = w1.cell? ⟨wr.heap.size, o, none⟩ := fun q o => World.cell?_alloc_lt w1 q _ (show wr.heap.size < _ by omega)
          generalize seenD k fs (rs.take j) = us at how hme hl2 HSE2
          have hown1 := how.alloc (.cells #[.string x.key, .slice x.A x.n x.c, .int .i64 x.origin, .int .i64 x.tx, .int .i64 x.kind, .float .f64 x.num, .int .i64 x.int, .string x.text] 35)
          have hbl := hhl.block_lt
          have HOWN1 := Lib.hid hown1; have HME := Lib.hid hme; have HLT2 := Lib.hid hlt2; have HBWB := Lib.hid hbwB; have HHL := Lib.hid hhl; have HBL := Lib.hid hbl
          have HBZ1 : Hid (B ≤ w1.heap.size) := Lib.hid (by have := HBZ.out; omega)
          clear hown1 how hme hlt2 hb1 hbw1 hhl hbwB hbl
          go_wp2_with (at_builtin; go_must (refine wpList_append_own_at _ rfl (.tmp 46) (.tmp 48) 22 rfl B 35 i0 _ 8 96 Try.underlying22 hi hz0 hz1 hz2 rfl (by decide) _ _ _ rfl HOWN1.out ⟨w1.heap.size, 0, none⟩ 1 1 [.string x.key, .slice x.A x.n x.c, .int .i64 x.origin, .int .i64 x.tx, .int .i64 x.kind, .float .f64 x.num, .int .i64 x.int, .string x.text] rfl rfl (World.news_of_block (heap_alloc_new w1 _)) (by simp [Value.oneCell']) (by unfold maxLen; omega) (by omega) (by have := HBZ1.out; simp; omega) ?_); intro v' w2 hown2 hgrow2 _ hat2)
          have hg3 : Below B W0 w2 := (HBWB.out.alloc HBZ1.out _).grown hgrow2 (by have := HBZ1.out; simp; omega) (fun p hp => HLT2.out p hp)
          exact ⟨⟨j + 1, by omega, by go_num, by rw [HST2.out]; refine ListB.kept (ListB.below HHL.out ?_) hgrow2 HAP.out.symm; exact (Below.refl _ _).alloc (Nat.le_refl _) _, by rw [HSE2.out]; exact ListB.push HME.out HMEAN.out hown2, (HAP.out.symm.grow hat2 (fun b hb => by have := HBL.out b hb; simp; omega)).symm, hg3⟩, by simp [intOf]; omega⟩
    · obtain rfl : j = n := by omega
      have hltz : ¬ (j : Int) < (j : Int) := by omega
      have ht : rs.take j = rs := List.take_of_length_le (by rw [HN.out]; exact Nat.le_refl _)
      rw [ht] at HL HE
      have hvs := HL.out.reads2 HB.out HBR.out
      have hve := HE.out.reads2 HB.out HBR.out
      obtain ⟨A9, c9, f9, h9, _⟩ := hvs.1
      subst h9
      have hl1 : (stayD fs rs).length ≤ j := by rw [← HN.out]; exact List.length_filter_le _ _
      have hl2 : (seenD k fs rs).length ≤ j := by rw [← HN.out]; exact List.length_filter_le _ _
      have hms : ∀ v ∈ stayD fs rs, v.at_.length ≤ 1000000 ∧ v.act.num < 18446744073709551616 := fun v hv => HMEM.out v (List.mem_filter.1 hv).1
      have hme : ∀ v ∈ seenD k fs rs, v.at_.length ≤ 1000000 ∧ v.act.num < 18446744073709551616 := fun v hv => HMEM.out v (List.mem_filter.1 hv).1
      have hd := HD.out
      obtain ⟨fL, hoL, hmL⟩ := HL.out
      have hltL := HL.out.lt
      generalize stayD fs rs = ss at *
      generalize seenD k fs rs = es at *
      generalize hsn : ss.length = sn at *
      have HSN := Lib.hid hsn; clear hsn
      have hreg := fun W => fregisters_any k HKS.out W
      generalize regK k = rg at hreg hd
      have HMS := Lib.hid hms; have HME := Lib.hid hme; have HDD := Lib.hid hd; have HREG := Lib.hid hreg; have HVS := Lib.hid hvs; have HOL := Lib.hid hoL; have HML := Lib.hid hmL; have HLTL := Lib.hid hltL
      have hfr := HF0.out.below (w' := wr) (by rw [← HB.out]; exact HBR.out)
      have HFR := Lib.hid hfr
      have hbr : Below w.heap.size w wr := HB0.out.trans (HBR.out.mono (by rw [HB.out]; exact HB0.out.size))
      have HBRW := Lib.hid hbr
      clear HL HE HAP hltz ht hms hme hd hreg hvs hoL hmL hltL hfr hbr
      cases es with
      | nil =>
        obtain ⟨A', c', f', rfl, _⟩ := hve.1
        have hd := HDD.out
        simp only [List.length_nil, if_true] at hd
        have HD2 := Lib.hid hd; clear hd hve HDD
        go_wp2
        go_ret
        exact ⟨_, rfl, HBRW.out, by rw [HD2.out]; exact HVS.out⟩
      | cons e es =>
        have HVE := Lib.hid hve
        obtain ⟨A', c', f', rfl, e1, e2, e3, e4⟩ := hve.1
        clear e3 e4 hve
        unfold maxLen at e2
        simp only [List.length_cons] at e1 hl2 ⊢
        have hd := HDD.out
        rw [if_neg (by simp)] at hd
        have hes0 : ((es.length + 1 : Nat) : Int) ≠ 0 := by omega
        have hes0b : (((es.length + 1 : Nat) : Int) == 0) = false := by rw [beq_eq_false_iff_ne]; exact hes0
        cases rg with
        | true =>
          simp only [if_true] at hd
          rw [show keptD ss (e :: es) fs all = if goneD ss e fs all then [] else [e] from rfl] at hd
          have hlast := lastOf_any _ vf A' c' ss es e fs all wr HVS.out.1 HVE.out.1 HFR.out HFPOS.out (by have := HSN.out; omega)
          obtain ⟨kv, hkv⟩ : ∃ kv, kv = (if goneD ss e fs all then Value.slice none 0 0 else .slice A' 1 c') := ⟨_, rfl⟩
          obtain ⟨ks, hks⟩ : ∃ ks, ks = (if goneD ss e fs all then [] else [e]) := ⟨_, rfl⟩
          rw [← hkv] at hlast
          rw [← hks] at hd
          have hkr : ReadsV wr kv ks := by
            rw [hkv, hks]
            cases goneD ss e fs all with
            | true => exact ⟨⟨none, 0, fun _ => ⟨ByteArray.empty, none, 0, 0, 0, 0, 0, 0, 0, ByteArray.empty⟩, rfl, Nat.le_refl _, by simp [maxLen], fun j hj => by simp at hj, fun j v hj => by simp at hj⟩, proper_nil⟩
            | false =>
              refine ⟨by simpa using HVE.out.1.take 1 (by simp), ?_⟩
              intro n2 c2 h2
              obtain ⟨_, _, f2, h3, _, _, h4, _⟩ := HVE.out.1
              simp only [Bool.false_eq_true, if_false, Value.slice.injEq] at h2
              simp only [Value.slice.injEq] at h3
              obtain ⟨b2, o2, h5, _⟩ := h4 0 (by simp)
              rw [← h3.1, h2.1] at h5
              cases h5
          obtain ⟨Ak, ck, fk, hk9, _⟩ := hkr.1
          have hkl : ks.length ≤ 1 := by rw [hks]; split <;> simp
          have hkm : ∀ v ∈ ss ++ ks, v.at_.length ≤ 1000000 := fun v hv => by
            rcases List.mem_append.1 hv with hv | hv
            · exact (HMS.out v hv).1
            · rw [hks] at hv
              split at hv
              · cases hv
              · obtain rfl : v = e := by simpa using hv
                exact (HME.out v (by simp)).1
          clear hkv
          subst hk9
          generalize hkn : ks.length = kn at *
          have HKN := Lib.hid hkn; clear hkn
          have HLA := Lib.hid hlast; have HKR := Lib.hid hkr; have HKM := Lib.hid hkm; have HD2 := Lib.hid hd
          clear hlast hks hkr hkm hd
          go_wp2_with fail
          refine (HREG.out _).mono ?_
          rintro e w' ⟨rfl, rfl⟩
          go_wp2_with fail
          refine HLA.out.mono ?_
          rintro e w1 ⟨rfl, hb1⟩
          have hcat : ∀ W gb, Below w1.heap.size w1 W → W.cell? ⟨gb, 0, none⟩ = some (.slice A9 sn c9) → W.cell? ⟨gb, 1, none⟩ = some (.slice Ak kn ck) → Calls Try.prog 24 #[.slice (some ⟨gb, 0, none⟩) 2 2] W (RetV fun v w' => Below W.heap.size W w' ∧ ReadsV w' v (ss ++ ks)) := fun W gb hW q0 q1 =>
            concat_two _ _ ss ks gb W q0 q1 ((HVS.out.below hb1).below hW) ((HKR.out.below hb1).below hW) (by have := HSN.out; have := HKN.out; omega)
          have HCAT := Lib.hid hcat; have HB1 := Lib.hid hb1; clear hcat hb1
          go_wp2_with fail
          refine (HCAT.out _ _ ((Below.refl _ _).alloc (Nat.le_refl _) _) (by simp [go_sem]) (by simp [go_sem])).mono ?_
          rintro e w2 ⟨v2, rfl, hb2, hr2⟩
          have hbw2 : Below w.heap.size w w2 := HBRW.out.trans ((HB1.out.trans ((((Below.refl _ _).alloc (Nat.le_refl _) _).trans (hb2.mono (by simp))).mono HB1.out.size)).mono HBRW.out.size)
          have hord := order_two v2 (ss ++ ks) w2 hr2.1 (by rw [List.length_append]; have := HSN.out; have := HKN.out; omega) HKM.out
          have HORD := Lib.hid hord; have HBW2 := Lib.hid hbw2; clear hb2 hr2 hbw2 hord
          go_wp2_with fail
          refine HORD.out.mono ?_
          rintro e w3 ⟨v3, rfl, hb3, hr3⟩
          have HR3 := Lib.hid (show Below w.heap.size w w3 ∧ ReadsV w3 v3 dr from ⟨HBW2.out.trans (hb3.mono HBW2.out.size), by rw [HD2.out]; exact hr3⟩)
          clear hb3 hr3
          go_wp2
          go_ret
          exact ⟨_, rfl, HR3.out⟩
        | false =>
          simp only [Bool.false_eq_true, if_false] at hd
          by_cases hall : (all && decide (1 < (e :: es).length)) = true
          · rw [if_pos hall] at hd
            simp only [Bool.and_eq_true, decide_eq_true_eq, List.length_cons] at hall
            obtain ⟨rfl, hlen1⟩ := hall
            have hlen2 : (1 : Int) < ((es.length : Nat) : Int) + 1 := by omega
            have hone := one_any k (.slice A' (es.length + 1) c') (e :: es) wr HVE.out.1 (by simp only [List.length_cons]; omega) (by simp) (fun v hv => (HME.out v hv).2) (fun v hv => (HME.out v hv).1)
            have HONE := Lib.hid hone; have HD2 := Lib.hid hd; clear hone hd
            go_wp2_with fail
            refine (HREG.out _).mono ?_
            rintro e w' ⟨rfl, rfl⟩
            go_wp2_with fail
            refine HONE.out.mono ?_
            rintro e w1 ⟨r, rfl, hb1, x, rfl, hxm, hxf⟩
            have hxf := hxf (by simp only [List.length_cons]; omega)
            have hol1 := ownsRow_below HOL.out hb1
            have how := hol1.alloc (.cells #[.string x.key, .slice x.A x.n x.c, .int .i64 x.origin, .int .i64 x.tx, .int .i64 x.kind, .float .f64 x.num, .int .i64 x.int, .string x.text] 35)
            have hBw1 : Below B W0 w1 := HBR.out.trans (hb1.mono (by have := HBR.out.size; have := HB.out; omega))
            have hne := hxf.ne_row hol1 (by decide)
            have HXM := Lib.hid hxm; have HXF := Lib.hid hxf; have HOW := Lib.hid how; have HBW1 := Lib.hid hBw1; have HNE := Lib.hid hne
            have HW1 := Lib.hid (HBRW.out.trans (hb1.mono HBRW.out.size))
            have HBZ1 : Hid (B ≤ w1.heap.size) := Lib.hid (by have h := hBw1.size; rw [HB.out]; exact h)
            clear hxm hxf hol1 how hBw1 hne hb1
            simp only [VerV.cells]
            go_wp2_with (at_builtin; go_must (refine wpList_append_own_at _ rfl (.tmp 76) (.tmp 80) 22 rfl B 35 i0 _ 8 96 Try.underlying22 hi hz0 hz1 hz2 rfl (by decide) _ _ _ rfl HOW.out ⟨w1.heap.size, 0, none⟩ 1 1 [.string x.key, .slice x.A x.n x.c, .int .i64 x.origin, .int .i64 x.tx, .int .i64 x.kind, .float .f64 x.num, .int .i64 x.int, .string x.text] rfl rfl (World.news_of_block (heap_alloc_new w1 _)) (by simp [Value.oneCell']) (by unfold maxLen; omega) (by omega) (by have := HBZ1.out; simp; omega) ?_); intro v' w2 hown2 hgrow2 _ hat2)
            have hg3 : Below w.heap.size w w2 := (HW1.out.alloc (by have := HW1.out.size; omega) _).grown hgrow2 (by have := HW1.out.size; simp; omega) (fun p hp => Nat.le_trans (by have := HB0.out.size; have := HB.out; omega) (HLTL.out p hp))
            have hg4 : Below B W0 w2 := (HBW1.out.alloc HBZ1.out _).grown hgrow2 (by have := HBZ1.out; simp; omega) (fun p hp => HLTL.out p hp)
            have hr2 : ReadsV w2 v' (ss ++ [oneD k (e :: es)]) := by
              have hsn := HSN.out
              subst hsn
              refine ListB.self (B := B) (ListB.push (fun j v hj => (HML.out j v hj).below (by rw [← HB.out]; exact hg4)) ?_ hown2)
              exact ⟨(HXM.out.1.below ((Below.refl _ _).alloc (Nat.le_refl _) _)).grown hgrow2 HNE.out, HXM.out.2⟩
            have HR3 := Lib.hid (show Below w.heap.size w w2 ∧ ReadsV w2 v' dr from ⟨hg3, by rw [HD2.out]; exact hr2⟩)
            clear hg3 hg4 hr2 hown2 hgrow2 hat2
            go_wp2
            go_ret
            exact ⟨_, rfl, HR3.out⟩
          · rw [if_neg hall] at hd
            have hcatm : ∀ v ∈ ss ++ (e :: es), v.at_.length ≤ 1000000 := fun v hv => by
              rcases List.mem_append.1 hv with hv | hv
              · exact (HMS.out v hv).1
              · exact (HME.out v hv).1
            have hcat : ∀ W gb, Below wr.heap.size wr W → W.cell? ⟨gb, 0, none⟩ = some (.slice A9 sn c9) → W.cell? ⟨gb, 1, none⟩ = some (.slice A' (es.length + 1) c') → Calls Try.prog 24 #[.slice (some ⟨gb, 0, none⟩) 2 2] W (RetV fun v w' => Below W.heap.size W w' ∧ ReadsV w' v (ss ++ e :: es)) := fun W gb hW q0 q1 =>
              concat_two _ _ ss (e :: es) gb W q0 q1 (HVS.out.below hW) (HVE.out.below hW) (by have := HSN.out; simp only [List.length_cons]; omega)
            have HCAT := Lib.hid hcat; have HKM := Lib.hid hcatm; have HD2 := Lib.hid hd; clear hcat hcatm hd
            clear HDD HOL HML HLTL HVS HVE
            cases all with
            | false =>
              go_wp2_with fail
              refine (HREG.out _).mono ?_
              rintro e w' ⟨rfl, rfl⟩
              go_wp2_with fail
              refine (HCAT.out _ _ ((Below.refl _ _).alloc (Nat.le_refl _) _) (by simp [go_sem]) (by simp [go_sem])).mono ?_
              rintro e w2 ⟨v2, rfl, hb2, hr2⟩
              have hbw2 : Below w.heap.size w w2 := HBRW.out.trans ((((Below.refl _ _).alloc (Nat.le_refl _) _).trans (hb2.mono (by simp))).mono HBRW.out.size)
              have hord := order_two v2 _ w2 hr2.1 (by have := HSN.out; simp only [List.length_append, List.length_cons]; omega) HKM.out
              have HORD := Lib.hid hord; have HBW2 := Lib.hid hbw2; clear hb2 hr2 hbw2 hord
              go_wp2_with fail
              refine HORD.out.mono ?_
              rintro e w3 ⟨v3, rfl, hb3, hr3⟩
              have HR3 := Lib.hid (show Below w.heap.size w w3 ∧ ReadsV w3 v3 dr from ⟨HBW2.out.trans (hb3.mono HBW2.out.size), by rw [HD2.out]; exact hr3⟩)
              clear hb3 hr3
              go_wp2
              go_ret
              exact ⟨_, rfl, HR3.out⟩
            | true =>
              have hlen2 : ¬ (1 : Int) < ((es.length : Nat) : Int) + 1 := by
                simp only [Bool.true_and, decide_eq_true_eq, List.length_cons] at hall
                omega
              go_wp2_with fail
              refine (HREG.out _).mono ?_
              rintro e w' ⟨rfl, rfl⟩
              go_wp2_with fail
              refine (HCAT.out _ _ ((Below.refl _ _).alloc (Nat.le_refl _) _) (by simp [go_sem]) (by simp [go_sem])).mono ?_
              rintro e w2 ⟨v2, rfl, hb2, hr2⟩
              have hbw2 : Below w.heap.size w w2 := HBRW.out.trans ((((Below.refl _ _).alloc (Nat.le_refl _) _).trans (hb2.mono (by simp))).mono HBRW.out.size)
              have hord := order_two v2 _ w2 hr2.1 (by have := HSN.out; simp only [List.length_append, List.length_cons]; omega) HKM.out
              have HORD := Lib.hid hord; have HBW2 := Lib.hid hbw2; clear hb2 hr2 hbw2 hord
              go_wp2_with fail
              refine HORD.out.mono ?_
              rintro e w3 ⟨v3, rfl, hb3, hr3⟩
              have HR3 := Lib.hid (show Below w.heap.size w w3 ∧ ReadsV w3 v3 dr from ⟨HBW2.out.trans (hb3.mono HBW2.out.size), by rw [HD2.out]; exact hr3⟩)
              clear hb3 hr3
              go_wp2
              go_ret
              exact ⟨_, rfl, HR3.out⟩

end Go.Proofs.Ythicjpkomigacaa
