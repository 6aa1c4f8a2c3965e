/- FoldKeeps: the walk. -/
import Derived.Test.YthicjpkomigacaaLawP
import Derived.Test.YthicjpkomigacaaJoin
import Derived.Deep.RegionHeld3
namespace Go.Proofs.Ythicjpkomigacaa
open Go.RowKit

set_option maxRecDepth 100000 in
set_option maxHeartbeats 6400000 in
theorem keeps_off (k : ByteArray) (va vf vm : Value) (vs : List VerD) (fs ms : List Int) (all : Bool) (w : World) (hv : VersR w va vs) (hf : VecR w vf fs) (hm : VecR w vm ms) (hx : ∀ v ∈ vs, numD v)
    (hg : ¬ (lightD vs = true ∧ validL fs = true ∧ ms.length = fs.length ∧ vs.all (rightV k fs.length) = true)) :
    Calls Try.prog 3 #[.string k, va, vf, vm, .bool all] w fun e w' => e = .returned (.bool true) ∧ Below w.heap.size w w' := by
  have hl := light_any va vs w hv
  have hva := valid_any vf fs w hf
  have hr := rightl_any k va vs fs.length w hv hx
  have hal := alive_any
  obtain ⟨A, c, rfl, _, h2, _⟩ := hf
  obtain ⟨Am, cm, rfl, _, h4, _⟩ := hm
  unfold maxLen at h2 h4
  generalize lightD vs = bl at hl hg
  generalize validL fs = bv at hva hg
  generalize vs.all (rightV k fs.length) = br at hr hg
  have HL := Lib.hid hl; have HV := Lib.hid hva; have HR := Lib.hid hr; have HAL := Lib.hid hal
  clear hl hva hr hal hv hx
  generalize ms.length = mn at *
  generalize fs.length = fn at *
  cases bl with
  | false =>
    clear hg
    go_enter Try.func3, Try.ntmps3
    go_wp2_with fail
    refine HL.out.mono ?_
    rintro e w' ⟨rfl, rfl⟩
    go_wp2_with fail
    refine (HAL.out _).mono ?_
    rintro e w1 ⟨rfl, hb⟩
    go_wp2
    go_ret
    exact ⟨rfl, hb⟩
  | true =>
    cases bv with
    | false =>
      clear hg
      go_enter Try.func3, Try.ntmps3
      go_wp2_with fail
      refine HL.out.mono ?_
      rintro e w' ⟨rfl, rfl⟩
      go_wp2_with fail
      refine HV.out.mono ?_
      rintro e w' ⟨rfl, rfl⟩
      go_wp2_with fail
      refine (HAL.out _).mono ?_
      rintro e w1 ⟨rfl, hb⟩
      go_wp2
      go_ret
      exact ⟨rfl, hb⟩
    | true =>
      by_cases hn : mn = fn
      · have hnb : ((mn : Int) != (fn : Int)) = false := by rw [bne_eq_false_iff_eq]; omega
        have HN := Lib.hid hn; clear hn
        obtain rfl : br = false := by
          cases br with
          | false => rfl
          | true => exact absurd ⟨rfl, rfl, HN.out, rfl⟩ hg
        clear hg
        go_enter Try.func3, Try.ntmps3
        go_wp2_with fail
        refine HL.out.mono ?_
        rintro e w' ⟨rfl, rfl⟩
        go_wp2_with fail
        refine HV.out.mono ?_
        rintro e w' ⟨rfl, rfl⟩
        go_wp2_with fail
        refine HR.out.mono ?_
        rintro e w1 ⟨rfl, hb1⟩
        have HB1 := Lib.hid hb1; clear hb1
        go_wp2_with fail
        refine (HAL.out _).mono ?_
        rintro e w2 ⟨rfl, hb2⟩
        go_wp2
        go_ret
        exact ⟨rfl, HB1.out.trans (hb2.mono HB1.out.size)⟩
      · have hnb : ((mn : Int) != (fn : Int)) = true := by rw [bne_iff_ne]; omega
        clear hg hn
        go_enter Try.func3, Try.ntmps3
        go_wp2_with fail
        refine HL.out.mono ?_
        rintro e w' ⟨rfl, rfl⟩
        go_wp2_with fail
        refine HV.out.mono ?_
        rintro e w' ⟨rfl, rfl⟩
        go_wp2_with fail
        refine (HAL.out _).mono ?_
        rintro e w1 ⟨rfl, hb⟩
        go_wp2
        go_ret
        exact ⟨rfl, hb⟩

set_option maxRecDepth 100000 in
set_option maxHeartbeats 6400000 in
theorem keeps_on (k : ByteArray) (va vf vm : Value) (vs : List VerD) (fs ms : List Int) (all : Bool) (w : World) (hv : VersR w va vs) (hf : VecR w vf fs) (hm : VecR w vm ms) (hx : ∀ v ∈ vs, numD v)
    (hl1 : lightD vs = true) (hv1 : validL fs = true) (hn1 : ms.length = fs.length) (hr1 : vs.all (rightV k fs.length) = true) :
    Calls Try.prog 3 #[.string k, va, vf, vm, .bool all] w fun e w' => e = .returned (.bool true) ∧ Below w.heap.size w w' := by
  have hG := good_of hl1 hr1 hx
  obtain ⟨hGd, hdl, heq⟩ := hG.drop all
  have hl := light_any va vs w hv
  have hva := valid_any vf fs w hf
  have hr := rightl_any k va vs fs.length w hv hx
  rw [hl1] at hl; rw [hv1] at hva; rw [hr1] at hr
  have hal := alive_any
  have hvl := validL_len hv1
  have hsm := hG.small hv1
  have hsd := hGd.small hv1
  have hdrop := fun W (hW : Below w.heap.size w W) => drop_any k va vf vs fs all W (hv.below hW) (hf.below hW) (by have := hG.len; omega) hsm hx
  have hjoin0 := fun W (hW : Below w.heap.size w W) => join_any vf vm fs ms W (hf.below hW) (hm.below hW) (by omega)
  have hle0 : leqL fs (joinL fs ms) = true := leqL_joinL hn1.symm
  have hreadL := fun W vt ts (hW : Below w.heap.size w W) (ht : VecR W vt ts) => read_any k va vt vs ts W (hv.below hW) ht (by have := hG.len; omega) hsm hx
  unfold DropP at hdrop
  have hnumL := fun ts => readD_num (k := k) (ts := ts) hG.num
  have hnumM := fun ts => readD_num (k := k) (ts := ts) hGd.num
  have hreadM := fun W r vt ts (hr : VersR W r (dropD k vs fs all)) (ht : VecR W vt ts) => read_any k r vt (dropD k vs fs all) ts W hr ht (by have := hGd.len; omega) hsd hGd.num
  generalize dropD k vs fs all = ds at hGd hdl heq hdrop hreadM hnumM hsd
  generalize hdn : ds.length = dn at hdl
  have HDN := Lib.hid hdn
  -- the places of the list
  have hat := hG.at_
  have hlen := hG.len
  have HVV := Lib.hid hv; have HFF := Lib.hid hf
  obtain ⟨A, c, f, rfl, g1, g2, g3, g4⟩ := hv
  obtain ⟨Af, cf, rfl, _, f2, _⟩ := hf
  obtain ⟨Am, cm, rfl, _, m2, _⟩ := hm
  unfold maxLen at g2 f2 m2
  have HL := Lib.hid hl; have HV := Lib.hid hva; have HR := Lib.hid hr; have HAL := Lib.hid hal
  have HDROP := Lib.hid hdrop; have HJ0 := Lib.hid hjoin0; have HLE0 := Lib.hid hle0; have HRL := Lib.hid hreadL; have HRM := Lib.hid hreadM; have HNL := Lib.hid hnumL; have HNM := Lib.hid hnumM
  have HEQ := Lib.hid heq; have HAT := Lib.hid hat; have H3 := Lib.hid g3; have H4 := Lib.hid g4; have HVL := Lib.hid hvl
  have hnb : ((ms.length : Int) != (fs.length : Int)) = false := by rw [bne_eq_false_iff_eq]; omega
  have HN1 := Lib.hid hn1
  clear hl hva hr hal hdrop hjoin0 hle0 hreadL hreadM hnumL hnumM heq hat g3 g4 hvl hn1 hG hGd hsm hsd hl1 hv1 hr1 hx hdn
  generalize hvn : vs.length = n at *
  have HVN := Lib.hid hvn; clear hvn
  generalize hfn : fs.length = fn at *
  have HFN := Lib.hid hfn; clear hfn
  generalize hmn : ms.length = mn at *
  have HMN := Lib.hid hmn; clear hmn
  go_enter Try.func3, Try.ntmps3
  go_wp2_with fail
  refine HL.out.mono ?_
  rintro e w' ⟨rfl, rfl⟩
  go_wp2_with fail
  refine HV.out.mono ?_
  rintro e w' ⟨rfl, rfl⟩
  go_wp2_with fail
  refine HR.out.mono ?_
  rintro e w1 ⟨rfl, hb1⟩
  have HB1 := Lib.hid hb1; clear hb1
  go_wp2_with fail
  refine (HDROP.out _ HB1.out).mono ?_
  rintro e w2 ⟨r, rfl, hb2, hrd⟩
  have HB2 := Lib.hid (HB1.out.trans (hb2.mono HB1.out.size))
  have HRD := Lib.hid hrd.1
  obtain ⟨Ad, cd, fd, rfl, d1, d2, _⟩ := hrd.1
  unfold maxLen at d2
  rw [HDN.out] at d1 ⊢
  clear hb2 hrd
  go_wp2_with fail
  refine (HJ0.out _ HB2.out).mono ?_
  rintro e w3 ⟨v0, rfl, hb3, hv0, _⟩
  have HB3 := Lib.hid (HB2.out.trans (hb3.mono HB2.out.size))
  have HRD3 := Lib.hid (HRD.out.below hb3)
  have HV0 := Lib.hid hv0
  clear hb3 hv0
  have hj1 := fun W h => join_any v0 v0 (joinL fs ms) (joinL fs ms) W h h (by have := joinL_length (xs := fs) (ys := ms) (by rw [HFN.out, HMN.out]; exact (HN1.out).symm); have := HVL.out; have := HFN.out; omega)
  have HJ1 := Lib.hid hj1; clear hj1
  go_wp2_with fail
  refine (HJ1.out _ HV0.out).mono ?_
  rintro e w4 ⟨v1, rfl, hb4, hv1, _⟩
  have HB4 := Lib.hid (HB3.out.trans (hb4.mono HB3.out.size))
  have HRD4 := Lib.hid (HRD3.out.below hb4)
  have HV04 := Lib.hid (HV0.out.below hb4)
  have HV1 := Lib.hid hv1
  have hle1 : leqL fs (joinL (joinL fs ms) (joinL fs ms)) = true := leqL_trans HLE0.out (leqL_joinL rfl)
  have HLE1 := Lib.hid hle1
  clear hb4 hv1 hle1 HJ1 HRD3 HV0 HRD HB3 HB2 HB1
  obtain ⟨B, hB⟩ : ∃ B, B = w4.heap.size := ⟨_, rfl⟩
  have HB := Lib.hid hB; clear hB
  go_wp2
  go_loopw [13, 14] (fun vt vi wr => ∃ (j : Nat) (ts : List Int), j ≤ n ∧ vi = .int .i64 j ∧ Hid (VecR wr vt ts) ∧ Hid (leqL fs ts = true) ∧ Hid (Below B w4 wr)) (fun _ vi _ => n - (intOf vi).toNat)
  case atStart => exact ⟨0, _, Nat.zero_le _, rfl, HV1, HLE1, Below.refl _ _⟩
  case round =>
    obtain ⟨j, ts, hj, rfl, HT, HLT, HBR⟩ := hrel
    have hBr : Below w4.heap.size w4 wr := by rw [← HB.out]; exact HBR.out
    have hwr : Below w.heap.size w wr := HB4.out.trans (hBr.mono HB4.out.size)
    by_cases hlt : j < n
    · have hltz : (j : Int) < (n : Int) := by omega
      have hvk : vs[j]? = some (vs.getD j default) := by rw [getD_lt _ _ (by rw [HVN.out]; exact hlt)]; exact List.getElem?_eq_getElem _
      obtain ⟨b, o, rfl, hcells⟩ := (H3.out.below hwr) j hlt
      have hx := elem_facts hcells
      have hmean := (H4.out j _ hvk).below hwr
      have hat := HAT.out _ (List.mem_of_getElem? hvk)
      generalize vs.getD j default = v at hvk hmean hat
      generalize f j = x at hx hmean
      have hbr : b < wr.heap.size := World.block_lt_of_cell? wr _ hx.1
      have htl : ts.length = fn := by rw [← HFN.out]; exact (leqL_length HLT.out).symm
      have hjt := join_any _ x.slice ts v.at_ wr HT.out hmean.1 (by have := HVL.out; omega)
      have hjf := fun W (hW : Below wr.heap.size wr W) => join_any (.slice Af fn cf) x.slice fs v.at_ W (HFF.out.below (hwr.trans (hW.mono hwr.size))) (hmean.1.below hW) (by have := HVL.out; have := HFN.out; omega)
      have hsame := HEQ.out (joinL fs v.at_) (leqL_joinL (by rw [HFN.out]; exact hat.symm))
      have hlt2 : leqL fs (joinL ts v.at_) = true := leqL_trans HLT.out (leqL_joinL (by omega))
      simp only [VerV.slice] at hjt hjf
      have HJT := Lib.hid hjt; have HJF := Lib.hid hjf; have HLT2 := Lib.hid hlt2; have HBRR := Lib.hid hBr; have HWR := Lib.hid hwr
      obtain ⟨_, x1, _⟩ := hx
      clear hcells hmean hjt hjf hvk hat htl hlt2 hBr hwr
      go_wp2_with fail
      refine HJT.out.mono ?_
      rintro e w5 ⟨v5, rfl, hb5, hv5, _⟩
      have y1 := (hb5.cell hbr).trans x1
      have hbr5 : b < w5.heap.size := Nat.lt_of_lt_of_le hbr hb5.size
      have HB5 := Lib.hid hb5; have HV5 := Lib.hid hv5
      clear hb5 hv5 x1 hbr
      have HS := Lib.hid (keep_drew (N := w5.heap.size) (W := w5) (Nat.le_refl _))
      have hJ : ∀ W, Hid (Below w5.heap.size w5 W) → Calls Try.prog 12 #[.slice Af fn cf, .slice x.A x.n x.c] W (RetV (JoinP W fs v.at_)) := fun W hW => HJF.out W (HB5.out.trans (hW.out.mono HB5.out.size))
      have hRL : ∀ W vt ts, Hid (Below w5.heap.size w5 W) → VecR W vt ts → Calls Try.prog 14 #[.string k, .slice (some ⟨b, o, none⟩) n c, vt] W fun e w' => e = .returned (.agg (encW (readD k vs ts)).toArray) ∧ Below W.heap.size W w' := fun W vt ts hW ht =>
        HRL.out W vt ts (HWR.out.trans ((HB5.out.trans (hW.out.mono HB5.out.size)).mono HWR.out.size)) ht
      have hRM : ∀ W vt ts, Hid (Below w5.heap.size w5 W) → VecR W vt ts → Calls Try.prog 14 #[.string k, .slice Ad dn cd, vt] W fun e w' => e = .returned (.agg (encW (readD k ds ts)).toArray) ∧ Below W.heap.size W w' := fun W vt ts hW ht =>
        HRM.out W _ vt ts (by have h := HRD4.out; rw [HDN.out] at h; exact h.below (HBRR.out.trans ((HB5.out.trans (hW.out.mono HB5.out.size)).mono HBRR.out.size))) ht
      have HJ := Lib.hid hJ; have HRL5 := Lib.hid hRL; have HRM5 := Lib.hid hRM
      clear hJ hRL hRM
      go_wp2_with fail
      go_region_held3 (fun W' => (∀ b o, b < w5.heap.size → W'.cell? ⟨b, o, none⟩ = w5.cell? ⟨b, o, none⟩) ∧ Hid (Below w5.heap.size w5 W') ∧ w5.heap.size ≤ W'.heap.size)
        (first
          | (exact HS.out)
          | (refine keep_step (by assumption) ?_; first | assumption | exact Below.refl _ _ | exact (Below.refl _ _).alloc (Nat.le_refl _) _))
        (first
          | (go_at_call 12; refine (HJ.out _ (by go_split_ands; assumption)).mono ?_; rintro e w6 ⟨v6, rfl, hb6, hv6, _⟩)
          | (go_at_call_of 14 (Value.slice Ad dn cd); refine (HRM5.out _ _ _ (by go_split_ands; assumption) (by assumption)).mono ?_; rintro e w7 ⟨rfl, hb7⟩)
          | (go_at_call 14; refine (HRL5.out _ _ _ (by go_split_ands; assumption) (by assumption)).mono ?_; rintro e w7 ⟨rfl, hb7⟩)
          | (go_at_call 13; refine (sameValue_any _ _ (HNL.out _) (HNM.out _) _).mono ?_; rintro e w8 ⟨rfl, hb8⟩))
      have hb58 : Below w5.heap.size w5 w8 := Hid.out (by go_split_ands; assumption)
      have HB58 := Lib.hid hb58
      clear hb58
      go_wp2
      go_roundw
      case rel => exact ⟨j + 1, joinL ts v.at_, by omega, by go_num, HV5.out.below HB58.out, HLT2, HBR.out.trans ((HB5.out.trans (HB58.out.mono HB5.out.size)).mono (by have := HBRR.out.size; rw [HB.out]; exact this))⟩
      case measure => simp [intOf]; omega
    · obtain rfl : j = n := by omega
      have hltz : ¬ (j : Int) < (j : Int) := by omega
      have hs1 := HEQ.out (joinL fs ms) HLE0.out
      have hs2 := HEQ.out fs (leqL_refl fs)
      have hs3 := HEQ.out ts HLT.out
      have hRL : ∀ W vt ts, Hid (Below w4.heap.size w4 W) → VecR W vt ts → Calls Try.prog 14 #[.string k, .slice A j c, vt] W fun e w' => e = .returned (.agg (encW (readD k vs ts)).toArray) ∧ Below W.heap.size W w' := fun W vt ts hW ht =>
        HRL.out W vt ts (HB4.out.trans (hW.out.mono HB4.out.size)) ht
      have hRM : ∀ W vt ts, Hid (Below w4.heap.size w4 W) → VecR W vt ts → Calls Try.prog 14 #[.string k, .slice Ad dn cd, vt] W fun e w' => e = .returned (.agg (encW (readD k ds ts)).toArray) ∧ Below W.heap.size W w' := fun W vt ts hW ht =>
        HRM.out W _ vt ts (by have h := HRD4.out; rw [HDN.out] at h; exact h.below hW.out) ht
      have hv0 : ∀ W, Hid (Below w4.heap.size w4 W) → VecR W v0 (joinL fs ms) := fun W hW => HV04.out.below hW.out
      have hvf : ∀ W, Hid (Below w4.heap.size w4 W) → VecR W (.slice Af fn cf) fs := fun W hW => HFF.out.below (HB4.out.trans (hW.out.mono HB4.out.size))
      have hvt : ∀ W, Hid (Below wr.heap.size wr W) → VecR W u13 ts := fun W hW => HT.out.below hW.out
      have HRL6 := Lib.hid hRL; have HRM6 := Lib.hid hRM; have HV06 := Lib.hid hv0; have HVF6 := Lib.hid hvf; have HVT6 := Lib.hid hvt; have HBRR := Lib.hid hBr; have HWR := Lib.hid hwr
      have HS1 := Lib.hid hs1; have HS2 := Lib.hid hs2; have HS3 := Lib.hid hs3
      clear hRL hRM hv0 hvf hvt hBr hwr hs1 hs2 hs3
      have hdz : (dn : Int) ≤ (j : Int) := by omega
      go_wp2_with fail
      refine (HAL.out _).mono ?_
      rintro e w6 ⟨rfl, hb6⟩
      have HB6 := Lib.hid hb6; clear hb6
      go_wp2_with fail
      refine (HRL6.out _ _ _ (Lib.hid (HBRR.out.trans (HB6.out.mono HBRR.out.size))) (HV06.out _ (Lib.hid (HBRR.out.trans (HB6.out.mono HBRR.out.size))))).mono ?_
      rintro e w7 ⟨rfl, hb7⟩
      have HB7 := Lib.hid (HB6.out.trans (hb7.mono HB6.out.size)); clear hb7
      go_wp2_with fail
      refine (HRM6.out _ _ _ (Lib.hid (HBRR.out.trans (HB7.out.mono HBRR.out.size))) (HV06.out _ (Lib.hid (HBRR.out.trans (HB7.out.mono HBRR.out.size))))).mono ?_
      rintro e w8 ⟨rfl, hb8⟩
      have HB8 := Lib.hid (HB7.out.trans (hb8.mono HB7.out.size)); clear hb8
      go_wp2_with fail
      refine (sameValue_any _ _ (HNL.out _) (HNM.out _) _).mono ?_
      rintro e w9 ⟨rfl, hb9⟩
      have HB9 := Lib.hid (HB8.out.trans (hb9.mono HB8.out.size)); clear hb9
      rw [HS1.out]
      go_wp2_with fail
      refine (HRL6.out _ _ _ (Lib.hid (HBRR.out.trans (HB9.out.mono HBRR.out.size))) (HVF6.out _ (Lib.hid (HBRR.out.trans (HB9.out.mono HBRR.out.size))))).mono ?_
      rintro e w10 ⟨rfl, hb10⟩
      have HB10 := Lib.hid (HB9.out.trans (hb10.mono HB9.out.size)); clear hb10
      go_wp2_with fail
      refine (HRM6.out _ _ _ (Lib.hid (HBRR.out.trans (HB10.out.mono HBRR.out.size))) (HVF6.out _ (Lib.hid (HBRR.out.trans (HB10.out.mono HBRR.out.size))))).mono ?_
      rintro e w11 ⟨rfl, hb11⟩
      have HB11 := Lib.hid (HB10.out.trans (hb11.mono HB10.out.size)); clear hb11
      go_wp2_with fail
      refine (sameValue_any _ _ (HNL.out _) (HNM.out _) _).mono ?_
      rintro e w12 ⟨rfl, hb12⟩
      have HB12 := Lib.hid (HB11.out.trans (hb12.mono HB11.out.size)); clear hb12
      rw [HS2.out]
      go_wp2_with fail
      refine (HRL6.out _ _ _ (Lib.hid (HBRR.out.trans (HB12.out.mono HBRR.out.size))) (HVT6.out _ HB12)).mono ?_
      rintro e w13 ⟨rfl, hb13⟩
      have HB13 := Lib.hid (HB12.out.trans (hb13.mono HB12.out.size)); clear hb13
      go_wp2_with fail
      refine (HRM6.out _ _ _ (Lib.hid (HBRR.out.trans (HB13.out.mono HBRR.out.size))) (HVT6.out _ HB13)).mono ?_
      rintro e w14 ⟨rfl, hb14⟩
      have HB14 := Lib.hid (HB13.out.trans (hb14.mono HB13.out.size)); clear hb14
      go_wp2_with fail
      refine (sameValue_any _ _ (HNL.out _) (HNM.out _) _).mono ?_
      rintro e w15 ⟨rfl, hb15⟩
      have HB15 := Lib.hid (HB14.out.trans (hb15.mono HB14.out.size)); clear hb15
      rw [HS3.out]
      go_wp2
      go_ret
      exact ⟨rfl, HWR.out.trans (HB15.out.mono HWR.out.size)⟩

theorem keeps_any (k : ByteArray) (va vf vm : Value) (vs : List VerD) (fs ms : List Int) (all : Bool) (w : World) (hv : VersR w va vs) (hf : VecR w vf fs) (hm : VecR w vm ms) (hx : ∀ v ∈ vs, numD v) :
    Calls Try.prog 3 #[.string k, va, vf, vm, .bool all] w fun e w' => e = .returned (.bool true) ∧ Below w.heap.size w w' := by
  by_cases hg : lightD vs = true ∧ validL fs = true ∧ ms.length = fs.length ∧ vs.all (rightV k fs.length) = true
  · exact keeps_on k va vf vm vs fs ms all w hv hf hm hx hg.1 hg.2.1 hg.2.2.1 hg.2.2.2
  · exact keeps_off k va vf vm vs fs ms all w hv hf hm hx hg

end Go.Proofs.Ythicjpkomigacaa
