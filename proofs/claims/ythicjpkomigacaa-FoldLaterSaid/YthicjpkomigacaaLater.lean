/- FoldLater: the walk. -/
import Derived.Test.YthicjpkomigacaaApp
import Derived.Test.YthicjpkomigacaaJoin
import Derived.Outline
import Derived.Deep.RegionHeld3
import Derived.Deep.RegionLaw
import Derived.Deep.QuietTactic
import Derived.BigQuiet
namespace Go.Proofs.Ythicjpkomigacaa
open Go.RowKit

theorem light_60 {vs : List VerD} (h : lightD vs = true) : vs.length ≤ 60 := by
  unfold lightD at h
  simp only [Bool.and_eq_true, decide_eq_true_eq] at h
  omega

set_option maxRecDepth 100000 in
set_option maxHeartbeats 6400000 in
theorem later_off (k : ByteArray) (va vl vf vm : Value) (vs ls : List VerD) (fs ms : List Int) (w : World) (hv : VersR w va vs) (hvl : VersR w vl ls) (hf : VecR w vf fs) (hm : VecR w vm ms) (hx : ∀ v ∈ vs, numD v) (hxl : ∀ v ∈ ls, numD v)
    (hg : ¬ (lightD vs = true ∧ lightD ls = true ∧ vs.length + ls.length ≤ 60 ∧ validL fs = true ∧ ms.length = fs.length ∧ vs.all (rightV k fs.length) = true ∧ ls.all (rightV k fs.length) = true)) :
    Calls Try.prog 4 #[.string k, va, vl, vf, vm] w fun e w' => e = .returned (.bool true) ∧ Below w.heap.size w w' := by
  have hl := fun W (hW : Below w.heap.size w W) => light_any va vs W (hv.below hW)
  have hk := fun W (hW : Below w.heap.size w W) => light_any vl ls W (hvl.below hW)
  have hva := fun W (hW : Below w.heap.size w W) => valid_any vf fs W (hf.below hW)
  have hr := fun W (hW : Below w.heap.size w W) => rightl_any k va vs fs.length W (hv.below hW) hx
  have hs := fun W (hW : Below w.heap.size w W) => rightl_any k vl ls fs.length W (hvl.below hW) hxl
  have hal := alive_any
  have h60 := fun h => light_60 (vs := vs) h
  have h61 := fun h => light_60 (vs := ls) h
  obtain ⟨Av, cv, _, rfl, _, h6, _⟩ := hv
  obtain ⟨Al, cl, _, rfl, _, h7, _⟩ := hvl
  obtain ⟨A, c, rfl, _, h2, _⟩ := hf
  obtain ⟨Am, cm, rfl, _, h4, _⟩ := hm
  unfold maxLen at h2 h4 h6 h7
  generalize lightD vs = bl at hl hg h60
  generalize lightD ls = bk at hk hg h61
  generalize validL fs = bv at hva hg
  generalize vs.all (rightV k fs.length) = br at hr hg
  generalize ls.all (rightV k fs.length) = bs at hs hg
  have HL := Lib.hid hl; have HK := Lib.hid hk; have HV := Lib.hid hva; have HR := Lib.hid hr; have HS := Lib.hid hs; have HAL := Lib.hid hal; have H60 := Lib.hid h60; have H61 := Lib.hid h61
  clear hl hk hva hr hs hal hx hxl h60 h61
  generalize ms.length = mn at *
  generalize fs.length = fn at *
  generalize vs.length = n at *
  generalize ls.length = ln at *
  cases bl with
  | false =>
    clear hg
    go_enter Try.func4, Try.ntmps4
    go_wp2_with fail
    refine (HL.out _ (Below.refl _ _)).mono ?_
    rintro e w' ⟨rfl, rfl⟩
    go_wp2_with fail
    refine (HAL.out _).mono ?_
    rintro e wz ⟨rfl, hbz⟩
    have HBZ := Lib.hid hbz; clear hbz
    go_wp2
    go_ret
    exact ⟨rfl, HBZ.out⟩
  | true =>
    have hn60 : n ≤ 60 := H60.out rfl
    cases bk with
    | false =>
      clear hg
      go_enter Try.func4, Try.ntmps4
      go_wp2_with fail
      refine (HL.out _ (Below.refl _ _)).mono ?_
      rintro e w' ⟨rfl, rfl⟩
      go_wp2_with fail
      refine (HK.out _ (Below.refl _ _)).mono ?_
      rintro e w' ⟨rfl, rfl⟩
      go_wp2_with fail
      refine (HAL.out _).mono ?_
      rintro e wz ⟨rfl, hbz⟩
      have HBZ := Lib.hid hbz; clear hbz
      go_wp2
      go_ret
      exact ⟨rfl, HBZ.out⟩
    | true =>
      have hl60 : ln ≤ 60 := H61.out rfl
      by_cases hsu : n + ln ≤ 60
      · have hsz : ¬ (60 : Int) < (n : Int) + (ln : Int) := by omega
        have HSU := Lib.hid hsu; clear hsu
        cases bv with
        | false =>
          clear hg
          go_enter Try.func4, Try.ntmps4
          go_wp2_with fail
          refine (HL.out _ (Below.refl _ _)).mono ?_
          rintro e w' ⟨rfl, rfl⟩
          go_wp2_with fail
          refine (HK.out _ (Below.refl _ _)).mono ?_
          rintro e w' ⟨rfl, rfl⟩
          go_wp2_with fail
          refine (HV.out _ (Below.refl _ _)).mono ?_
          rintro e w' ⟨rfl, rfl⟩
          go_wp2_with fail
          refine (HAL.out _).mono ?_
          rintro e wz ⟨rfl, hbz⟩
          have HBZ := Lib.hid hbz; clear hbz
          go_wp2
          go_ret
          exact ⟨rfl, HBZ.out⟩
        | true =>
          by_cases hn : mn = fn
          · have hnb : ((mn : Int) != (fn : Int)) = false := by rw [bne_eq_false_iff_eq]; omega
            have HN := Lib.hid hn; clear hn
            cases br with
            | false =>
              clear hg
              go_enter Try.func4, Try.ntmps4
              go_wp2_with fail
              refine (HL.out _ (Below.refl _ _)).mono ?_
              rintro e w' ⟨rfl, rfl⟩
              go_wp2_with fail
              refine (HK.out _ (Below.refl _ _)).mono ?_
              rintro e w' ⟨rfl, rfl⟩
              go_wp2_with fail
              refine (HV.out _ (Below.refl _ _)).mono ?_
              rintro e w' ⟨rfl, rfl⟩
              go_wp2_with fail
              refine (HR.out _ (Below.refl _ _)).mono ?_
              rintro e w1 ⟨rfl, hb1⟩
              have HB1 := Lib.hid hb1; clear hb1
              go_wp2_with fail
              refine (HAL.out _).mono ?_
              rintro e wz ⟨rfl, hbz⟩
              have HBZ := Lib.hid (HB1.out.trans (hbz.mono HB1.out.size)); clear hbz
              go_wp2
              go_ret
              exact ⟨rfl, HBZ.out⟩
            | true =>
              cases bs with
              | false =>
                clear hg
                go_enter Try.func4, Try.ntmps4
                go_wp2_with fail
                refine (HL.out _ (Below.refl _ _)).mono ?_
                rintro e w' ⟨rfl, rfl⟩
                go_wp2_with fail
                refine (HK.out _ (Below.refl _ _)).mono ?_
                rintro e w' ⟨rfl, rfl⟩
                go_wp2_with fail
                refine (HV.out _ (Below.refl _ _)).mono ?_
                rintro e w' ⟨rfl, rfl⟩
                go_wp2_with fail
                refine (HR.out _ (Below.refl _ _)).mono ?_
                rintro e w1 ⟨rfl, hb1⟩
                have HB1 := Lib.hid hb1; clear hb1
                go_wp2_with fail
                refine (HS.out _ HB1.out).mono ?_
                rintro e w2 ⟨rfl, hb2⟩
                have HB2 := Lib.hid (HB1.out.trans (hb2.mono HB1.out.size)); clear hb2
                go_wp2_with fail
                refine (HAL.out _).mono ?_
                rintro e wz ⟨rfl, hbz⟩
                have HBZ := Lib.hid (HB2.out.trans (hbz.mono HB2.out.size)); clear hbz
                go_wp2
                go_ret
                exact ⟨rfl, HBZ.out⟩
              | true =>
                exact absurd ⟨rfl, rfl, HSU.out, rfl, HN.out, rfl, rfl⟩ hg
          · have hnb : ((mn : Int) != (fn : Int)) = true := by rw [bne_iff_ne]; omega
            clear hg hn
            go_enter Try.func4, Try.ntmps4
            go_wp2_with fail
            refine (HL.out _ (Below.refl _ _)).mono ?_
            rintro e w' ⟨rfl, rfl⟩
            go_wp2_with fail
            refine (HK.out _ (Below.refl _ _)).mono ?_
            rintro e w' ⟨rfl, rfl⟩
            go_wp2_with fail
            refine (HV.out _ (Below.refl _ _)).mono ?_
            rintro e w' ⟨rfl, rfl⟩
            go_wp2_with fail
            refine (HAL.out _).mono ?_
            rintro e wz ⟨rfl, hbz⟩
            have HBZ := Lib.hid hbz; clear hbz
            go_wp2
            go_ret
            exact ⟨rfl, HBZ.out⟩
      · have hsz : (60 : Int) < (n : Int) + (ln : Int) := by omega
        clear hg hsu
        go_enter Try.func4, Try.ntmps4
        go_wp2_with fail
        refine (HL.out _ (Below.refl _ _)).mono ?_
        rintro e w' ⟨rfl, rfl⟩
        go_wp2_with fail
        refine (HK.out _ (Below.refl _ _)).mono ?_
        rintro e w' ⟨rfl, rfl⟩
        go_wp2_with fail
        refine (HAL.out _).mono ?_
        rintro e wz ⟨rfl, hbz⟩
        have HBZ := Lib.hid hbz; clear hbz
        go_wp2
        go_ret
        exact ⟨rfl, HBZ.out⟩

set_option maxRecDepth 100000 in
set_option maxHeartbeats 6400000 in
theorem later_on (k : ByteArray) (va vl vf vm : Value) (vs ls : List VerD) (fs ms : List Int) (w : World) (hv : VersR w va vs) (hpv : Proper va) (hvl : VersR w vl ls) (hpl : Proper vl) (hf : VecR w vf fs) (hm : VecR w vm ms) (hx : ∀ v ∈ vs, numD v) (hxl : ∀ v ∈ ls, numD v)
    (hl1 : lightD vs = true) (hl2 : lightD ls = true) (h60 : vs.length + ls.length ≤ 60) (hv1 : validL fs = true) (hn1 : ms.length = fs.length) (hrr : vs.all (rightV k fs.length) = true) (hrl : ls.all (rightV k fs.length) = true) :
    Calls Try.prog 4 #[.string k, va, vl, vf, vm] w fun e w' => e = .returned (.bool true) ∧ Below w.heap.size w w' := by
  have hsf := run_store_float Try.prog
  obtain ⟨i0, hi, hz0, hz1, hz2⟩ := info_parts Try.info_ver
  have hG := good_of hl1 hrr hx
  have hGl := good_of hl2 hrl hxl
  have hvlen := validL_len hv1
  have hrv : ∀ v ∈ ls, 0 ≤ v.origin ∧ v.origin < fs.length ∨ v.origin = 254 := fun v hv => by
    have h := List.all_eq_true.1 hrl v hv
    unfold rightV at h
    simp only [Bool.and_eq_true, decide_eq_true_eq, Bool.not_eq_true', Bool.and_eq_false_iff, Bool.or_eq_false_iff, decide_eq_false_iff_not, Bool.not_eq_false'] at h
    rcases h.2.2.1 with h | h
    · left; omega
    · right; exact h
  have gd := (hG.drop true).1
  have ld := (hG.drop true).2.1
  have ga : GoodL k fs (vs ++ ls) := ⟨by rw [List.length_append]; omega, fun v hv => by
      rcases List.mem_append.1 hv with hv | hv
      · exact hG.fit v hv
      · exact hGl.fit v hv, fun v hv => by
      rcases List.mem_append.1 hv with hv | hv
      · exact hG.at_ v hv
      · exact hGl.at_ v hv, fun v hv => by
      rcases List.mem_append.1 hv with hv | hv
      · exact hG.num v hv
      · exact hGl.num v hv⟩
  have gb : GoodL k fs (dropD k vs fs true ++ ls) := ⟨by rw [List.length_append]; omega, fun v hv => by
      rcases List.mem_append.1 hv with hv | hv
      · exact gd.fit v hv
      · exact hGl.fit v hv, fun v hv => by
      rcases List.mem_append.1 hv with hv | hv
      · exact gd.at_ v hv
      · exact hGl.at_ v hv, fun v hv => by
      rcases List.mem_append.1 hv with hv | hv
      · exact gd.num v hv
      · exact hGl.num v hv⟩
  have hsame := fun hlate hd => later_read (k := k) (fs := fs) (vs := vs) (ls := ls) hG hGl hrl hlate hd
  have hle0 : leqL fs (joinL fs ms) = true := leqL_joinL hn1.symm
  have hsmall : ∀ {us : List VerD}, GoodL k fs us → us.length ≤ 10000 ∧ (∀ v ∈ us, v.at_.length ≤ 1000000) ∧ ∀ v ∈ us, numD v := fun h => ⟨by have := h.len; omega, fun v hv => by have := h.at_ v hv; omega, h.num⟩
  have s0 := hsmall hG; have sa := hsmall ga; have sb := hsmall gb
  have hd := fun W (h1 : VersR W va vs) (h2 : VecR W vf fs) => drop_any k va vf vs fs true W h1 h2 s0.1 s0.2.1 s0.2.2
  have hra := fun va vt ts W (h1 : VersR W va (vs ++ ls)) (h2 : VecR W vt ts) => read_any k va vt _ ts W h1 h2 (by have := sa.1; omega) sa.2.1 sa.2.2
  have hrb := fun va vt ts W (h1 : VersR W va (dropD k vs fs true ++ ls)) (h2 : VecR W vt ts) => read_any k va vt _ ts W h1 h2 (by have := sb.1; omega) sb.2.1 sb.2.2
  have na := fun ts => readD_num (k := k) (ts := ts) ga.num
  have nb := fun ts => readD_num (k := k) (ts := ts) gb.num
  unfold DropP at hd
  have hjoin := fun W (hW : Below w.heap.size w W) => join_any vf vm fs ms W (hf.below hW) (hm.below hW) (by omega)
  have hjf := fun W vx xs (hW : Below w.heap.size w W) (hx : VecR W vx xs) => join_any vf vx fs xs W (hf.below hW) hx (by omega)
  have hleq := fun W vx xs (hW : Below w.heap.size w W) (hx : VecR W vx xs) => leq_any vx vf xs fs W hx (hf.below hW)
  have hl := light_any va vs w hv
  have hk := light_any vl ls w hvl
  have hva := valid_any vf fs w hf
  have hr := rightl_any k va vs fs.length w hv hx
  have hrl2 := fun W (hW : Below w.heap.size w W) => rightl_any k vl ls fs.length W (hvl.below hW) hxl
  rw [hl1] at hl; rw [hl2] at hk; rw [hv1] at hva; rw [hrr] at hr; rw [hrl] at hrl2
  have hal := alive_any
  have hav : ReadsV w va vs := ⟨hv, hpv⟩
  have hal2 : ReadsV w vl ls := ⟨hvl, hpl⟩
  have hata := ga.at_
  have hatl := hGl.at_
  have hff := hf
  obtain ⟨A, c, fv, rfl, t1, t2, t3, t4⟩ := hv
  obtain ⟨Al, cl, f, rfl, q1, q2, q3, q4⟩ := hvl
  obtain ⟨Af, cf, rfl, f1, f2, f3⟩ := hf
  obtain ⟨Am, cm, rfl, _, m2, _⟩ := hm
  unfold maxLen at t2 q2 f2 m2
  have hnb : ((ms.length : Int) != (fs.length : Int)) = false := by rw [bne_eq_false_iff_eq]; omega
  have hsz : ¬ (60 : Int) < (vs.length : Int) + (ls.length : Int) := by omega
  have HD := Lib.hid hd; have HRA := Lib.hid hra; have HRB := Lib.hid hrb; have NA := Lib.hid na; have NB := Lib.hid nb; have HJ := Lib.hid hjoin; have HJF := Lib.hid hjf; have HLQ := Lib.hid hleq
  have HL := Lib.hid hl; have HK := Lib.hid hk; have HV := Lib.hid hva; have HR := Lib.hid hr; have HR2 := Lib.hid hrl2; have HAL := Lib.hid hal; have HAV := Lib.hid hav; have HAL2 := Lib.hid hal2
  have HATA := Lib.hid hata; have HATL := Lib.hid hatl; have HFF := Lib.hid hff; have Q3 := Lib.hid q3; have Q4 := Lib.hid q4; have F3 := Lib.hid f3; have HRV := Lib.hid hrv; have HSAME := Lib.hid hsame; have HLE0 := Lib.hid hle0; have HN1 := Lib.hid hn1; have HVLEN := Lib.hid hvlen
  clear hd hra hrb na nb hjoin hjf hleq hl hk hva hr hrl2 hal hav hal2 hata hatl hff q3 q4 f3 hrv hsame hle0 hn1 hvlen t3 t4 s0 sa sb gd ga gb hG hGl hsmall hx hxl hl1 hl2 hv1 hrr hrl hpv hpl
  generalize hds : dropD k vs fs true = ds at *
  clear hds
  generalize hn : vs.length = n at *
  have HN := Lib.hid hn; clear hn
  generalize hln : ls.length = ln at *
  have HLN := Lib.hid hln; clear hln
  generalize hfn : fs.length = fn at *
  have HFN := Lib.hid hfn; clear hfn
  generalize ms.length = mn at *
  go_enter Try.func4, Try.ntmps4
  go_wp2_with fail
  refine HL.out.mono ?_
  rintro e w' ⟨rfl, rfl⟩
  go_wp2_with fail
  refine HK.out.mono ?_
  rintro e w' ⟨rfl, rfl⟩
  go_wp2_with fail
  refine HV.out.mono ?_
  rintro e w' ⟨rfl, rfl⟩
  go_wp2_with fail
  refine HR.out.mono ?_
  rintro e w1 ⟨rfl, hb1⟩
  have HB0 := Lib.hid hb1; clear hb1
  go_wp2_with fail
  refine (HR2.out _ HB0.out).mono ?_
  rintro e w2 ⟨rfl, hb2⟩
  have HB1 := Lib.hid (HB0.out.trans (hb2.mono HB0.out.size)); clear hb2 HB0
  obtain ⟨B, hB⟩ : ∃ B, B = w2.heap.size := ⟨_, rfl⟩
  have HBB := Lib.hid hB; clear hB
  go_wp2
  go_loopw [11] (fun vi wr => ∃ j : Nat, j ≤ ln ∧ vi = .int .i64 j ∧ Hid (∀ v ∈ ls.take j, lateV fs v) ∧ Hid (Below B w2 wr)) (fun vi _ => ln - (intOf vi).toNat)
  case atStart => exact ⟨0, Nat.zero_le _, rfl, (fun v hv => by simp at hv), Below.refl _ _⟩
  case round =>
    obtain ⟨j, hj, rfl, HLT, HBR⟩ := hrel
    have hBr : Below w2.heap.size w2 wr := by rw [← HBB.out]; exact HBR.out
    have hwr : Below w.heap.size w wr := HB1.out.trans (hBr.mono HB1.out.size)
    by_cases hlt : j < ln
    · have hltz : (j : Int) < (ln : Int) := by omega
      have hvk : ls[j]? = some (ls.getD j default) := by rw [getD_lt _ _ (by rw [HLN.out]; exact hlt)]; exact List.getElem?_eq_getElem _
      obtain ⟨b, o, rfl, hcells⟩ := (Q3.out.below hwr) j hlt
      have hx := elem_facts hcells
      have hmean := (Q4.out j _ hvk).below hwr
      have hat := HATL.out _ (List.mem_of_getElem? hvk)
      have hrg := HRV.out _ (List.mem_of_getElem? hvk)
      have hgood : lateV fs (ls.getD j default) → ∀ v ∈ ls.take (j + 1), lateV fs v := fun h v hv => by
        have hj' : j < ls.length := by rw [HLN.out]; exact hlt
        rw [List.take_succ_eq_append_getElem hj', ← getD_lt _ default hj'] at hv
        rcases List.mem_append.1 hv with hv | hv
        · exact HLT.out v hv
        · obtain rfl : v = ls.getD j default := by simpa using hv
          exact h
      generalize ls.getD j default = v at hmean hat hgood hrg
      generalize f j = x at hx hmean
      have hbr : b < wr.heap.size := World.block_lt_of_cell? wr _ hx.1
      have hleq := fun W (hW : Below wr.heap.size wr W) => HLQ.out W x.slice v.at_ (hwr.trans (hW.mono hwr.size)) (hmean.1.below hW)
      have hor : v.origin = x.origin := by rw [hmean.2]; rfl
      have hvr := hmean.1
      rw [hor] at hrg
      obtain ⟨xk, xA, xn, xc, xo, xt, xkind, xnum, xint, xtext⟩ := x
      dsimp only [VerV.slice] at hleq hx hrg hor hvr
      have hleq2 : ∀ W, Hid (Below wr.heap.size wr W) → Calls Try.prog 15 #[.slice xA xn xc, .slice Af fn cf] W fun e w' => e = .returned (.bool (leqL v.at_ fs)) ∧ W = w' := fun W hW => hleq W hW.out
      have HS := Lib.hid (keep_drew (N := wr.heap.size) (W := wr) (Nat.le_refl _))
      have HWR := Lib.hid hwr; have HBRR := Lib.hid hBr; have HGD := Lib.hid hgood; have HORV := Lib.hid hor; have HVR := Lib.hid hvr; have HAT := Lib.hid hat
      obtain ⟨_, x1, x2, _⟩ := hx
      clear hcells hmean hvk hleq hwr hBr hgood hor hvr hat
      by_cases c1 : xo = 254
      · have c1b : (xo == 254) = true := by simpa using c1
        have K1 := Lib.hid c1; clear c1 hleq2 hrg
        go_wp2_with fail
        go_quiet (fail)
        rename_i nq
        have hb2 : Below wr.heap.size wr (wr.drewN nq) := Below_drewN wr nq
        have HB2 := Lib.hid (HWR.out.trans (hb2.mono HWR.out.size)); clear hb2
        go_wp2_with fail
        refine (HAL.out _).mono ?_
        rintro e w9 ⟨rfl, hb9⟩
        have HB9 := Lib.hid (HB2.out.trans (hb9.mono HB2.out.size)); clear hb9
        go_wp2
        go_ret
        exact ⟨rfl, HB9.out⟩
      · have c1b : (xo == 254) = false := by simpa using c1
        have hq0 : 0 ≤ xo ∧ xo < fn := by rcases hrg with h | h; exact h; exact absurd h c1
        obtain ⟨q, rfl⟩ := Int.eq_ofNat_of_zero_le hq0.1
        have hqf : q < fn := by omega
        have K1 := Lib.hid c1; clear c1 hrg hq0
        generalize hlb : leqL v.at_ fs = lb at hleq2
        have HLB := Lib.hid hlb; have HLEQ := Lib.hid hleq2; clear hlb hleq2
        cases lb with
        | true =>
          go_wp2_with fail
          go_quiet ((go_at_call 15; exact Calls.quiet_of_same ((HLEQ.out _ (Below_drewN wr _)).mono fun _ _ ⟨a, b⟩ => ⟨a, b.symm⟩)))
          rename_i nq
          generalize hwz : wr.drewN nq = wz
          have HZ : Hid (Below wr.heap.size wr wz) := by rw [← hwz]; exact Below_drewN wr nq
          clear hwz
          go_wp2_with fail
          refine (HAL.out _).mono ?_
          rintro e w9 ⟨rfl, hb9⟩
          have HB9 := Lib.hid (HWR.out.trans ((HZ.out.trans (hb9.mono HZ.out.size)).mono HWR.out.size)); clear hb9
          go_wp2
          go_ret
          exact ⟨rfl, HB9.out⟩
        | false =>
          obtain ⟨b3, o3, hAf, hc3⟩ := F3.out q hqf
          subst hAf
          have hc3r := (HWR.out.cell (World.block_lt_of_cell? w _ hc3)).trans hc3
          have hb3 : b3 < wr.heap.size := World.block_lt_of_cell? wr _ hc3r
          obtain ⟨A4, c4, hsl, _, _, hc4⟩ := HVR.out
          simp only [Value.slice.injEq] at hsl
          obtain ⟨hA4, hxn, hc4e⟩ := hsl
          have hqn : q < v.at_.length := by rw [HAT.out]; have := HFN.out; omega
          obtain ⟨b4, o4, hA5, hc4r⟩ := hc4 q hqn
          rw [hA5] at hA4
          subst hA4
          have hb4 : b4 < wr.heap.size := World.block_lt_of_cell? wr _ hc4r
          have hqx : q < xn := by rw [hxn]; exact hqn
          have e1 : (0 : Int) ≤ (q : Int) := by omega
          have e2 : (q : Int) < (fn : Int) := by omega
          have e3 : (q : Int) < (xn : Int) := by omega
          generalize hva : v.at_.getD q 0 = ta at hc4r
          generalize hfa : fs.getD q 0 = tf at hc3r
          have HVA := Lib.hid hva; have HFA := Lib.hid hfa
          clear hva hfa hc3 hc4 hA5 hc4e hxn hqn
          by_cases c3 : ta ≤ tf
          · go_wp2_with fail
            go_quiet ((go_at_call 15; exact Calls.quiet_of_same ((HLEQ.out _ (Below_drewN wr _)).mono fun _ _ ⟨a, b⟩ => ⟨a, b.symm⟩)))
            rename_i nq
            generalize hwz : wr.drewN nq = wz
            have HZ : Hid (Below wr.heap.size wr wz) := by rw [← hwz]; exact Below_drewN wr nq
            clear hwz
            go_wp2_with fail
            refine (HAL.out _).mono ?_
            rintro e w9 ⟨rfl, hb9⟩
            have HB9 := Lib.hid (HWR.out.trans ((HZ.out.trans (hb9.mono HZ.out.size)).mono HWR.out.size)); clear hb9
            go_wp2
            go_ret
            exact ⟨rfl, HB9.out⟩
          · have hlate : lateV fs v := ⟨by rw [HORV.out]; exact K1.out, HLB.out, fun i hi => by
              rw [HORV.out] at hi
              obtain rfl : q = i := by omega
              rw [HVA.out, HFA.out]; omega⟩
            have HG := Lib.hid (HGD.out hlate); clear hlate
            go_wp2_with fail
            go_quiet ((go_at_call 15; exact Calls.quiet_of_same ((HLEQ.out _ (Below_drewN wr _)).mono fun _ _ ⟨a, b⟩ => ⟨a, b.symm⟩)))
            rename_i nq
            generalize hwz : wr.drewN nq = wz
            have HZ : Hid (Below wr.heap.size wr wz) := by rw [← hwz]; exact Below_drewN wr nq
            clear hwz
            go_wp2
            go_roundw
            case rel => exact ⟨j + 1, by omega, by go_num, HG, HBR.out.trans (HZ.out.mono (by have := HBRR.out.size; have := HBB.out; omega))⟩
            case measure => simp [intOf]; omega
    · obtain rfl : j = ln := by omega
      have hltz : ¬ (j : Int) < (j : Int) := by omega
      have ht : ls.take j = ls := List.take_of_length_le (by rw [HLN.out]; exact Nat.le_refl _)
      rw [ht] at HLT
      have HSM := Lib.hid (HSAME.out HLT.out)
      have HWR := Lib.hid hwr; clear hwr hBr ht
      have hdr := HD.out wr (HAV.out.1.below HWR.out) (HFF.out.below HWR.out)
      have HDR := Lib.hid hdr; clear hdr
      go_wp2_with fail
      refine HDR.out.mono ?_
      rintro e w3 ⟨rm, rfl, hb3, hrm⟩
      have HB3 := Lib.hid (HWR.out.trans (hb3.mono HWR.out.size))
      obtain ⟨fm, hsm, hmm⟩ := hrm.src
      obtain ⟨fv2, hsv, hmv⟩ := (HAV.out.below HB3.out).src
      obtain ⟨fl2, hsl, hml⟩ := (HAL2.out.below HB3.out).src
      obtain ⟨Ad, cd, rfl⟩ := hsm.form
      rw [HN.out] at hsv
      rw [HLN.out] at hsl
      generalize hdn : ds.length = dn at *
      have HDN := Lib.hid hdn; clear hdn
      have HSV := Lib.hid hsv; have HSL := Lib.hid hsl; have HSD := Lib.hid hsm; have HMV := Lib.hid hmv; have HML := Lib.hid hml; have HMD := Lib.hid hmm
      clear hsm hsv hsl hmm hmv hml hrm hb3
      have m1 : 0 + n ≤ maxLen := by unfold maxLen; omega
      have m2' : 0 + n + j ≤ maxLen := by unfold maxLen; omega
      have m3 : 0 + dn ≤ maxLen := by unfold maxLen; omega
      have m4 : 0 + dn + j ≤ maxLen := by unfold maxLen; omega
      have n1 : (0 + n) * 96 ≤ 140737488355328 := by omega
      have n2 : (0 + n + j) * 96 ≤ 140737488355328 := by omega
      have n3 : (0 + dn) * 96 ≤ 140737488355328 := by omega
      have n4 : (0 + dn + j) * 96 ≤ 140737488355328 := by omega
      have M1 := Lib.hid m1; have M2 := Lib.hid m2'; have M3 := Lib.hid m3; have M4 := Lib.hid m4; have N1 := Lib.hid n1; have N2 := Lib.hid n2; have N3 := Lib.hid n3; have N4 := Lib.hid n4
      clear m1 m2' m3 m4 n1 n2 n3 n4
      go_wp2_with (first
        | (at_builtin; refine wpList_append_src rfl (.const (.slice none 0 0)) (.tmp 107) 22 rfl w3.heap.size 35 i0 _ 8 96 Try.underlying22 hi hz0 hz1 hz2 rfl (by decide) _ _ _ rfl (World.ownsRow_nil _ _ _ _) _ n _ rfl HSV.out (rowCells_len _ _) (rowCells_one _ _) M1.out N1.out (Nat.le_refl _) ?_; intro v4 w4 hown4 hgrow4; have HB34 := Lib.hid (show Below w3.heap.size w3 w4 from (Below.refl _ _).grown hgrow4 (Nat.le_refl _) (fun j hj => by cases hj)); have HO4 := Lib.hid hown4; have HLT4 := Lib.hid hown4.lt; clear hown4 hgrow4)
        | (at_builtin; refine wpList_append_src rfl (.tmp 108) (.tmp 109) 22 rfl w3.heap.size 35 i0 _ 8 96 Try.underlying22 hi hz0 hz1 hz2 rfl (by decide) _ _ _ rfl HO4.out _ j _ rfl (HSL.out.below HB34.out) (rowCells_len _ _) (rowCells_one _ _) M2.out N2.out HB34.out.size ?_; intro v5 w5 hown5 hgrow5; have HB35 := Lib.hid (show Below w3.heap.size w3 w5 from HB34.out.grown hgrow5 HB34.out.size (fun j hj => (HLT4.out j hj).1)); have HO5 := Lib.hid hown5; clear hown5 hgrow5)
        | (at_builtin; refine wpList_append_src rfl (.const (.slice none 0 0)) (.tmp 111) 22 rfl w5.heap.size 35 i0 _ 8 96 Try.underlying22 hi hz0 hz1 hz2 rfl (by decide) _ _ _ rfl (World.ownsRow_nil _ _ _ _) _ dn _ rfl (HSD.out.below HB35.out) (rowCells_len _ _) (rowCells_one _ _) M3.out N3.out (Nat.le_refl _) ?_; intro v6 w6 hown6 hgrow6; have HB56 := Lib.hid (show Below w5.heap.size w5 w6 from (Below.refl _ _).grown hgrow6 (Nat.le_refl _) (fun j hj => by cases hj)); have HO6 := Lib.hid hown6; have HLT6 := Lib.hid hown6.lt; clear hown6 hgrow6)
        | (at_builtin; go_must (refine wpList_append_src rfl (.tmp 112) (.tmp 113) 22 rfl w5.heap.size 35 i0 _ 8 96 Try.underlying22 hi hz0 hz1 hz2 rfl (by decide) _ _ _ rfl HO6.out _ j _ rfl (HSL.out.below (HB35.out.trans (HB56.out.mono HB35.out.size))) (rowCells_len _ _) (rowCells_one _ _) M4.out N4.out HB56.out.size ?_); intro v7 w7 hown7 hgrow7; have HB57 := Lib.hid (show Below w5.heap.size w5 w7 from HB56.out.grown hgrow7 HB56.out.size (fun j hj => (HLT6.out j hj).1)); have HO7 := Lib.hid hown7; clear hown7 hgrow7))
      have hlu : (vs ++ ls).length = n + j := by rw [List.length_append, HN.out, HLN.out]
      have hld : (ds ++ ls).length = dn + j := by rw [List.length_append, HDN.out, HLN.out]
      have hra5 : ReadsV w5 v5 (vs ++ ls) := by
        have how := HO5.out
        rw [Nat.zero_add, List.nil_append, ← HN.out, ← HLN.out] at how
        exact ListB.self (B := w3.heap.size) (ListB.cat (fun q v hq => (HMV.out q v hq).below HB35.out) (fun q v hq => (HML.out q v hq).below HB35.out) how)
      have hrb7 : ReadsV w7 v7 (ds ++ ls) := by
        have how := HO7.out
        rw [Nat.zero_add, List.nil_append, ← HDN.out, ← HLN.out] at how
        exact ListB.self (B := w5.heap.size) (ListB.cat (fun q v hq => ((HMD.out q v hq).below HB35.out).below HB57.out) (fun q v hq => ((HML.out q v hq).below HB35.out).below HB57.out) how)
      have hHW : Below w.heap.size w w7 := HB3.out.trans ((HB35.out.trans (HB57.out.mono HB35.out.size)).mono HB3.out.size)
      have HW7 := Lib.hid hHW
      have ra7 := Lib.hid (hra5.1.below HB57.out); have rb7 := Lib.hid hrb7.1
      clear hHW HO5 HO7 HMV HML HMD HSV HSL HSD HO4 HO6 HLT4 HLT6 HB34 HB35 HB56 HB57 HB3 M1 M2 M3 M4 N1 N2 N3 N4 hra5 hrb7
      generalize vs ++ ls = us at *
      generalize ds ++ ls = ud at *
      have HLU := Lib.hid hlu; clear hlu
      have HLD := Lib.hid hld; clear hld
      obtain ⟨A5, c5, _, rfl, -⟩ := ra7.out
      obtain ⟨A7, c7, _, rfl, -⟩ := rb7.out
      go_wp2_with fail
      refine (HJ.out _ HW7.out).mono ?_
      rintro e w8 ⟨v0, rfl, hb8, hv0, _⟩
      have HB8 := Lib.hid (HW7.out.trans (hb8.mono HW7.out.size)); have HV0 := Lib.hid hv0; have RA8 := Lib.hid (ra7.out.below hb8); have RB8 := Lib.hid (rb7.out.below hb8)
      clear hb8 hv0 ra7 rb7
      obtain ⟨A5', c5', f5, hfe, _, u2, u3, u4⟩ := RA8.out
      cases hfe
      unfold maxLen at u2
      have T3 := Lib.hid u3; have T4 := Lib.hid u4
      clear u3 u4
      generalize hun : us.length = un at *
      have HUN := Lib.hid hun; clear hun
      generalize hdun : ud.length = udn at *
      obtain ⟨B8, hB8⟩ : ∃ B, B = w8.heap.size := ⟨_, rfl⟩
      have HBB8 := Lib.hid hB8; clear hB8
      go_wp2
      go_loopw [17] (fun vi wr => ∃ i : Nat, i ≤ un ∧ vi = .int .i64 i ∧ Hid (∀ a b, a < b → b < i → ordV (us.getD a default) (us.getD b default) ≠ 0) ∧ Hid (Below B8 w8 wr)) (fun vi _ => un - (intOf vi).toNat)
      case atStart => exact ⟨0, Nat.zero_le _, rfl, (fun a b _ hb => by omega), Below.refl _ _⟩
      case round =>
        obtain ⟨i, hi0, rfl, HI, HBR2⟩ := hrel
        by_cases hlt : i < un
        · have hltz : (i : Int) < (un : Int) := by omega
          obtain ⟨b, o, rfl, hci⟩ := T3.out i hlt
          have hvi : us[i]? = some (us.getD i default) := by rw [getD_lt _ _ (by rw [HUN.out]; exact hlt)]; exact List.getElem?_eq_getElem _
          have hmi := T4.out i _ hvi
          have HATI := Lib.hid (HATA.out _ (List.mem_of_getElem? hvi))
          have HMI := Lib.hid hmi; have HCI := Lib.hid hci
          clear hci hmi hvi
          go_wp2
          go_loopw [18] (fun vj wr => ∃ q : Nat, q ≤ i ∧ vj = .int .i64 q ∧ Hid (∀ a, a < q → ordV (us.getD a default) (us.getD i default) ≠ 0) ∧ Hid (Below B8 w8 wr)) (fun vj _ => i - (intOf vj).toNat)
          case atStart => exact ⟨0, Nat.zero_le _, rfl, (fun a ha => by omega), HBR2⟩
          case round =>
            clear HBR2
            obtain ⟨q, hq0, rfl, HJI, HBR2⟩ := hrel
            by_cases hlt2 : q < i
            · have hltz2 : (q : Int) < (i : Int) := by omega
              have hBr : Below w8.heap.size w8 wr := by rw [← HBB8.out]; exact HBR2.out
              have hwr : Below w.heap.size w wr := HB8.out.trans (hBr.mono HB8.out.size)
              obtain ⟨b', o', hA', hcj⟩ := T3.out q (by omega)
              cases hA'
              have hvj : us[q]? = some (us.getD q default) := by rw [getD_lt _ _ (by rw [HUN.out]; omega)]; exact List.getElem?_eq_getElem _
              have hmj := T4.out q _ hvj
              have hmi := HMI.out
              have hatj := HATA.out _ (List.mem_of_getElem? hvj)
              have hati := HATI.out
              have hbw : b < w8.heap.size := World.block_lt_of_cell? w8 _ (HCI.out 0 _ rfl)
              have hx := elem_facts (w := wr) (x := f5 i) (fun q u hu => (hBr.cell (p := ⟨b, o + i * 8 + q, none⟩) hbw).trans (HCI.out q u hu))
              have hy := elem_facts (w := wr) (x := f5 q) (fun q' u hu => (hBr.cell (p := ⟨b, o + q * 8 + q', none⟩) hbw).trans (hcj q' u hu))
              have hnext : ordV (us.getD q default) (us.getD i default) ≠ 0 → ∀ a, a < q + 1 → ordV (us.getD a default) (us.getD i default) ≠ 0 := fun h a ha => by
                by_cases e : a = q
                · rw [e]; exact h
                · exact HJI.out a (by omega)
              have hoi : (us.getD i default).origin = (f5 i).origin := by rw [hmi.2]; rfl
              have hoj : (us.getD q default).origin = (f5 q).origin := by rw [hmj.2]; rfl
              have hti : (us.getD i default).tx = (f5 i).tx := by rw [hmi.2]; rfl
              have htj : (us.getD q default).tx = (f5 q).tx := by rw [hmj.2]; rfl
              have hne : ((f5 i).origin ≠ (f5 q).origin ∨ (f5 i).tx ≠ (f5 q).tx) → ordV (us.getD q default) (us.getD i default) ≠ 0 := fun h e => by
                obtain ⟨e1, e2, e3⟩ := ordV_same_stamp e
                rcases h with h | h
                · exact h (by rw [← hoi, ← hoj]; exact e1.symm)
                · exact h (by rw [← hti, ← htj]; exact e2.symm)
              have hni : (f5 i).n = fn := by
                obtain ⟨Ai, ci, he, _⟩ := hmi.1
                simp only [VerV.slice, Value.slice.injEq] at he
                rw [he.2.1, hati]
              have hnj : (f5 q).n = fn := by
                obtain ⟨Aj, cj, he, _⟩ := hmj.1
                simp only [VerV.slice, Value.slice.injEq] at he
                rw [he.2.1, hatj]
              generalize us.getD i default = vi at *
              generalize us.getD q default = vj at *
              generalize hfi : f5 i = x at *
              generalize hfj : f5 q = y at *
              obtain ⟨_, x1, x2, x3, _⟩ := hx
              obtain ⟨_, y1, y2, y3, _⟩ := hy
              have HNE := Lib.hid hne; have HNX := Lib.hid hnext; have HBRR := Lib.hid hBr; have HWR2 := Lib.hid hwr
              clear hne hnext hoi hoj hti htj hmi hmj hvj hcj hfi hfj hBr hwr hati hatj
              have hbr : b < wr.heap.size := by have := HBRR.out.size; omega
              have e1 : (0 : Int) ≤ (q : Int) := by omega
              have e2 : (q : Int) < (un : Int) := by omega
              have e3 : (0 : Int) ≤ (i : Int) := by omega
              obtain ⟨xk, xA, xn, xc, xo, xt, xkind, xnum, xint, xtext⟩ := x
              obtain ⟨yk, yA, yn, yc, yo, yt, ykind, ynum, yint, ytext⟩ := y
              dsimp only at hni hnj HNE
              subst hni; subst hnj
              by_cases c1 : xo = yo
              · have c1b : (xo == yo) = true := by simpa using c1
                have K1 := Lib.hid c1; clear c1
                by_cases c2 : xt = yt
                · have c2b : (xt == yt) = true := by simpa using c2
                  have c3b : ((yn : Int) == (yn : Int)) = true := by simp
                  have K2 := Lib.hid c2; clear c2
                  go_wp2_with fail
                  go_quiet (fail)
                  rename_i nq
                  have hb2 : Below wr.heap.size wr (wr.drewN nq) := Below_drewN wr nq
                  have HB2 := Lib.hid (HWR2.out.trans (hb2.mono HWR2.out.size)); clear hb2
                  go_wp2_with fail
                  refine (HAL.out _).mono ?_
                  rintro e w9 ⟨rfl, hb9⟩
                  have HB9 := Lib.hid (HB2.out.trans (hb9.mono HB2.out.size)); clear hb9
                  go_wp2
                  go_ret
                  exact ⟨rfl, HB9.out⟩
                · have c2b : (xt == yt) = false := by simpa using c2
                  have hnx := HNX.out (HNE.out (.inr c2))
                  have HNX2 := Lib.hid hnx; clear c2 hnx
                  go_wp2_with fail
                  go_quiet (fail)
                  rename_i nq
                  have hb2 : Below wr.heap.size wr (wr.drewN nq) := Below_drewN wr nq
                  have HB2 := Lib.hid (HBR2.out.trans (hb2.mono (by have := HBRR.out.size; have := HBB8.out; omega))); clear hb2
                  go_wp2
                  go_roundw
                  case rel => exact ⟨q + 1, by omega, by go_num, HNX2, HB2⟩
                  case measure => simp [intOf]; omega
              · have c1b : (xo == yo) = false := by simpa using c1
                have hnx := HNX.out (HNE.out (.inl c1))
                have HNX2 := Lib.hid hnx; clear c1 hnx
                go_wp2_with fail
                go_quiet (fail)
                rename_i nq
                have hb2 : Below wr.heap.size wr (wr.drewN nq) := Below_drewN wr nq
                have HB2 := Lib.hid (HBR2.out.trans (hb2.mono (by have := HBRR.out.size; have := HBB8.out; omega))); clear hb2
                go_wp2
                go_roundw
                case rel => exact ⟨q + 1, by omega, by go_num, HNX2, HB2⟩
                case measure => simp [intOf]; omega
            · obtain rfl : q = i := by omega
              have hltz2 : ¬ (q : Int) < (q : Int) := by omega
              have hall : ∀ a b, a < b → b < q + 1 → ordV (us.getD a default) (us.getD b default) ≠ 0 := fun a b hab hb => by
                by_cases e : b = q
                · rw [e] at hab ⊢; exact HJI.out a hab
                · exact HI.out a b hab (by omega)
              have HALL := Lib.hid hall; clear hall
              go_wp2
              go_roundw
              case rel => exact ⟨q + 1, by omega, by go_num, HALL, HBR2⟩
              case measure => simp [intOf]; omega
        · obtain rfl : i = un := by omega
          have hltz : ¬ (i : Int) < (i : Int) := by omega
          have hBr : Below w8.heap.size w8 wr := by rw [← HBB8.out]; exact HBR2.out
          have hwr : Below w.heap.size w wr := HB8.out.trans (hBr.mono HB8.out.size)
          have hdist : DistV us := List.pairwise_iff_getElem.2 fun a b ha hb hab => by
            have h := HI.out a b hab (by rw [← HUN.out]; exact hb)
            rw [getD_lt _ _ ha, getD_lt _ _ hb] at h
            exact h
          have hsm := HSM.out hdist
          have hs1 := hsm (joinL fs ms) HLE0.out
          have HSMD := Lib.hid hsm; have HS1 := Lib.hid hs1
          have RAR := Lib.hid (RA8.out.below hBr); have RBR := Lib.hid (RB8.out.below hBr); have VR := Lib.hid (HV0.out.below hBr)
          have HWR := Lib.hid hwr
          clear hdist hsm hs1 hBr hwr hltz RA8 RB8 HV0 hlt HSM
          obtain ⟨Br, hBr⟩ : ∃ B, B = wr.heap.size := ⟨_, rfl⟩
          have HBBR := Lib.hid hBr; clear hBr
          obtain ⟨wb, rfl⟩ : ∃ wb : World, wb = wr := ⟨_, rfl⟩
          go_wp2
          go_loopw [19] (fun vi wr => ∃ q : Nat, q ≤ j ∧ vi = .int .i64 q ∧ Hid (Below Br wb wr)) (fun vi _ => j - (intOf vi).toNat)
          case atStart => exact ⟨0, Nat.zero_le _, rfl, Below.refl _ _⟩
          case round =>
            obtain ⟨q, hq, rfl, HBQ⟩ := hrel
            have hBr : Below wb.heap.size wb wr := by rw [← HBBR.out]; exact HBQ.out
            have hwr : Below w.heap.size w wr := HWR.out.trans (hBr.mono HWR.out.size)
            by_cases hlt : q < j
            · have hltz : (q : Int) < (j : Int) := by omega
              have hvk : ls[q]? = some (ls.getD q default) := by rw [getD_lt _ _ (by rw [HLN.out]; exact hlt)]; exact List.getElem?_eq_getElem _
              obtain ⟨b, o, rfl, hcells⟩ := (Q3.out.below hwr) q hlt
              have hx := elem_facts hcells
              have hmean := (Q4.out q _ hvk).below hwr
              have hat := HATL.out _ (List.mem_of_getElem? hvk)
              generalize ls.getD q default = v at hvk hmean hat
              generalize f q = x at hx hmean
              have hbr : b < wr.heap.size := World.block_lt_of_cell? wr _ hx.1
              have hjf := fun W (hW : Below wr.heap.size wr W) => HJF.out W x.slice v.at_ (hwr.trans (hW.mono hwr.size)) (hmean.1.below hW)
              have hsame := HSMD.out (joinL fs v.at_) (leqL_joinL (by rw [HFN.out]; exact hat.symm))
              simp only [VerV.slice] at hjf
              have HBRR := Lib.hid hBr; have HWRR := Lib.hid hwr
              obtain ⟨_, x1, _⟩ := hx
              have HS := Lib.hid (keep_drew (N := wr.heap.size) (W := wr) (Nat.le_refl _))
              have hJ : ∀ W, Hid (Below wr.heap.size wr W) → Calls Try.prog 12 #[.slice Af fn cf, .slice x.A x.n x.c] W (RetV (JoinP W fs v.at_)) := fun W hW => hjf W hW.out
              have hRA : ∀ W vt ts, Hid (Below wr.heap.size wr W) → VecR W vt ts → Calls Try.prog 14 #[.string k, .slice A5 i c5, vt] W fun e w' => e = .returned (.agg (encW (readD k us ts)).toArray) ∧ Below W.heap.size W w' := fun W vt ts hW ht =>
                HRA.out _ vt ts W (RAR.out.below (HBRR.out.trans (hW.out.mono HBRR.out.size))) ht
              have hRB : ∀ W vt ts, Hid (Below wr.heap.size wr W) → VecR W vt ts → Calls Try.prog 14 #[.string k, .slice A7 udn c7, vt] W fun e w' => e = .returned (.agg (encW (readD k ud ts)).toArray) ∧ Below W.heap.size W w' := fun W vt ts hW ht =>
                HRB.out _ vt ts W (RBR.out.below (HBRR.out.trans (hW.out.mono HBRR.out.size))) ht
              have HJ9 := Lib.hid hJ; have HRA9 := Lib.hid hRA; have HRB9 := Lib.hid hRB
              clear hJ hRA hRB hcells hmean hjf hvk hat hBr hwr
              go_wp2_with fail
              go_region_held3 (fun W' => (∀ b o, b < wr.heap.size → W'.cell? ⟨b, o, none⟩ = wr.cell? ⟨b, o, none⟩) ∧ Hid (Below wr.heap.size wr W') ∧ wr.heap.size ≤ W'.heap.size)
                (first
                  | (exact HS.out)
                  | (refine keep_step (by assumption) ?_; first | assumption | exact Below.refl _ _ | exact (Below.refl _ _).alloc (Nat.le_refl _) _))
                (first
                  | (go_at_call 12; refine (HJ9.out _ (by go_split_ands; assumption)).mono ?_; rintro e w6 ⟨v6, rfl, hb6, hv6, _⟩)
                  | (go_at_call_of 14 (Value.slice A7 udn c7); refine (HRB9.out _ _ _ (by go_split_ands; assumption) (by assumption)).mono ?_; rintro e w7 ⟨rfl, hb7⟩)
                  | (go_at_call 14; refine (HRA9.out _ _ _ (by go_split_ands; assumption) (by assumption)).mono ?_; rintro e w7 ⟨rfl, hb7⟩)
                  | (go_at_call 13; refine (sameValue_any _ _ (NA.out _) (NB.out _) _).mono ?_; rintro e w9 ⟨rfl, hb9⟩))
              have hb58 : Below wr.heap.size wr w9 := Hid.out (by go_split_ands; assumption)
              have HB58 := Lib.hid (HBQ.out.trans (hb58.mono (by have := HBRR.out.size; rw [HBBR.out]; exact this)))
              clear hb58
              go_wp2
              go_roundw
              case rel => exact ⟨q + 1, by omega, by go_num, HB58⟩
              case measure => simp [intOf]; omega
            · obtain rfl : q = j := by omega
              have hltz : ¬ (q : Int) < (q : Int) := by omega
              have HR3 := Lib.hid hBr; have HW3 := Lib.hid hwr
              clear hBr hwr
              go_wp2_with fail
              refine (HAL.out _).mono ?_
              rintro e wz ⟨rfl, hbz⟩
              have HC8 := Lib.hid (HR3.out.trans (hbz.mono HR3.out.size)); clear hbz
              go_wp2_with fail
              refine (HRA.out _ _ _ _ (RAR.out.below HC8.out) (VR.out.below HC8.out)).mono ?_
              rintro e w9 ⟨rfl, hb9⟩
              have HC9 := Lib.hid (HC8.out.trans (hb9.mono HC8.out.size)); clear hb9
              go_wp2_with fail
              refine (HRB.out _ _ _ _ (RBR.out.below HC9.out) (VR.out.below HC9.out)).mono ?_
              rintro e w10 ⟨rfl, hb10⟩
              have HC10 := Lib.hid (HC9.out.trans (hb10.mono HC9.out.size)); clear hb10
              go_wp2_with fail
              refine (sameValue_any _ _ (NA.out _) (NB.out _) _).mono ?_
              rintro e w11 ⟨rfl, hb11⟩
              have HC11 := Lib.hid (HC10.out.trans (hb11.mono HC10.out.size)); clear hb11
              rw [HS1.out]
              go_wp2
              go_ret
              exact ⟨rfl, HWR.out.trans (HC11.out.mono HWR.out.size)⟩

theorem later_any (k : ByteArray) (va vl vf vm : Value) (vs ls : List VerD) (fs ms : List Int) (w : World) (hv : VersR w va vs) (hpv : Proper va) (hvl : VersR w vl ls) (hpl : Proper vl) (hf : VecR w vf fs) (hm : VecR w vm ms) (hx : ∀ v ∈ vs, numD v) (hxl : ∀ v ∈ ls, numD v) :
    Calls Try.prog 4 #[.string k, va, vl, vf, vm] w fun e w' => e = .returned (.bool true) ∧ Below w.heap.size w w' := by
  by_cases hg : lightD vs = true ∧ lightD ls = true ∧ vs.length + ls.length ≤ 60 ∧ validL fs = true ∧ ms.length = fs.length ∧ vs.all (rightV k fs.length) = true ∧ ls.all (rightV k fs.length) = true
  · exact later_on k va vl vf vm vs ls fs ms w hv hpv hvl hpl hf hm hx hxl hg.1 hg.2.1 hg.2.2.1 hg.2.2.2.1 hg.2.2.2.2.1 hg.2.2.2.2.2.1 hg.2.2.2.2.2.2
  · exact later_off k va vl vf vm vs ls fs ms w hv hvl hf hm hx hxl hg

end Go.Proofs.Ythicjpkomigacaa
