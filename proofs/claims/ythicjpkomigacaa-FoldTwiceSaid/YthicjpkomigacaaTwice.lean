/- FoldTwice: the walk. -/
import Derived.Test.YthicjpkomigacaaLawP
import Derived.Test.YthicjpkomigacaaJoin
namespace Go.Proofs.Ythicjpkomigacaa
open Go.RowKit

set_option maxRecDepth 100000 in
set_option maxHeartbeats 6400000 in
theorem twice_off (k : ByteArray) (va vf vm : Value) (vs : List VerD) (fs ms : List Int) (w : World) (hv : VersR w va vs) (hf : VecR w vf fs) (hm : VecR w vm ms) (hx : ∀ v ∈ vs, numD v)
    (hg : ¬ (lightD vs = true ∧ validL fs = true ∧ validL ms = true ∧ ms.length = fs.length ∧ vs.all (rightV k fs.length) = true)) :
    Calls Try.prog 5 #[.string k, va, vf, vm] w fun e w' => e = .returned (.bool true) ∧ Below w.heap.size w w' := by
  have hl := fun W (hW : Below w.heap.size w W) => light_any va vs W (hv.below hW)
  have hva := fun W (hW : Below w.heap.size w W) => valid_any vf fs W (hf.below hW)
  have hvm := fun W (hW : Below w.heap.size w W) => valid_any vm ms W (hm.below hW)
  have hr := fun W (hW : Below w.heap.size w W) => rightl_any k va vs fs.length W (hv.below hW) hx
  have hal := alive_any
  obtain ⟨A, c, rfl, _, h2, _⟩ := hf
  obtain ⟨Am, cm, rfl, _, h4, _⟩ := hm
  unfold maxLen at h2 h4
  generalize lightD vs = bl at hl hg
  generalize validL fs = bv at hva hg
  generalize validL ms = bm at hvm hg
  generalize vs.all (rightV k fs.length) = br at hr hg
  have HL := Lib.hid hl; have HV := Lib.hid hva; have HM := Lib.hid hvm; have HR := Lib.hid hr; have HAL := Lib.hid hal
  clear hl hva hvm hr hal hv hx
  generalize ms.length = mn at *
  generalize fs.length = fn at *
  cases bl with
  | false =>
    clear hg
    go_enter Try.func5, Try.ntmps5
    go_wp2_with fail
    refine (HL.out _ (Below.refl _ _)).mono ?_
    rintro e w' ⟨rfl, rfl⟩
    go_wp2_with fail
    refine (HAL.out _).mono ?_
    rintro e wz ⟨rfl, hbz⟩
    have HBZ := Lib.hid hbz; clear hbz
    go_wp2
    go_ret
    exact ⟨rfl, HBZ.out⟩
  | true =>
    cases bv with
    | false =>
      clear hg
      go_enter Try.func5, Try.ntmps5
      go_wp2_with fail
      refine (HL.out _ (Below.refl _ _)).mono ?_
      rintro e w' ⟨rfl, rfl⟩
      go_wp2_with fail
      refine (HV.out _ (Below.refl _ _)).mono ?_
      rintro e w' ⟨rfl, rfl⟩
      go_wp2_with fail
      refine (HAL.out _).mono ?_
      rintro e wz ⟨rfl, hbz⟩
      have HBZ := Lib.hid hbz; clear hbz
      go_wp2
      go_ret
      exact ⟨rfl, HBZ.out⟩
    | true =>
      cases bm with
      | false =>
        clear hg
        go_enter Try.func5, Try.ntmps5
        go_wp2_with fail
        refine (HL.out _ (Below.refl _ _)).mono ?_
        rintro e w' ⟨rfl, rfl⟩
        go_wp2_with fail
        refine (HV.out _ (Below.refl _ _)).mono ?_
        rintro e w' ⟨rfl, rfl⟩
        go_wp2_with fail
        refine (HM.out _ (Below.refl _ _)).mono ?_
        rintro e w' ⟨rfl, rfl⟩
        go_wp2_with fail
        refine (HAL.out _).mono ?_
        rintro e wz ⟨rfl, hbz⟩
        have HBZ := Lib.hid hbz; clear hbz
        go_wp2
        go_ret
        exact ⟨rfl, HBZ.out⟩
      | true =>
        by_cases hn : mn = fn
        · have hnb : ((mn : Int) != (fn : Int)) = false := by rw [bne_eq_false_iff_eq]; omega
          have HN := Lib.hid hn; clear hn
          cases br with
          | false =>
            clear hg
            go_enter Try.func5, Try.ntmps5
            go_wp2_with fail
            refine (HL.out _ (Below.refl _ _)).mono ?_
            rintro e w' ⟨rfl, rfl⟩
            go_wp2_with fail
            refine (HV.out _ (Below.refl _ _)).mono ?_
            rintro e w' ⟨rfl, rfl⟩
            go_wp2_with fail
            refine (HM.out _ (Below.refl _ _)).mono ?_
            rintro e w' ⟨rfl, rfl⟩
            go_wp2_with fail
            refine (HR.out _ (Below.refl _ _)).mono ?_
            rintro e w1 ⟨rfl, hb1⟩
            have HB1 := Lib.hid hb1; clear hb1
            go_wp2_with fail
            refine (HAL.out _).mono ?_
            rintro e wz ⟨rfl, hbz⟩
            have HBZ := Lib.hid (HB1.out.trans (hbz.mono HB1.out.size)); clear hbz
            go_wp2
            go_ret
            exact ⟨rfl, HBZ.out⟩
          | true =>
            exact absurd ⟨rfl, rfl, rfl, HN.out, rfl⟩ hg
        · have hnb : ((mn : Int) != (fn : Int)) = true := by rw [bne_iff_ne]; omega
          clear hg hn
          go_enter Try.func5, Try.ntmps5
          go_wp2_with fail
          refine (HL.out _ (Below.refl _ _)).mono ?_
          rintro e w' ⟨rfl, rfl⟩
          go_wp2_with fail
          refine (HV.out _ (Below.refl _ _)).mono ?_
          rintro e w' ⟨rfl, rfl⟩
          go_wp2_with fail
          refine (HM.out _ (Below.refl _ _)).mono ?_
          rintro e w' ⟨rfl, rfl⟩
          go_wp2_with fail
          refine (HAL.out _).mono ?_
          rintro e wz ⟨rfl, hbz⟩
          have HBZ := Lib.hid hbz; clear hbz
          go_wp2
          go_ret
          exact ⟨rfl, HBZ.out⟩

set_option maxRecDepth 100000 in
set_option maxHeartbeats 6400000 in
theorem twice_on (k : ByteArray) (va vf vm : Value) (vs : List VerD) (fs ms : List Int) (w : World) (hv : VersR w va vs) (hf : VecR w vf fs) (hm : VecR w vm ms) (hx : ∀ v ∈ vs, numD v)
    (hl1 : lightD vs = true) (hv1 : validL fs = true) (hm1 : validL ms = true) (hn1 : ms.length = fs.length) (hrr : vs.all (rightV k fs.length) = true) :
    Calls Try.prog 5 #[.string k, va, vf, vm] w fun e w' => e = .returned (.bool true) ∧ Below w.heap.size w w' := by
  have hG := good_of hl1 hrr hx
  have hvl := validL_len hv1
  have hle0 : leqL fs (joinL fs ms) = true := leqL_joinL hn1.symm
  -- the four lists
  obtain ⟨hGm, hlm, heqm⟩ := hG.drop true
  have htw := drop_twice (k := k) (vs := vs) (fs := fs) hG.fit
  have hGm2 : GoodL k (joinL fs ms) (dropD k vs fs true) := ⟨hGm.len, hGm.fit, fun v hv => by rw [hGm.at_ v hv, joinL_length hn1.symm], hGm.num⟩
  have hG2 : GoodL k (joinL fs ms) vs := ⟨hG.len, hG.fit, fun v hv => by rw [hG.at_ v hv, joinL_length hn1.symm], hG.num⟩
  obtain ⟨hGp, hlp, heqp⟩ := hGm2.drop true
  obtain ⟨hGq, hlq, heqq⟩ := hG2.drop true
  have hsp := heqp (joinL fs ms) (leqL_refl _)
  have hsq := heqq (joinL fs ms) (leqL_refl _)
  have hsm := heqm (joinL fs ms) hle0
  have e1 : sameVD (readD k (dropD k (dropD k vs fs true) (joinL fs ms) true) (joinL fs ms)) (readD k (dropD k vs (joinL fs ms) true) (joinL fs ms)) = true :=
    (sameVD_iff _ _).2 ((((sameVD_iff _ _).1 hsp).symm.trans ((sameVD_iff _ _).1 hsm).symm).trans ((sameVD_iff _ _).1 hsq))
  have e2 : sameVD (readD k vs (joinL fs ms)) (readD k (dropD k (dropD k vs fs true) (joinL fs ms) true) (joinL fs ms)) = true :=
    (sameVD_iff _ _).2 (((sameVD_iff _ _).1 hsm).trans ((sameVD_iff _ _).1 hsp))
  have small : ∀ {us : List VerD} {ts : List Int}, GoodL k ts us → ts.length ≤ 8 → us.length ≤ 10000 ∧ (∀ v ∈ us, v.at_.length ≤ 1000000) ∧ ∀ v ∈ us, numD v := fun h h8 => ⟨by have := h.len; omega, fun v hv => by have := h.at_ v hv; omega, h.num⟩
  have hj8 : (joinL fs ms).length ≤ 8 := by rw [joinL_length hn1.symm]; omega
  have s0 := small hG (by omega)
  have sm := small hGm (by omega)
  have sp := small hGp hj8
  have sq := small hGq hj8
  have n0 := fun ts => readD_num (k := k) (ts := ts) hG.num
  have np := fun ts => readD_num (k := k) (ts := ts) hGp.num
  have nq := fun ts => readD_num (k := k) (ts := ts) hGq.num
  have hd1 := fun va vf W (h1 : VersR W va vs) (h2 : VecR W vf fs) => drop_any k va vf vs fs true W h1 h2 s0.1 s0.2.1 s0.2.2
  have hd2 := fun va vf W (h1 : VersR W va (dropD k vs fs true)) (h2 : VecR W vf fs) => drop_any k va vf _ fs true W h1 h2 sm.1 sm.2.1 sm.2.2
  have hd3 := fun va vf W (h1 : VersR W va (dropD k vs fs true)) (h2 : VecR W vf (joinL fs ms)) => drop_any k va vf _ (joinL fs ms) true W h1 h2 sm.1 sm.2.1 sm.2.2
  have hd4 := fun va vf W (h1 : VersR W va vs) (h2 : VecR W vf (joinL fs ms)) => drop_any k va vf _ (joinL fs ms) true W h1 h2 s0.1 s0.2.1 s0.2.2
  have hr1 := fun va vt W (h1 : VersR W va vs) (h2 : VecR W vt (joinL fs ms)) => read_any k va vt vs (joinL fs ms) W h1 h2 (by have := s0.1; omega) s0.2.1 s0.2.2
  have hr2 := fun va vt W (h1 : VersR W va (dropD k (dropD k vs fs true) (joinL fs ms) true)) (h2 : VecR W vt (joinL fs ms)) => read_any k va vt _ (joinL fs ms) W h1 h2 (by have := sp.1; omega) sp.2.1 sp.2.2
  have hr3 := fun va vt W (h1 : VersR W va (dropD k vs (joinL fs ms) true)) (h2 : VecR W vt (joinL fs ms)) => read_any k va vt _ (joinL fs ms) W h1 h2 (by have := sq.1; omega) sq.2.1 sq.2.2
  unfold DropP at hd1 hd2 hd3 hd4
  have hjoin := fun W (hW : Below w.heap.size w W) => join_any vf vm fs ms W (hf.below hW) (hm.below hW) (by omega)
  have hl := light_any va vs w hv
  have hva := valid_any vf fs w hf
  have hvm := valid_any vm ms w hm
  have hr := rightl_any k va vs fs.length w hv hx
  rw [hl1] at hl; rw [hv1] at hva; rw [hm1] at hvm; rw [hrr] at hr
  have hal := alive_any
  clear hsp hsq hsm heqm heqp heqq hGm2 hG2 hGp hGq hGm small hlq s0 sm sp sq
  generalize hhs : joinL fs ms = hs at *
  generalize dropD k vs fs true = dm at *
  generalize dropD k dm hs true = dp at *
  generalize dropD k vs hs true = dq at *
  generalize dropD k dm fs true = dn at *
  have HD1 := Lib.hid hd1; have HD2 := Lib.hid hd2; have HD3 := Lib.hid hd3; have HD4 := Lib.hid hd4; have HRA := Lib.hid hr1; have HRB := Lib.hid hr2; have HRC := Lib.hid hr3
  have HJ := Lib.hid hjoin; have HL := Lib.hid hl; have HV := Lib.hid hva; have HM := Lib.hid hvm; have HR := Lib.hid hr; have HAL := Lib.hid hal
  have HTW := Lib.hid htw; have HE1 := Lib.hid e1; have HE2 := Lib.hid e2; have N0 := Lib.hid n0; have NP := Lib.hid np; have NQ := Lib.hid nq
  have HVV := Lib.hid hv; have HFF := Lib.hid hf
  clear hd1 hd2 hd3 hd4 hr1 hr2 hr3 hjoin hl hva hvm hr hal htw e1 e2 n0 np nq hx hl1 hv1 hm1 hrr hG hle0 hj8
  have HHS := Lib.hid hhs; clear hhs
  obtain ⟨A, c, f, rfl, g1, g2, _⟩ := hv
  obtain ⟨Af, cf, rfl, _, f2, _⟩ := hf
  obtain ⟨Am, cm, rfl, _, m2, _⟩ := hm
  unfold maxLen at g2 f2 m2
  have hnb : ((ms.length : Int) != (fs.length : Int)) = false := by rw [bne_eq_false_iff_eq]; omega
  clear hn1 hvl
  generalize vs.length = n at *
  generalize fs.length = fn at *
  generalize ms.length = mn at *
  generalize hdn : dm.length = mm at *
  have HDN := Lib.hid hdn; clear hdn
  generalize hpn : dp.length = pn at *
  have HPN := Lib.hid hpn; clear hpn
  go_enter Try.func5, Try.ntmps5
  go_wp2_with fail
  refine HL.out.mono ?_
  rintro e w' ⟨rfl, rfl⟩
  go_wp2_with fail
  refine HV.out.mono ?_
  rintro e w' ⟨rfl, rfl⟩
  go_wp2_with fail
  refine HM.out.mono ?_
  rintro e w' ⟨rfl, rfl⟩
  go_wp2_with fail
  refine HR.out.mono ?_
  rintro e w1 ⟨rfl, hb1⟩
  have HB1 := Lib.hid hb1; clear hb1
  go_wp2_with fail
  refine (HJ.out _ HB1.out).mono ?_
  rintro e w2 ⟨vh, rfl, hb2, hvh, _⟩
  rw [HHS.out] at hvh
  have HB2 := Lib.hid (HB1.out.trans (hb2.mono HB1.out.size)); have HVH := Lib.hid hvh; clear hb2 hvh
  go_wp2_with fail
  refine (HD1.out _ _ _ (HVV.out.below HB2.out) (HFF.out.below HB2.out)).mono ?_
  rintro e w3 ⟨rm, rfl, hb3, hrm⟩
  have HVH3 := Lib.hid (HVH.out.below hb3); have HRM := Lib.hid hrm.1; have HB3 := Lib.hid (HB2.out.trans (hb3.mono HB2.out.size))
  clear hb3 hrm HVH
  go_wp2_with fail
  refine (HD2.out _ _ _ HRM.out (HFF.out.below HB3.out)).mono ?_
  rintro e w4 ⟨rn, rfl, hb4, hrn⟩
  have HVH4 := Lib.hid (HVH3.out.below hb4); have HRM4 := Lib.hid (HRM.out.below hb4); have HB4 := Lib.hid (HB3.out.trans (hb4.mono HB3.out.size))
  obtain ⟨An, cn, _, rfl, _, n2, _⟩ := hrn.1
  unfold maxLen at n2
  rw [HTW.out]
  clear hb4 hrn HVH3 HRM
  obtain ⟨Az, cz, fz, hrmz, _, z2, _⟩ := HRM4.out
  rw [HDN.out] at hrmz
  subst hrmz
  unfold maxLen at z2
  have hmmz : ((mm : Int) == (mm : Int)) = true := by simp
  have hpmz : (pn : Int) ≤ (mm : Int) := by omega
  go_wp2_with fail
  refine (HD3.out _ _ _ HRM4.out HVH4.out).mono ?_
  rintro e w5 ⟨rp, rfl, hb5, hrp⟩
  obtain ⟨Ap, cp, fp, hrpz, _, p2, _⟩ := hrp.1
  have HRP := Lib.hid hrp.1
  rw [HPN.out] at hrpz
  subst hrpz
  unfold maxLen at p2
  have HB5 := Lib.hid (HB4.out.trans (hb5.mono HB4.out.size)); have HVH5 := Lib.hid (HVH4.out.below hb5)
  clear hb5 hrp HVH4 HRM4
  go_wp2_with fail
  refine (HD4.out _ _ _ (HVV.out.below HB5.out) HVH5.out).mono ?_
  rintro e w6 ⟨rq, rfl, hb6, hrq⟩
  have HB6 := Lib.hid (HB5.out.trans (hb6.mono HB5.out.size)); have HVH6 := Lib.hid (HVH5.out.below hb6); have HRP6 := Lib.hid (HRP.out.below hb6); have HRQ6 := Lib.hid hrq.1
  clear hb6 hrq HVH5 HRP
  go_wp2_with fail
  refine (HAL.out _).mono ?_
  rintro e w7 ⟨rfl, hb7⟩
  have HC7 := Lib.hid hb7; clear hb7
  go_wp2_with fail
  refine (HRB.out _ _ _ (HRP6.out.below HC7.out) (HVH6.out.below HC7.out)).mono ?_
  rintro e w8 ⟨rfl, hb8⟩
  have HC8 := Lib.hid (HC7.out.trans (hb8.mono HC7.out.size)); clear hb8
  go_wp2_with fail
  refine (HRC.out _ _ _ (HRQ6.out.below HC8.out) (HVH6.out.below HC8.out)).mono ?_
  rintro e w9 ⟨rfl, hb9⟩
  have HC9 := Lib.hid (HC8.out.trans (hb9.mono HC8.out.size)); clear hb9
  go_wp2_with fail
  refine (sameValue_any _ _ (NP.out _) (NQ.out _) _).mono ?_
  rintro e w10 ⟨rfl, hb10⟩
  have HC10 := Lib.hid (HC9.out.trans (hb10.mono HC9.out.size)); clear hb10
  rw [HE1.out]
  go_wp2_with fail
  refine (HRA.out _ _ _ (HVV.out.below (HB6.out.trans (HC10.out.mono HB6.out.size))) (HVH6.out.below HC10.out)).mono ?_
  rintro e w11 ⟨rfl, hb11⟩
  have HC11 := Lib.hid (HC10.out.trans (hb11.mono HC10.out.size)); clear hb11
  go_wp2_with fail
  refine (HRB.out _ _ _ (HRP6.out.below HC11.out) (HVH6.out.below HC11.out)).mono ?_
  rintro e w12 ⟨rfl, hb12⟩
  have HC12 := Lib.hid (HC11.out.trans (hb12.mono HC11.out.size)); clear hb12
  go_wp2_with fail
  refine (sameValue_any _ _ (N0.out _) (NP.out _) _).mono ?_
  rintro e w13 ⟨rfl, hb13⟩
  have HC13 := Lib.hid (HC12.out.trans (hb13.mono HC12.out.size)); clear hb13
  rw [HE2.out]
  go_wp2
  go_ret
  exact ⟨rfl, HB6.out.trans (HC13.out.mono HB6.out.size)⟩

theorem twice_any (k : ByteArray) (va vf vm : Value) (vs : List VerD) (fs ms : List Int) (w : World) (hv : VersR w va vs) (hf : VecR w vf fs) (hm : VecR w vm ms) (hx : ∀ v ∈ vs, numD v) :
    Calls Try.prog 5 #[.string k, va, vf, vm] w fun e w' => e = .returned (.bool true) ∧ Below w.heap.size w w' := by
  by_cases hg : lightD vs = true ∧ validL fs = true ∧ validL ms = true ∧ ms.length = fs.length ∧ vs.all (rightV k fs.length) = true
  · exact twice_on k va vf vm vs fs ms w hv hf hm hx hg.1 hg.2.1 hg.2.2.1 hg.2.2.2.1 hg.2.2.2.2
  · exact twice_off k va vf vm vs fs ms w hv hf hm hx hg

end Go.Proofs.Ythicjpkomigacaa
