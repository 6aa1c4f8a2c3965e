/- FoldParts: the walk. -/
import Derived.Test.YthicjpkomigacaaApp
import Derived.Test.YthicjpkomigacaaJoin
import Derived.Outline
import Derived.Deep.RegionHeld3
import Derived.Deep.QuietTactic
import Derived.BigQuiet
namespace Go.Proofs.Ythicjpkomigacaa
open Go.RowKit

set_option maxRecDepth 100000 in
set_option maxHeartbeats 6400000 in
theorem parts_off (k : ByteArray) (va vf vm : Value) (vs : List VerD) (fs ms : List Int) (kk : Int) (w : World) (hv : VersR w va vs) (hf : VecR w vf fs) (hm : VecR w vm ms) (hx : ∀ v ∈ vs, numD v)
    (hg : ¬ (lightD vs = true ∧ validL fs = true ∧ ms.length = fs.length ∧ vs.all (rightV k fs.length) = true ∧ 0 ≤ kk ∧ kk ≤ vs.length)) :
    Calls Try.prog 6 #[.string k, va, vf, vm, .int .i64 kk] w fun e w' => e = .returned (.bool true) ∧ Below w.heap.size w w' := by
  have hl := fun W (hW : Below w.heap.size w W) => light_any va vs W (hv.below hW)
  have hva := fun W (hW : Below w.heap.size w W) => valid_any vf fs W (hf.below hW)
  have hr := fun W (hW : Below w.heap.size w W) => rightl_any k va vs fs.length W (hv.below hW) hx
  have hal := alive_any
  obtain ⟨Av, cv, _, rfl, _, h6, _⟩ := hv
  obtain ⟨A, c, rfl, _, h2, _⟩ := hf
  obtain ⟨Am, cm, rfl, _, h4, _⟩ := hm
  unfold maxLen at h2 h4 h6
  generalize lightD vs = bl at hl hg
  generalize validL fs = bv at hva hg
  generalize vs.all (rightV k fs.length) = br at hr hg
  have HL := Lib.hid hl; have HV := Lib.hid hva; have HR := Lib.hid hr; have HAL := Lib.hid hal
  clear hl hva hr hal hx
  generalize ms.length = mn at *
  generalize fs.length = fn at *
  generalize vs.length = n at *
  cases bl with
  | false =>
    clear hg
    go_enter Try.func6, Try.ntmps6
    go_wp2_with fail
    refine (HL.out _ (Below.refl _ _)).mono ?_
    rintro e w' ⟨rfl, rfl⟩
    go_wp2_with fail
    refine (HAL.out _).mono ?_
    rintro e wz ⟨rfl, hbz⟩
    have HBZ := Lib.hid hbz; clear hbz
    go_wp2
    go_ret
    exact ⟨rfl, HBZ.out⟩
  | true =>
    cases bv with
    | false =>
      clear hg
      go_enter Try.func6, Try.ntmps6
      go_wp2_with fail
      refine (HL.out _ (Below.refl _ _)).mono ?_
      rintro e w' ⟨rfl, rfl⟩
      go_wp2_with fail
      refine (HV.out _ (Below.refl _ _)).mono ?_
      rintro e w' ⟨rfl, rfl⟩
      go_wp2_with fail
      refine (HAL.out _).mono ?_
      rintro e wz ⟨rfl, hbz⟩
      have HBZ := Lib.hid hbz; clear hbz
      go_wp2
      go_ret
      exact ⟨rfl, HBZ.out⟩
    | true =>
      by_cases hn : mn = fn
      · have hnb : ((mn : Int) != (fn : Int)) = false := by rw [bne_eq_false_iff_eq]; omega
        have HN := Lib.hid hn; clear hn
        cases br with
        | false =>
          clear hg
          go_enter Try.func6, Try.ntmps6
          go_wp2_with fail
          refine (HL.out _ (Below.refl _ _)).mono ?_
          rintro e w' ⟨rfl, rfl⟩
          go_wp2_with fail
          refine (HV.out _ (Below.refl _ _)).mono ?_
          rintro e w' ⟨rfl, rfl⟩
          go_wp2_with fail
          refine (HR.out _ (Below.refl _ _)).mono ?_
          rintro e w1 ⟨rfl, hb1⟩
          have HB1 := Lib.hid hb1; clear hb1
          go_wp2_with fail
          refine (HAL.out _).mono ?_
          rintro e wz ⟨rfl, hbz⟩
          have HBZ := Lib.hid (HB1.out.trans (hbz.mono HB1.out.size)); clear hbz
          go_wp2
          go_ret
          exact ⟨rfl, HBZ.out⟩
        | true =>
          by_cases hk0 : 0 ≤ kk
          · have hkz : ¬ kk < 0 := by omega
            have HK0 := Lib.hid hk0; clear hk0
            by_cases hk1 : kk ≤ n
            · have hkn : ¬ (n : Int) < kk := by omega
              have HK1 := Lib.hid hk1; clear hk1
              exact absurd ⟨rfl, rfl, HN.out, rfl, HK0.out, HK1.out⟩ hg
            · have hkn : (n : Int) < kk := by omega
              clear hg hk1
              go_enter Try.func6, Try.ntmps6
              go_wp2_with fail
              refine (HL.out _ (Below.refl _ _)).mono ?_
              rintro e w' ⟨rfl, rfl⟩
              go_wp2_with fail
              refine (HV.out _ (Below.refl _ _)).mono ?_
              rintro e w' ⟨rfl, rfl⟩
              go_wp2_with fail
              refine (HR.out _ (Below.refl _ _)).mono ?_
              rintro e w1 ⟨rfl, hb1⟩
              have HB1 := Lib.hid hb1; clear hb1
              go_wp2_with fail
              refine (HAL.out _).mono ?_
              rintro e wz ⟨rfl, hbz⟩
              have HBZ := Lib.hid (HB1.out.trans (hbz.mono HB1.out.size)); clear hbz
              go_wp2
              go_ret
              exact ⟨rfl, HBZ.out⟩
          · have hkz : kk < 0 := by omega
            clear hg hk0
            go_enter Try.func6, Try.ntmps6
            go_wp2_with fail
            refine (HL.out _ (Below.refl _ _)).mono ?_
            rintro e w' ⟨rfl, rfl⟩
            go_wp2_with fail
            refine (HV.out _ (Below.refl _ _)).mono ?_
            rintro e w' ⟨rfl, rfl⟩
            go_wp2_with fail
            refine (HR.out _ (Below.refl _ _)).mono ?_
            rintro e w1 ⟨rfl, hb1⟩
            have HB1 := Lib.hid hb1; clear hb1
            go_wp2_with fail
            refine (HAL.out _).mono ?_
            rintro e wz ⟨rfl, hbz⟩
            have HBZ := Lib.hid (HB1.out.trans (hbz.mono HB1.out.size)); clear hbz
            go_wp2
            go_ret
            exact ⟨rfl, HBZ.out⟩
      · have hnb : ((mn : Int) != (fn : Int)) = true := by rw [bne_iff_ne]; omega
        clear hg hn
        go_enter Try.func6, Try.ntmps6
        go_wp2_with fail
        refine (HL.out _ (Below.refl _ _)).mono ?_
        rintro e w' ⟨rfl, rfl⟩
        go_wp2_with fail
        refine (HV.out _ (Below.refl _ _)).mono ?_
        rintro e w' ⟨rfl, rfl⟩
        go_wp2_with fail
        refine (HAL.out _).mono ?_
        rintro e wz ⟨rfl, hbz⟩
        have HBZ := Lib.hid hbz; clear hbz
        go_wp2
        go_ret
        exact ⟨rfl, HBZ.out⟩

set_option maxRecDepth 100000 in
set_option maxHeartbeats 6400000 in
theorem parts_on (k : ByteArray) (va vf vm : Value) (vs : List VerD) (fs ms : List Int) (kk : Int) (w : World) (hv : VersR w va vs) (hpr : Proper va) (hf : VecR w vf fs) (hm : VecR w vm ms) (hx : ∀ v ∈ vs, numD v)
    (hl1 : lightD vs = true) (hv1 : validL fs = true) (hn1 : ms.length = fs.length) (hrr : vs.all (rightV k fs.length) = true) (hk0 : 0 ≤ kk) (hk1 : kk ≤ vs.length) :
    Calls Try.prog 6 #[.string k, va, vf, vm, .int .i64 kk] w fun e w' => e = .returned (.bool true) ∧ Below w.heap.size w w' := by
  have hsf := run_store_float Try.prog
  obtain ⟨i0, hi, hz0, hz1, hz2⟩ := info_parts Try.info_ver
  have hG := good_of hl1 hrr hx
  have hvl := validL_len hv1
  obtain ⟨p, rfl⟩ := Int.eq_ofNat_of_zero_le hk0
  have hpn : p ≤ vs.length := by omega
  have hsmall : ∀ {us : List VerD}, GoodL k fs us → us.length ≤ 10000 ∧ (∀ v ∈ us, v.at_.length ≤ 1000000) ∧ ∀ v ∈ us, numD v := fun h => ⟨by have := h.len; omega, fun v hv => by have := h.at_ v hv; omega, h.num⟩
  have g1 : GoodL k fs (vs.take p) := ⟨by rw [List.length_take]; have := hG.len; omega, fun v hv => hG.fit v (List.mem_of_mem_take hv), fun v hv => hG.at_ v (List.mem_of_mem_take hv), fun v hv => hG.num v (List.mem_of_mem_take hv)⟩
  have g2 : GoodL k fs (vs.drop p) := ⟨by rw [List.length_drop]; have := hG.len; omega, fun v hv => hG.fit v (List.mem_of_mem_drop hv), fun v hv => hG.at_ v (List.mem_of_mem_drop hv), fun v hv => hG.num v (List.mem_of_mem_drop hv)⟩
  have d1 := (g1.drop false).1; have d2 := (g2.drop false).1
  have l1 := (g1.drop false).2.1; have l2 := (g2.drop false).2.1
  rw [List.length_take] at l1
  rw [List.length_drop] at l2
  have gm : GoodL k fs (dropD k (vs.take p) fs false ++ dropD k (vs.drop p) fs false) := ⟨by have := hG.len; simp only [List.length_append]; omega, fun v hv => by
      rcases List.mem_append.1 hv with hv | hv
      · exact d1.fit v hv
      · exact d2.fit v hv, fun v hv => by
      rcases List.mem_append.1 hv with hv | hv
      · exact d1.at_ v hv
      · exact d2.at_ v hv, fun v hv => by
      rcases List.mem_append.1 hv with hv | hv
      · exact d1.num v hv
      · exact d2.num v hv⟩
  have dn := gm.drop true
  have s0 := hsmall hG; have s1 := hsmall g1; have s2 := hsmall g2; have sm := hsmall gm; have sn := hsmall dn.1
  have hle0 : leqL fs (joinL fs ms) = true := leqL_joinL hn1.symm
  -- what is read, if no two have one stamp
  have hsame : DistV vs → (∀ ts, leqL fs ts = true → sameVD (readD k (dropD k (vs.take p) fs false ++ dropD k (vs.drop p) fs false) ts) (readD k vs ts) = true) ∧
      (∀ ts, leqL fs ts = true → sameVD (readD k (dropD k (dropD k (vs.take p) fs false ++ dropD k (vs.drop p) fs false) fs true) ts) (readD k vs ts) = true) := fun hd => by
    have h := parts_read (k := k) (fs := fs) (l1 := vs.take p) (l2 := vs.drop p) (by rw [List.take_append_drop]; exact hG) (by rw [List.take_append_drop]; exact hd)
    rw [List.take_append_drop] at h
    refine ⟨h.2.2, fun ts hts => ?_⟩
    have q1 := dn.2.2 ts hts
    have q2 := h.2.2 ts hts
    exact (sameVD_iff _ _).2 (((sameVD_iff _ _).1 q1).symm.trans ((sameVD_iff _ _).1 q2))
  have hd1 := fun va W (h1 : VersR W va (vs.take p)) (h2 : VecR W vf fs) => drop_any k va vf _ fs false W h1 h2 s1.1 s1.2.1 s1.2.2
  have hd2 := fun va W (h1 : VersR W va (vs.drop p)) (h2 : VecR W vf fs) => drop_any k va vf _ fs false W h1 h2 s2.1 s2.2.1 s2.2.2
  have hd3 := fun va W (h1 : VersR W va (dropD k (vs.take p) fs false ++ dropD k (vs.drop p) fs false)) (h2 : VecR W vf fs) => drop_any k va vf _ fs true W h1 h2 sm.1 sm.2.1 sm.2.2
  have hr1 := fun va vt ts W (h1 : VersR W va vs) (h2 : VecR W vt ts) => read_any k va vt vs ts W h1 h2 (by have := s0.1; omega) s0.2.1 s0.2.2
  have hr2 := fun va vt ts W (h1 : VersR W va (dropD k (vs.take p) fs false ++ dropD k (vs.drop p) fs false)) (h2 : VecR W vt ts) => read_any k va vt _ ts W h1 h2 (by have := sm.1; omega) sm.2.1 sm.2.2
  have hr3 := fun va vt ts W (h1 : VersR W va (dropD k (dropD k (vs.take p) fs false ++ dropD k (vs.drop p) fs false) fs true)) (h2 : VecR W vt ts) => read_any k va vt _ ts W h1 h2 (by have := sn.1; omega) sn.2.1 sn.2.2
  have n0 := fun ts => readD_num (k := k) (ts := ts) hG.num
  have n1 := fun ts => readD_num (k := k) (ts := ts) gm.num
  have n2 := fun ts => readD_num (k := k) (ts := ts) dn.1.num
  have hat := hG.at_
  unfold DropP at hd1 hd2 hd3
  have hjoin := fun W (hW : Below w.heap.size w W) => join_any vf vm fs ms W (hf.below hW) (hm.below hW) (by omega)
  have hl := light_any va vs w hv
  have hva := valid_any vf fs w hf
  have hr := rightl_any k va vs fs.length w hv hx
  rw [hl1] at hl; rw [hv1] at hva; rw [hrr] at hr
  have hal := alive_any
  have hvv := hv
  obtain ⟨A, c, f, rfl, t1, t2, t3, t4⟩ := hv
  -- the two parts of the list
  have hA0 : A = none → vs.length = 0 ∧ c = 0 := fun h => hpr _ _ (by rw [h])
  obtain ⟨Ab, hAb⟩ : ∃ Ab, Ab = (if c = p then A else A.map (·.add (p * 8))) := ⟨_, rfl⟩
  have hpa := hvv.take p hpn
  have hpb : VersR w (.slice Ab (vs.length - p) (c - p)) (vs.drop p) := hvv.behind p hpn fun hlt => by
    obtain ⟨b, o, rfl, _⟩ := t3 0 (by omega)
    refine ⟨b, o, rfl, ?_⟩
    rw [hAb, if_neg (by omega)]
    simp [addr_add8]
  unfold maxLen at t2
  have hsz : ∀ W, (sizeOf (Try.prog.elem 22)).run Try.prog W = .ok 8 W := fun W => by kernel_rfl
  have hcut1 : ∀ W, (Instr.slice 22 (.slice A vs.length c) none (some (.int .i64 p)) none).run Try.prog W = .ok (.slice A p c) W := fun W => by
    rw [run_slice_h (P := Try.prog) (w := W) 22 A vs.length c (by kernel_rfl) .i64 (p : Int) (by omega) (by omega), hsz W]
    simp only [Result.andThen, sliced, Int.toNat_natCast, Nat.sub_zero, Nat.zero_mul]
    congr 2
    split
    · rfl
    · cases A with
      | none => rfl
      | some a => simp [Addr.add]
  have hcut2 : ∀ W, (Instr.slice 22 (.slice A vs.length c) (some (.int .i64 p)) none none).run Try.prog W = .ok (.slice Ab (vs.length - p) (c - p)) W := fun W => by
    rw [run_slice_l (P := Try.prog) (w := W) 22 A vs.length c (by kernel_rfl) .i64 (p : Int) (by omega) (by omega), hsz W]
    simp only [Result.andThen, sliced, Int.toNat_natCast]
    rw [hAb]
  have hcb : c - p ≤ 9223372036854775807 := by omega
  have hg120 := hG.len
  clear hAb hsz
  have HD1 := Lib.hid hd1; have HD2 := Lib.hid hd2; have HD3 := Lib.hid hd3; have HR1 := Lib.hid hr1; have HR2 := Lib.hid hr2; have HR3 := Lib.hid hr3; have N0 := Lib.hid n0; have N1 := Lib.hid n1; have N2 := Lib.hid n2
  have HJ := Lib.hid hjoin; have HL := Lib.hid hl; have HV := Lib.hid hva; have HR := Lib.hid hr; have HAL := Lib.hid hal; have HPA := Lib.hid hpa; have HPB := Lib.hid hpb
  have HVV := Lib.hid hvv; have HFF := Lib.hid hf; have HSAME := Lib.hid hsame; have HLE0 := Lib.hid hle0; have HAT := Lib.hid hat; have T3 := Lib.hid t3; have T4 := Lib.hid t4; have HVL := Lib.hid hvl
  clear hd1 hd2 hd3 hr1 hr2 hr3 n0 n1 n2 hjoin hl hva hr hal hpa hpb hvv hsame hle0 hat t3 t4 hvl hA0 hG g1 g2 d1 d2 gm dn s0 s1 s2 sm sn hx hl1 hv1 hrr hpr hk0 hsmall
  obtain ⟨Af, cf, rfl, _, f2, _⟩ := hf
  obtain ⟨Am, cm, rfl, _, m2, _⟩ := hm
  unfold maxLen at f2 m2
  have hnb : ((ms.length : Int) != (fs.length : Int)) = false := by rw [bne_eq_false_iff_eq]; omega
  have HN1 := Lib.hid hn1; clear hn1
  generalize hn : vs.length = n at *
  have HN := Lib.hid hn; clear hn
  generalize hfn : fs.length = fn at *
  have HFN := Lib.hid hfn; clear hfn
  generalize ms.length = mn at *
  generalize dropD k (vs.take p) fs false = da at *
  generalize dropD k (vs.drop p) fs false = db at *
  generalize hdm : da ++ db = dm at *
  have HDM := Lib.hid hdm; clear hdm
  generalize dropD k dm fs true = dn at *
  go_enter Try.func6, Try.ntmps6
  go_wp2_with fail
  refine HL.out.mono ?_
  rintro e w' ⟨rfl, rfl⟩
  go_wp2_with fail
  refine HV.out.mono ?_
  rintro e w' ⟨rfl, rfl⟩
  go_wp2_with fail
  refine HR.out.mono ?_
  rintro e w1 ⟨rfl, hb1⟩
  have HB1 := Lib.hid hb1; clear hb1
  have b1 : (0 : Int) ≤ (p : Int) := by omega
  have b2 : (p : Int) ≤ (n : Int) := by omega
  have b3 : (p : Int) ≤ (c : Int) := by omega
  have HS := Lib.hid (keep_drew (N := w1.heap.size) (W := w1) (Nat.le_refl _))
  have hD1 : ∀ W, Hid (Below w1.heap.size w1 W) → Calls Try.prog 11 #[.string k, .slice A p c, .slice Af fn cf, .bool false] W (RetV fun r w' => Below W.heap.size W w' ∧ ReadsV w' r da) := fun W hW => HD1.out _ W (HPA.out.below (HB1.out.trans (hW.out.mono HB1.out.size))) (HFF.out.below (HB1.out.trans (hW.out.mono HB1.out.size)))
  have hD2 : ∀ W, Hid (Below w1.heap.size w1 W) → Calls Try.prog 11 #[.string k, .slice Ab (n - p) (c - p), .slice Af fn cf, .bool false] W (RetV fun r w' => Below W.heap.size W w' ∧ ReadsV w' r db) := fun W hW => HD2.out _ W (HPB.out.below (HB1.out.trans (hW.out.mono HB1.out.size))) (HFF.out.below (HB1.out.trans (hW.out.mono HB1.out.size)))
  have HDA := Lib.hid hD1; have HDB := Lib.hid hD2; clear hD1 hD2
  go_wp2_with fail
  go_region_held3 (fun W' => (∀ b o, b < w1.heap.size → W'.cell? ⟨b, o, none⟩ = w1.cell? ⟨b, o, none⟩) ∧ Hid (Below w1.heap.size w1 W') ∧ w1.heap.size ≤ W'.heap.size)
    (first
      | (exact HS.out)
      | (refine keep_step (by assumption) ?_; first | assumption | exact Below.refl _ _ | exact (Below.refl _ _).alloc (Nat.le_refl _) _))
    (first
      | (go_at_call_of 11 (Value.slice Ab (n - p) (c - p)); refine (HDB.out _ (by go_split_ands; assumption)).mono ?_; rintro e w3 ⟨rb, rfl, hb3, hrb⟩)
      | (go_at_call 11; refine (HDA.out _ (by go_split_ands; assumption)).mono ?_; rintro e w2 ⟨ra, rfl, hb2, hra⟩))
  have hb13 : Below w1.heap.size w1 w3 := Hid.out (by go_split_ands; assumption)
  have HB3 := Lib.hid (HB1.out.trans (hb13.mono HB1.out.size))
  have hra3 := hra.below hb3
  obtain ⟨fa, hsa, hma⟩ := hra3.src
  obtain ⟨fb, hsb, hmb⟩ := hrb.src
  have hlda : da.length ≤ 120 := by omega
  have hldb : db.length ≤ 120 := by omega
  obtain ⟨Aa, ca, rfl⟩ := hsa.form
  obtain ⟨Ab2, cb2, rfl⟩ := hsb.form
  have HSA := Lib.hid hsa; have HSB := Lib.hid hsb; have HMA := Lib.hid hma; have HMB := Lib.hid hmb
  generalize hna : da.length = na at *
  have HNA := Lib.hid hna; clear hna
  generalize hnb2 : db.length = nb at *
  have HNB := Lib.hid hnb2; clear hnb2
  clear hra hrb hra3 hsa hsb hma hmb hb2 hb3 hb13
  obtain ⟨B, hB⟩ : ∃ B, B = w3.heap.size := ⟨_, rfl⟩
  have HBB := Lib.hid hB; clear hB
  have ho0 : w3.ownsRow B 35 8 (.slice none 0 0) 0 [] := World.ownsRow_nil _ _ _ _
  have HO0 := Lib.hid ho0; clear ho0
  have hm1 : 0 + na ≤ maxLen := by unfold maxLen; omega
  have hm2 : (0 + na) * 96 ≤ 140737488355328 := by omega
  have HM1 := Lib.hid hm1; have HM2 := Lib.hid hm2; clear hm1 hm2
  have hm3 : 0 + na + nb ≤ maxLen := by unfold maxLen; omega
  have hm4 : (0 + na + nb) * 96 ≤ 140737488355328 := by omega
  have HM3 := Lib.hid hm3; have HM4 := Lib.hid hm4; clear hm3 hm4
  go_wp2_with (first
    | (at_builtin; refine wpList_append_src rfl (.const (.slice none 0 0)) (.tmp 64) 22 rfl B 35 i0 _ 8 96 Try.underlying22 hi hz0 hz1 hz2 rfl (by decide) _ _ _ rfl HO0.out _ na _ rfl HSA.out (rowCells_len _ _) (rowCells_one _ _) HM1.out HM2.out (by rw [HBB.out]; exact Nat.le_refl _) ?_; intro v4 w4 hown4 hgrow4; have HB34 := Lib.hid (show Below w3.heap.size w3 w4 from (Below.refl _ _).grown hgrow4 (Nat.le_refl _) (fun j hj => by cases hj)); have HOWN4 := Lib.hid hown4; have HLT4 := Lib.hid hown4.lt; clear hown4 hgrow4)
    | (at_builtin; go_must (refine wpList_append_src rfl (.tmp 65) (.tmp 66) 22 rfl B 35 i0 _ 8 96 Try.underlying22 hi hz0 hz1 hz2 rfl (by decide) _ _ _ rfl HOWN4.out _ nb _ rfl (HSB.out.below HB34.out) (rowCells_len _ _) (rowCells_one _ _) HM3.out HM4.out (by rw [HBB.out]; exact HB34.out.size) ?_); intro v5 w5 hown5 hgrow5; have HB35 := Lib.hid (show Below w3.heap.size w3 w5 from HB34.out.grown hgrow5 HB34.out.size (fun j hj => by rw [← HBB.out]; exact (HLT4.out j hj).1)); have HOWN5 := Lib.hid hown5; clear hown5 hgrow5))
  have hrm5 : ReadsV w5 v5 dm := by
    have how := HOWN5.out
    rw [Nat.zero_add, List.nil_append, ← HNA.out, ← HNB.out] at how
    rw [← HDM.out]
    exact ListB.self (B := B) (ListB.cat (fun j v hj => (HMA.out j v hj).below HB35.out) (fun j v hj => (HMB.out j v hj).below HB35.out) how)
  have HRM := Lib.hid hrm5.1
  obtain ⟨A5, c5, f5, rfl, _⟩ := hrm5.1
  have HB5 := Lib.hid (HB3.out.trans (HB35.out.mono HB3.out.size))
  clear hrm5 HOWN5 HB34 HLT4 HOWN4
  go_wp2_with fail
  refine (HJ.out _ HB5.out).mono ?_
  rintro e w6 ⟨v0, rfl, hb6, hv0, _⟩
  have HB6 := Lib.hid (HB5.out.trans (hb6.mono HB5.out.size)); have HV0 := Lib.hid hv0; have HRM6 := Lib.hid (HRM.out.below hb6)
  clear hb6 hv0 HRM
  go_wp2_with fail
  refine (HD3.out _ _ HRM6.out (HFF.out.below HB6.out)).mono ?_
  rintro e w7 ⟨rn, rfl, hb7, hrn⟩
  have HB7 := Lib.hid (HB6.out.trans (hb7.mono HB6.out.size)); have HV07 := Lib.hid (HV0.out.below hb7); have HRM7 := Lib.hid (HRM6.out.below hb7); have HRN := Lib.hid hrn.1
  clear hb7 hrn HV0 HRM6
  obtain ⟨B7, hB7⟩ : ∃ B, B = w7.heap.size := ⟨_, rfl⟩
  have HBB7 := Lib.hid hB7; clear hB7
  have t3 := T3.out
  go_wp2
  go_loopw [16] (fun vi wr => ∃ i : Nat, i ≤ n ∧ vi = .int .i64 i ∧ Hid (∀ a b, a < b → b < i → ordV (vs.getD a default) (vs.getD b default) ≠ 0) ∧ Hid (Below B7 w7 wr)) (fun vi _ => n - (intOf vi).toNat)
  case atStart => exact ⟨0, Nat.zero_le _, rfl, (fun a b _ hb => by omega), Below.refl _ _⟩
  case round =>
    obtain ⟨i, hi0, rfl, HI, HBR⟩ := hrel
    by_cases hlt : i < n
    · have hltz : (i : Int) < (n : Int) := by omega
      obtain ⟨b, o, rfl, hci⟩ := T3.out i hlt
      obtain ⟨wo, rfl⟩ : ∃ wo : World, wo = wr := ⟨_, rfl⟩
      have hvi : vs[i]? = some (vs.getD i default) := by rw [getD_lt _ _ (by rw [HN.out]; exact hlt)]; exact List.getElem?_eq_getElem _
      have hmi := T4.out i _ hvi
      have HMI := Lib.hid hmi; have HCI := Lib.hid hci
      clear hci hmi hvi t3
      go_wp2
      go_loopw [17] (fun vj wr => ∃ j : Nat, j ≤ i ∧ vj = .int .i64 j ∧ Hid (∀ a, a < j → ordV (vs.getD a default) (vs.getD i default) ≠ 0) ∧ Hid (Below B7 w7 wr)) (fun vj _ => i - (intOf vj).toNat)
      case atStart => exact ⟨0, Nat.zero_le _, rfl, (fun a ha => by omega), HBR⟩
      case round =>
        clear HBR
        obtain ⟨j, hj0, rfl, HJI, HBR⟩ := hrel
        by_cases hlt2 : j < i
        · have hltz2 : (j : Int) < (i : Int) := by omega
          have hBr : Below w7.heap.size w7 wr := by rw [← HBB7.out]; exact HBR.out
          have hwr : Below w.heap.size w wr := HB7.out.trans (hBr.mono HB7.out.size)
          obtain ⟨b', o', hA', hcj⟩ := T3.out j (by omega)
          cases hA'
          have hvj : vs[j]? = some (vs.getD j default) := by rw [getD_lt _ _ (by rw [HN.out]; omega)]; exact List.getElem?_eq_getElem _
          have hmj := T4.out j _ hvj
          have hmi := HMI.out
          have hbw : b < w.heap.size := World.block_lt_of_cell? w _ (HCI.out 0 _ rfl)
          have hx := elem_facts (w := wr) (x := f i) (fun q u hu => (hwr.cell (p := ⟨b, o + i * 8 + q, none⟩) hbw).trans (HCI.out q u hu))
          have hy := elem_facts (w := wr) (x := f j) (fun q u hu => (hwr.cell (p := ⟨b, o + j * 8 + q, none⟩) hbw).trans (hcj q u hu))
          have hnext : ordV (vs.getD j default) (vs.getD i default) ≠ 0 → ∀ a, a < j + 1 → ordV (vs.getD a default) (vs.getD i default) ≠ 0 := fun h a ha => by
            by_cases e : a = j
            · rw [e]; exact h
            · exact HJI.out a (by omega)
          have hsame := fun W (hW : Below wr.heap.size wr W) => vsame_any (f i).slice (f j).slice (vs.getD i default).at_ (vs.getD j default).at_ W ((hmi.below hwr).1.below hW) ((hmj.below hwr).1.below hW)
          have hoi : (vs.getD i default).origin = (f i).origin := by rw [hmi.2]; rfl
          have hoj : (vs.getD j default).origin = (f j).origin := by rw [hmj.2]; rfl
          have hti : (vs.getD i default).tx = (f i).tx := by rw [hmi.2]; rfl
          have htj : (vs.getD j default).tx = (f j).tx := by rw [hmj.2]; rfl
          have hne : ((f i).origin ≠ (f j).origin ∨ (f i).tx ≠ (f j).tx ∨ (vs.getD i default).at_ ≠ (vs.getD j default).at_) → ordV (vs.getD j default) (vs.getD i default) ≠ 0 := fun h e => by
            obtain ⟨e1, e2, e3⟩ := ordV_same_stamp e
            rcases h with h | h | h
            · exact h (by rw [← hoi, ← hoj]; exact e1.symm)
            · exact h (by rw [← hti, ← htj]; exact e2.symm)
            · exact h e3.symm
          simp only [VerV.slice] at hsame
          generalize vs.getD i default = vi at *
          generalize vs.getD j default = vj at *
          generalize hfi : f i = x at *
          generalize hfj : f j = y at *
          obtain ⟨_, x1, x2, x3, _⟩ := hx
          obtain ⟨_, y1, y2, y3, _⟩ := hy
          have HSA2 := Lib.hid hsame; have HNE := Lib.hid hne; have HNX := Lib.hid hnext; have HBRR := Lib.hid hBr; have HWR := Lib.hid hwr
          clear hsame hne hnext hoi hoj hti htj hmi hmj hvj hcj hfi hfj hBr hwr
          by_cases c1 : x.origin = y.origin
          · have c1b : (x.origin == y.origin) = true := by simpa using c1
            have K1 := Lib.hid c1; clear c1
            by_cases c2 : x.tx = y.tx
            · have c2b : (x.tx == y.tx) = true := by simpa using c2
              have K2 := Lib.hid c2; clear c2
              have hbr : b < wr.heap.size := by have := HWR.out.size; omega
              have e1 : (0 : Int) ≤ (j : Int) := by omega
              have e2 : (j : Int) < (n : Int) := by omega
              have e3 : (0 : Int) ≤ (i : Int) := by omega
              have HS2 := Lib.hid (keep_drew (N := wr.heap.size) (W := wr) (Nat.le_refl _))
              have hsm : ∀ W, Hid (Below wr.heap.size wr W) → Calls Try.prog 16 #[.slice x.A x.n x.c, .slice y.A y.n y.c] W fun e w' => e = .returned (.bool (decide (vi.at_ = vj.at_))) ∧ Below W.heap.size W w' := fun W hW => HSA2.out W hW.out
              obtain ⟨sb, hsb⟩ : ∃ sb, sb = decide (vi.at_ = vj.at_) := ⟨_, rfl⟩
              rw [← hsb] at hsm
              have HSM := Lib.hid hsm; have HSBQ := Lib.hid hsb; clear hsm hsb
              cases sb with
              | true =>
                go_wp2_with fail
                go_region_held3 (fun W' => (∀ b o, b < wr.heap.size → W'.cell? ⟨b, o, none⟩ = wr.cell? ⟨b, o, none⟩) ∧ Hid (Below wr.heap.size wr W') ∧ wr.heap.size ≤ W'.heap.size)
                  (first
                    | (exact HS2.out)
                    | (refine keep_step (by assumption) ?_; first | assumption | exact Below.refl _ _ | exact (Below.refl _ _).alloc (Nat.le_refl _) _))
                  (first
                    | (go_at_call 16; refine (HSM.out _ (by go_split_ands; assumption)).mono ?_; rintro e w8 ⟨rfl, hb8⟩))
                have hb28 : Below wr.heap.size wr w8 := Hid.out (by go_split_ands; assumption)
                have HB28 := Lib.hid (HWR.out.trans (hb28.mono HWR.out.size)); clear hb28
                go_wp2_with fail
                refine (HAL.out _).mono ?_
                rintro e w9 ⟨rfl, hb9⟩
                have HB9 := Lib.hid (HB28.out.trans (hb9.mono HB28.out.size)); clear hb9
                go_wp2
                go_ret
                exact ⟨rfl, HB9.out⟩
              | false =>
                have hna2 : vi.at_ ≠ vj.at_ := fun h => by have := HSBQ.out; simp [h] at this
                have hnx := HNX.out (HNE.out (.inr (.inr hna2)))
                have HNX2 := Lib.hid hnx; clear hnx hna2
                go_wp2_with fail
                go_region_held3 (fun W' => (∀ b o, b < wr.heap.size → W'.cell? ⟨b, o, none⟩ = wr.cell? ⟨b, o, none⟩) ∧ Hid (Below wr.heap.size wr W') ∧ wr.heap.size ≤ W'.heap.size)
                  (first
                    | (exact HS2.out)
                    | (refine keep_step (by assumption) ?_; first | assumption | exact Below.refl _ _ | exact (Below.refl _ _).alloc (Nat.le_refl _) _))
                  (first
                    | (go_at_call 16; refine (HSM.out _ (by go_split_ands; assumption)).mono ?_; rintro e w8 ⟨rfl, hb8⟩))
                have hb28 : Below wr.heap.size wr w8 := Hid.out (by go_split_ands; assumption)
                have HB28 := Lib.hid (HBR.out.trans (hb28.mono (by have := HBRR.out.size; have := HBB7.out; omega))); clear hb28
                go_wp2
                go_roundw
                case rel => exact ⟨j + 1, by omega, by go_num, HNX2, HB28⟩
                case measure => simp [intOf]; omega
            · have c2b : (x.tx == y.tx) = false := by simpa using c2
              have hnx := HNX.out (HNE.out (.inr (.inl c2)))
              have HNX2 := Lib.hid hnx; clear c2 hnx
              go_wp2_with fail
              go_quiet (fail)
              rename_i nq
              have hb2 : Below wr.heap.size wr (wr.drewN nq) := Below_drewN wr nq
              have HB2 := Lib.hid (HBR.out.trans (hb2.mono (by have := HBRR.out.size; have := HBB7.out; omega))); clear hb2
              go_wp2
              go_roundw
              case rel => exact ⟨j + 1, by omega, by go_num, HNX2, HB2⟩
              case measure => simp [intOf]; omega
          · have c1b : (x.origin == y.origin) = false := by simpa using c1
            have hnx := HNX.out (HNE.out (.inl c1))
            have HNX2 := Lib.hid hnx; clear c1 hnx
            go_wp2_with fail
            go_quiet (fail)
            rename_i nq
            have hb2 : Below wr.heap.size wr (wr.drewN nq) := Below_drewN wr nq
            have HB2 := Lib.hid (HBR.out.trans (hb2.mono (by have := HBRR.out.size; have := HBB7.out; omega))); clear hb2
            go_wp2
            go_roundw
            case rel => exact ⟨j + 1, by omega, by go_num, HNX2, HB2⟩
            case measure => simp [intOf]; omega
        · obtain rfl : j = i := by omega
          have hltz2 : ¬ (j : Int) < (j : Int) := by omega
          have hall : ∀ a b, a < b → b < j + 1 → ordV (vs.getD a default) (vs.getD b default) ≠ 0 := fun a b hab hb => by
            by_cases e : b = j
            · rw [e] at hab ⊢; exact HJI.out a hab
            · exact HI.out a b hab (by omega)
          have HALL := Lib.hid hall; clear hall
          go_wp2
          go_roundw
          case rel => exact ⟨j + 1, by omega, by go_num, HALL, HBR⟩
          case measure => simp [intOf]; omega
    · obtain rfl : i = n := by omega
      have hltz : ¬ (i : Int) < (i : Int) := by omega
      have hBr : Below w7.heap.size w7 wr := by rw [← HBB7.out]; exact HBR.out
      have hwr : Below w.heap.size w wr := HB7.out.trans (hBr.mono HB7.out.size)
      have hdist : DistV vs := List.pairwise_iff_getElem.2 fun a b ha hb hab => by
        have h := HI.out a b hab (by rw [← HN.out]; exact hb)
        rw [getD_lt _ _ ha, getD_lt _ _ hb] at h
        exact h
      obtain ⟨q1, q2⟩ := HSAME.out hdist
      have hs1 := q1 (joinL fs ms) HLE0.out
      have hs2 := q2 (joinL fs ms) HLE0.out
      have hs3 := q2 fs (leqL_refl fs)
      have HWR := Lib.hid hwr; have HBRR := Lib.hid hBr
      have HS1 := Lib.hid hs1; have HS2 := Lib.hid hs2; have HS3 := Lib.hid hs3
      clear hs1 hs2 hs3 q1 q2 hdist hwr hBr t3
      obtain ⟨An, cn, fn2, hrnz, _, _, _⟩ := HRN.out
      have hrm8 := HRM7.out.below HBRR.out; have hrn8 := HRN.out.below HBRR.out; have hv08 := HV07.out.below HBRR.out; have hvf8 := HFF.out.below HWR.out; have hvv8 := HVV.out.below HWR.out
      have HM8 := Lib.hid hrm8; have HN8 := Lib.hid hrn8; have HV8 := Lib.hid hv08; have HF8 := Lib.hid hvf8; have HL8 := Lib.hid hvv8
      clear hrm8 hrn8 hv08 hvf8 hvv8 hrnz
      go_wp2_with fail
      refine (HAL.out _).mono ?_
      rintro e w8 ⟨rfl, hb8⟩
      have HC8 := Lib.hid hb8; clear hb8
      go_wp2_with fail
      refine (HR2.out _ _ _ _ (HM8.out.below HC8.out) (HV8.out.below HC8.out)).mono ?_
      rintro e w9 ⟨rfl, hb9⟩
      have HC9 := Lib.hid (HC8.out.trans (hb9.mono HC8.out.size)); clear hb9
      go_wp2_with fail
      refine (HR1.out _ _ _ _ (HL8.out.below HC9.out) (HV8.out.below HC9.out)).mono ?_
      rintro e w10 ⟨rfl, hb10⟩
      have HC10 := Lib.hid (HC9.out.trans (hb10.mono HC9.out.size)); clear hb10
      go_wp2_with fail
      refine (sameValue_any _ _ (N1.out _) (N0.out _) _).mono ?_
      rintro e w11 ⟨rfl, hb11⟩
      have HC11 := Lib.hid (HC10.out.trans (hb11.mono HC10.out.size)); clear hb11
      rw [HS1.out]
      go_wp2_with fail
      refine (HR3.out _ _ _ _ (HN8.out.below HC11.out) (HV8.out.below HC11.out)).mono ?_
      rintro e w12 ⟨rfl, hb12⟩
      have HC12 := Lib.hid (HC11.out.trans (hb12.mono HC11.out.size)); clear hb12
      go_wp2_with fail
      refine (HR1.out _ _ _ _ (HL8.out.below HC12.out) (HV8.out.below HC12.out)).mono ?_
      rintro e w13 ⟨rfl, hb13⟩
      have HC13 := Lib.hid (HC12.out.trans (hb13.mono HC12.out.size)); clear hb13
      go_wp2_with fail
      refine (sameValue_any _ _ (N2.out _) (N0.out _) _).mono ?_
      rintro e w14 ⟨rfl, hb14⟩
      have HC14 := Lib.hid (HC13.out.trans (hb14.mono HC13.out.size)); clear hb14
      rw [HS2.out]
      go_wp2_with fail
      refine (HR3.out _ _ _ _ (HN8.out.below HC14.out) (HF8.out.below HC14.out)).mono ?_
      rintro e w15 ⟨rfl, hb15⟩
      have HC15 := Lib.hid (HC14.out.trans (hb15.mono HC14.out.size)); clear hb15
      go_wp2_with fail
      refine (HR1.out _ _ _ _ (HL8.out.below HC15.out) (HF8.out.below HC15.out)).mono ?_
      rintro e w16 ⟨rfl, hb16⟩
      have HC16 := Lib.hid (HC15.out.trans (hb16.mono HC15.out.size)); clear hb16
      go_wp2_with fail
      refine (sameValue_any _ _ (N2.out _) (N0.out _) _).mono ?_
      rintro e w17 ⟨rfl, hb17⟩
      have HC17 := Lib.hid (HC16.out.trans (hb17.mono HC16.out.size)); clear hb17
      rw [HS3.out]
      go_wp2
      go_ret
      exact ⟨rfl, HWR.out.trans (HC17.out.mono HWR.out.size)⟩

theorem parts_any (k : ByteArray) (va vf vm : Value) (vs : List VerD) (fs ms : List Int) (kk : Int) (w : World) (hv : VersR w va vs) (hpr : Proper va) (hf : VecR w vf fs) (hm : VecR w vm ms) (hx : ∀ v ∈ vs, numD v) :
    Calls Try.prog 6 #[.string k, va, vf, vm, .int .i64 kk] w fun e w' => e = .returned (.bool true) ∧ Below w.heap.size w w' := by
  by_cases hg : lightD vs = true ∧ validL fs = true ∧ ms.length = fs.length ∧ vs.all (rightV k fs.length) = true ∧ 0 ≤ kk ∧ kk ≤ vs.length
  · exact parts_on k va vf vm vs fs ms kk w hv hpr hf hm hx hg.1 hg.2.1 hg.2.2.1 hg.2.2.2.1 hg.2.2.2.2.1 hg.2.2.2.2.2
  · exact parts_off k va vf vm vs fs ms kk w hv hf hm hx hg

end Go.Proofs.Ythicjpkomigacaa
