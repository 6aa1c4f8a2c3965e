/- slices.symMergeCmpFunc at versions: the third way, and the whole. (Printed by gen_sym2.py.) -/
import Derived.Test.YthicjpkomigacaaSym
namespace Go.Proofs.Ythicjpkomigacaa
open Go.RowKit

set_option maxRecDepth 100000 in
set_option maxHeartbeats 12800000 in
theorem sym_main (g n cap a m b : Nat) (f : Nat → VerV) (cf : Nat → Nat → Int) (L : Nat → Nat → Prop) (O : LexOrd (ltOf cf) L) (s : Nat → Nat) (w : World)
    (hrow : RowF w g n (fun i => f (s i))) (hc : CmpOK w g n f cf) (hs0 : ∀ i, i < n → s i < n) (hpre : Pre (ltOf cf) L s a m b) (hb : b ≤ n) (hn : n ≤ 1000000) (hne : m ≠ a + 1) (hne' : b ≠ m + 1)
    (ih : ∀ (a' m' b' : Nat) (s' : Nat → Nat), b' - a' < b - a → ∀ W : World, RowF W g n (fun i => f (s' i)) → CmpOK W g n f cf → (∀ i, i < n → s' i < n) → Pre (ltOf cf) L s' a' m' b' → b' ≤ n →
      Calls Try.prog 65 #[.slice (some ⟨g, 0, none⟩) n cap, .int .i64 a', .int .i64 m', .int .i64 b', .func (.func 36) #[] #[]] W (SymPost g n a' b' f L s' W)) :
    Calls Try.prog 65 #[.slice (some ⟨g, 0, none⟩) n cap, .int .i64 a, .int .i64 m, .int .i64 b, .func (.func 36) #[] #[]] w (SymPost g n a b f L s w) := by
  have ham := hpre.am
  have hmb := hpre.mb
  have HR := Lib.hid hrow; have HC := Lib.hid hc; have HS0 := Lib.hid hs0; have HP := Lib.hid hpre; have HIH := Lib.hid ih
  clear hrow hc hs0 hpre ih
  have h0 : ((m : Int) - a == 1) = false := by rw [beq_eq_false_iff_ne]; omega
  have h1 : ((b : Int) - m == 1) = false := by rw [beq_eq_false_iff_ne]; omega
  obtain ⟨mid, hmid⟩ : ∃ mid : Nat, mid = (a + b) / 2 := ⟨_, rfl⟩
  have hz : ((a : Int) + b) / 2 = (mid : Int) := by omega
  have hm1 : a < mid := by omega
  have hm2 : mid < b := by omega
  have hm3 : mid < m → b ≤ mid + m := by omega
  have HM3 := Lib.hid hm3
  have HZ := Lib.hid hz; have HNE := Lib.hid hne; have HNE' := Lib.hid hne'; have HMID := Lib.hid hmid
  clear hz hne hne' hmid hm3
  by_cases hmm : mid < m
  · have hmz' : ((a : Int) + b) / 2 < (m : Int) := by rw [HZ.out]; omega
    have hst0 : (mid : Int) + m - b = ((mid + m - b : Nat) : Int) := by have := HM3.out hmm; omega
    have HST0 := Lib.hid hst0; clear hst0
    go_enter Try.func65, Try.ntmps65
    go_wp2_with fail
    rw [HZ.out]
    go_loopw [20, 21, 23] (fun vi vj vh wr => ∃ st r : Nat, vi = .int .i64 st ∧ vj = .int .i64 r ∧ a ≤ st ∧ st ≤ r ∧ r ≤ m ∧ r ≤ mid ∧ mid + m ≤ b + st ∧ Hid (RowF wr g n (fun i => f (s i))) ∧ Hid (w.grownBy wr (some g)) ∧ Hid ((a < st → mid + m - st < b → ltOf cf (s (mid + m - st)) (s (st - 1)) = false) ∧ (r < m → m < mid + m - r → ltOf cf (s (mid + m - r - 1)) (s r) = true))) (fun vi vj _ _ => (intOf vj).toNat - (intOf vi).toNat)
    case atStart => exact ⟨mid + m - b, mid, by rw [HST0.out], rfl, by have := HMID.out; have := HM3.out hmm; omega, by omega, by omega, Nat.le_refl _, by have := HM3.out hmm; omega, HR, World.grownBy.refl _ _, ⟨fun _ h => by have := HM3.out hmm; omega, fun _ h => by omega⟩⟩
    case round =>
      obtain ⟨st, r, rfl, rfl, hsa, hsr, hrm, hrd, hsb, HRk, HG, HI⟩ := hrel
      by_cases hlt : st < r
      · have hltz : (st : Int) < (r : Int) := by omega
        obtain ⟨h, hh⟩ : ∃ h : Nat, h = (st + r) / 2 := ⟨_, rfl⟩
        have hh1 : st ≤ h := by omega
        have hh2 : h < r := by omega
        have hz2 : ((st : Int) + r) / 2 = (h : Int) := by omega
        have HZ2 := Lib.hid hz2; clear hz2 hh
        obtain ⟨q, hq⟩ : ∃ q : Nat, q = mid + m - h - 1 := ⟨_, rfl⟩
        have hq1 : m ≤ q := by omega
        have hq2 : q < b := by omega
        have hqz : (mid : Int) + m - 1 - h = (q : Int) := by omega
        have HQ := Lib.hid hq; clear hq
        have hx := (HRk.out (q) (by omega)).facts
        have hy := (HRk.out (h) (by omega)).facts
        have hcc := fun W hW => HC.out (s (q)) (s (h)) (HS0.out _ (by omega)) (HS0.out _ (by omega)) W (HG.out.trans hW)
        have hgw : g < wr.heap.size := World.block_lt_of_cell? wr _ hx.1.1
        have hrb := fun (W : World) (hW : Below wr.heap.size wr W) => And.intro (HRk.out.below hgw hW) (only_below HG.out hW)
        have HRB := Lib.hid hrb; clear hrb
        dsimp only at hx hy
        generalize f (s (q)) = x at hx hcc
        generalize f (s (h)) = y at hy hcc
        generalize hcv : cf (s (q)) (s (h)) = c at hcc
        have HCC := Lib.hid hcc; have HCV := Lib.hid hcv
        clear hcc hcv
        obtain ⟨⟨x0, x1, x2, x3, x4, x5, x6, x7⟩, z0, z1, z2, z3, z4, z5, z6, z7⟩ := hx
        obtain ⟨⟨y0, y1, y2, y3, y4, y5, y6, y7⟩, u0, u1, u2, u3, u4, u5, u6, u7⟩ := hy
        clear z0 z1 z2 z3 z4 z5 z6 z7 u0 u1 u2 u3 u4 u5 u6 u7
        simp only [VerV.cells] at HCC
        have HK := Lib.hid (keep_drew (N := wr.heap.size) (W := wr) (Nat.le_refl _))
        have i0 : (0 : Int) ≤ (h : Int) := by omega
        have i1 : (h : Int) < (n : Int) := by omega
        have i2 : (q : Int) < (n : Int) := by omega
        have i3 : (0 : Int) ≤ (q : Int) := by omega
        have hwq : IntKind.i64.wrap ((mid : Int) + m - 1 - h) = (q : Int) := by rw [IntKind.wrap_i64]; omega
        have hwq' : IntKind.i64.wrap (q : Int) = (q : Int) := by rw [IntKind.wrap_i64]; omega
        by_cases hcz : c < 0
        · have hczb : (decide (c < 0)) = true := by simpa using hcz
          have hres : ltOf cf (s (mid + m - h - 1)) (s h) = true := by unfold ltOf; rw [← HQ.out, HCV.out]; exact hczb
          have HRES := Lib.hid hres; clear hres
          go_wp2_with fail
          rw [HZ2.out]
          go_region_held3 (fun W' => (∀ b o, b < wr.heap.size → W'.cell? ⟨b, o, none⟩ = wr.cell? ⟨b, o, none⟩) ∧ Hid (Below wr.heap.size wr W') ∧ wr.heap.size ≤ W'.heap.size)
            (first
              | (exact HK.out)
              | (refine keep_step (by assumption) ?_; first | assumption | exact Below.refl _ _ | exact (Below.refl _ _).alloc (Nat.le_refl _) _))
            (first
              | (go_simp; go_at_call 36; refine (HCC.out _ (only_of_below (Hid.out (by go_split_ands; assumption)) _)).mono ?_; rintro e w1 ⟨rfl, hb1⟩))
          have hBB : Below wr.heap.size wr w1 := Hid.out (by go_split_ands; assumption)
          have HRB1 := Lib.hid (HRB.out _ hBB)
          clear hBB
          go_wp2
          go_roundw
          case rel => exact ⟨st, h, rfl, rfl, hsa, by omega, by omega, by omega, by omega, HRB1.out.1, HRB1.out.2, ⟨HI.out.1, fun _ _ => HRES.out⟩⟩
          case measure => simp [intOf]; omega
        · have hczb : (decide (c < 0)) = false := by simpa using hcz
          have hres : ltOf cf (s (mid + m - (h + 1))) (s h) = false := by unfold ltOf; rw [show mid + m - (h + 1) = q by rw [HQ.out]; omega, HCV.out]; exact hczb
          have HRES := Lib.hid hres; clear hres
          go_wp2_with fail
          rw [HZ2.out]
          go_region_held3 (fun W' => (∀ b o, b < wr.heap.size → W'.cell? ⟨b, o, none⟩ = wr.cell? ⟨b, o, none⟩) ∧ Hid (Below wr.heap.size wr W') ∧ wr.heap.size ≤ W'.heap.size)
            (first
              | (exact HK.out)
              | (refine keep_step (by assumption) ?_; first | assumption | exact Below.refl _ _ | exact (Below.refl _ _).alloc (Nat.le_refl _) _))
            (first
              | (go_simp; go_at_call 36; refine (HCC.out _ (only_of_below (Hid.out (by go_split_ands; assumption)) _)).mono ?_; rintro e w1 ⟨rfl, hb1⟩))
          have hBB : Below wr.heap.size wr w1 := Hid.out (by go_split_ands; assumption)
          have HRB1 := Lib.hid (HRB.out _ hBB)
          clear hBB
          go_wp2
          go_roundw
          case rel => exact ⟨h + 1, r, by go_num, rfl, by omega, by omega, by omega, by omega, by omega, HRB1.out.1, HRB1.out.2, ⟨fun _ _ => by rw [show h + 1 - 1 = h by omega]; exact HRES.out, HI.out.2⟩⟩
          case measure => simp [intOf]; omega
      · obtain rfl : st = r := by omega
        have hltz : ¬ (st : Int) < (st : Int) := by omega
        obtain ⟨en, hen⟩ : ∃ en : Nat, en = mid + m - st := ⟨_, rfl⟩
        have hez : (mid : Int) + m - st = (en : Int) := by omega
        have hen2 : en ≤ b := by omega
        have hen3 : m ≤ en := by omega
        have hcut := merge_cut O HP.out hm1 hm2 hsa hrm hrd hen hen2 (by rw [hen]; exact HI.out.1) (by rw [hen]; exact HI.out.2)
        have hpr : PermOn a b s (rotG s st m en) := (perm_rot s st m en hrm hen3).widen hsa hen2
        have HCUT := Lib.hid hcut; have HPR := Lib.hid hpr; clear hcut hpr HI
        have HEN := Lib.hid hen; clear hen
        have HEZ := Lib.hid hez
        have hA : st < m := by omega
        by_cases hB : st < mid
        · have _u := hA
          have hrt := fun W h => rotate_any (.func (.func 36) #[] #[]) g n cap st m en (fun i => f (s i)) W h hA (by omega) (by omega) hn
          have HROT := Lib.hid hrt; clear hrt
          go_wp2_with fail
          refine (HROT.out _ HRk.out).mono ?_
          rintro e W1 ⟨rfl, hr1, hg1⟩
          rw [rotG_comp] at hr1
          have HR1 := Lib.hid hr1; have HG1 := Lib.hid (HG.out.trans hg1); clear hr1 hg1
          by_cases hC : a < st
          · have hih := HIH.out a st mid (rotG s st m en) (by omega) _ HR1.out (HC.out.later HG1.out) (HPR.out.lt hb HS0.out) (HCUT.out.2.1 hC (by omega)) (by omega)
            have HLC := Lib.hid hih; clear hih
            go_wp2_with fail
            refine HLC.out.mono ?_
            rintro e W2 ⟨rfl, hg2, s2, hp2, hs2, hr2⟩
            have HR2 := Lib.hid hr2; have HG2 := Lib.hid (HG1.out.trans hg2); have HP2 := Lib.hid hp2; have HS2 := Lib.hid hs2; clear hr2 hg2 hp2 hs2 HLC
            by_cases hD : en < b
            · have hih := HIH.out mid en b s2 (by omega) _ HR2.out (HC.out.later HG2.out) (HP2.out.lt (by omega) (HPR.out.lt hb HS0.out)) ((HCUT.out.2.2.2.1 (by omega) hD).congr fun i h1 _ => HP2.out.out (by omega)) (by omega)
              have HLD := Lib.hid hih; clear hih
              go_wp2_with fail
              refine HLD.out.mono ?_
              rintro e W3 ⟨rfl, hg3, s3, hp3, hs3, hr3⟩
              have HFIN := Lib.hid (merge_end (by omega) (by omega) HPR.out HCUT.out.1 HP2.out HS2.out hp3 hs3)
              have HR3 := Lib.hid hr3; have HG3 := Lib.hid (HG2.out.trans hg3); clear hr3 hg3 hp3 hs3
              go_wp2
              all_goals
                go_end0
                exact ⟨rfl, HG3.out, s3, HFIN.out.1, HFIN.out.2, HR3.out⟩
            · have HFIN := Lib.hid (merge_end (by omega) (by omega) HPR.out HCUT.out.1 HP2.out HS2.out (PermOn.refl _ _ _) ((HCUT.out.2.2.2.2 (by omega)).congr fun i h1 _ => HP2.out.out (by omega)))
              go_wp2
              all_goals
                go_end0
                exact ⟨rfl, HG2.out, s2, HFIN.out.1, HFIN.out.2, HR2.out⟩
          · obtain ⟨s2, hs2e⟩ : ∃ s2, s2 = rotG s st m en := ⟨_, rfl⟩
            have HP2 : Hid (PermOn a mid (rotG s st m en) s2) := by rw [hs2e]; exact PermOn.refl _ _ _
            have HS2 : Hid (SortedOn L a mid s2) := by rw [hs2e]; exact HCUT.out.2.2.1 (by omega)
            have HR2 := HR1; have HG2 := HG1
            rw [← hs2e] at HR2
            clear hs2e
            by_cases hD : en < b
            · have hih := HIH.out mid en b s2 (by omega) _ HR2.out (HC.out.later HG2.out) (HP2.out.lt (by omega) (HPR.out.lt hb HS0.out)) ((HCUT.out.2.2.2.1 (by omega) hD).congr fun i h1 _ => HP2.out.out (by omega)) (by omega)
              have HLD := Lib.hid hih; clear hih
              go_wp2_with fail
              refine HLD.out.mono ?_
              rintro e W3 ⟨rfl, hg3, s3, hp3, hs3, hr3⟩
              have HFIN := Lib.hid (merge_end (by omega) (by omega) HPR.out HCUT.out.1 HP2.out HS2.out hp3 hs3)
              have HR3 := Lib.hid hr3; have HG3 := Lib.hid (HG2.out.trans hg3); clear hr3 hg3 hp3 hs3
              go_wp2
              all_goals
                go_end0
                exact ⟨rfl, HG3.out, s3, HFIN.out.1, HFIN.out.2, HR3.out⟩
            · have HFIN := Lib.hid (merge_end (by omega) (by omega) HPR.out HCUT.out.1 HP2.out HS2.out (PermOn.refl _ _ _) ((HCUT.out.2.2.2.2 (by omega)).congr fun i h1 _ => HP2.out.out (by omega)))
              go_wp2
              all_goals
                go_end0
                exact ⟨rfl, HG2.out, s2, HFIN.out.1, HFIN.out.2, HR2.out⟩
        · have _u := hA
          have hee : en = m := by omega
          have HR1 : Hid (RowF wr g n (fun i => f (rotG s st m en i))) := by
            have e : rotG s st m en = s := by rw [hee]; exact rotG_left s _ _
            rw [e]; exact HRk
          have HEE := Lib.hid hee; clear hee
          have HG1 := HG
          obtain ⟨s2, hs2e⟩ : ∃ s2, s2 = rotG s st m en := ⟨_, rfl⟩
          have HP2 : Hid (PermOn a mid (rotG s st m en) s2) := by rw [hs2e]; exact PermOn.refl _ _ _
          have HS2 : Hid (SortedOn L a mid s2) := by rw [hs2e]; exact HCUT.out.2.2.1 (by omega)
          have HR2 := HR1; have HG2 := HG1
          rw [← hs2e] at HR2
          clear hs2e
          by_cases hD : en < b
          · have hih := HIH.out mid en b s2 (by omega) _ HR2.out (HC.out.later HG2.out) (HP2.out.lt (by omega) (HPR.out.lt hb HS0.out)) ((HCUT.out.2.2.2.1 (by omega) hD).congr fun i h1 _ => HP2.out.out (by omega)) (by omega)
            have HLD := Lib.hid hih; clear hih
            go_wp2_with fail
            refine HLD.out.mono ?_
            rintro e W3 ⟨rfl, hg3, s3, hp3, hs3, hr3⟩
            have HFIN := Lib.hid (merge_end (by omega) (by omega) HPR.out HCUT.out.1 HP2.out HS2.out hp3 hs3)
            have HR3 := Lib.hid hr3; have HG3 := Lib.hid (HG2.out.trans hg3); clear hr3 hg3 hp3 hs3
            go_wp2
            all_goals
              go_end0
              exact ⟨rfl, HG3.out, s3, HFIN.out.1, HFIN.out.2, HR3.out⟩
          · have HFIN := Lib.hid (merge_end (by omega) (by omega) HPR.out HCUT.out.1 HP2.out HS2.out (PermOn.refl _ _ _) ((HCUT.out.2.2.2.2 (by omega)).congr fun i h1 _ => HP2.out.out (by omega)))
            go_wp2
            all_goals
              go_end0
              exact ⟨rfl, HG2.out, s2, HFIN.out.1, HFIN.out.2, HR2.out⟩
  · have hmz' : ¬ ((a : Int) + b) / 2 < (m : Int) := by rw [HZ.out]; omega
    go_enter Try.func65, Try.ntmps65
    go_wp2_with fail
    rw [HZ.out]
    go_loopw [20, 21, 23] (fun vi vj vh wr => ∃ st r : Nat, vi = .int .i64 st ∧ vj = .int .i64 r ∧ a ≤ st ∧ st ≤ r ∧ r ≤ m ∧ r ≤ mid ∧ mid + m ≤ b + st ∧ Hid (RowF wr g n (fun i => f (s i))) ∧ Hid (w.grownBy wr (some g)) ∧ Hid ((a < st → mid + m - st < b → ltOf cf (s (mid + m - st)) (s (st - 1)) = false) ∧ (r < m → m < mid + m - r → ltOf cf (s (mid + m - r - 1)) (s r) = true))) (fun vi vj _ _ => (intOf vj).toNat - (intOf vi).toNat)
    case atStart => exact ⟨a, m, rfl, rfl, Nat.le_refl _, by omega, Nat.le_refl _, by omega, by have := HMID.out; omega, HR, World.grownBy.refl _ _, ⟨fun h => by omega, fun h => by omega⟩⟩
    case round =>
      obtain ⟨st, r, rfl, rfl, hsa, hsr, hrm, hrd, hsb, HRk, HG, HI⟩ := hrel
      by_cases hlt : st < r
      · have hltz : (st : Int) < (r : Int) := by omega
        obtain ⟨h, hh⟩ : ∃ h : Nat, h = (st + r) / 2 := ⟨_, rfl⟩
        have hh1 : st ≤ h := by omega
        have hh2 : h < r := by omega
        have hz2 : ((st : Int) + r) / 2 = (h : Int) := by omega
        have HZ2 := Lib.hid hz2; clear hz2 hh
        obtain ⟨q, hq⟩ : ∃ q : Nat, q = mid + m - h - 1 := ⟨_, rfl⟩
        have hq1 : m ≤ q := by omega
        have hq2 : q < b := by omega
        have hqz : (mid : Int) + m - 1 - h = (q : Int) := by omega
        have HQ := Lib.hid hq; clear hq
        have hx := (HRk.out (q) (by omega)).facts
        have hy := (HRk.out (h) (by omega)).facts
        have hcc := fun W hW => HC.out (s (q)) (s (h)) (HS0.out _ (by omega)) (HS0.out _ (by omega)) W (HG.out.trans hW)
        have hgw : g < wr.heap.size := World.block_lt_of_cell? wr _ hx.1.1
        have hrb := fun (W : World) (hW : Below wr.heap.size wr W) => And.intro (HRk.out.below hgw hW) (only_below HG.out hW)
        have HRB := Lib.hid hrb; clear hrb
        dsimp only at hx hy
        generalize f (s (q)) = x at hx hcc
        generalize f (s (h)) = y at hy hcc
        generalize hcv : cf (s (q)) (s (h)) = c at hcc
        have HCC := Lib.hid hcc; have HCV := Lib.hid hcv
        clear hcc hcv
        obtain ⟨⟨x0, x1, x2, x3, x4, x5, x6, x7⟩, z0, z1, z2, z3, z4, z5, z6, z7⟩ := hx
        obtain ⟨⟨y0, y1, y2, y3, y4, y5, y6, y7⟩, u0, u1, u2, u3, u4, u5, u6, u7⟩ := hy
        clear z0 z1 z2 z3 z4 z5 z6 z7 u0 u1 u2 u3 u4 u5 u6 u7
        simp only [VerV.cells] at HCC
        have HK := Lib.hid (keep_drew (N := wr.heap.size) (W := wr) (Nat.le_refl _))
        have i0 : (0 : Int) ≤ (h : Int) := by omega
        have i1 : (h : Int) < (n : Int) := by omega
        have i2 : (q : Int) < (n : Int) := by omega
        have i3 : (0 : Int) ≤ (q : Int) := by omega
        have hwq : IntKind.i64.wrap ((mid : Int) + m - 1 - h) = (q : Int) := by rw [IntKind.wrap_i64]; omega
        have hwq' : IntKind.i64.wrap (q : Int) = (q : Int) := by rw [IntKind.wrap_i64]; omega
        by_cases hcz : c < 0
        · have hczb : (decide (c < 0)) = true := by simpa using hcz
          have hres : ltOf cf (s (mid + m - h - 1)) (s h) = true := by unfold ltOf; rw [← HQ.out, HCV.out]; exact hczb
          have HRES := Lib.hid hres; clear hres
          go_wp2_with fail
          rw [HZ2.out]
          go_region_held3 (fun W' => (∀ b o, b < wr.heap.size → W'.cell? ⟨b, o, none⟩ = wr.cell? ⟨b, o, none⟩) ∧ Hid (Below wr.heap.size wr W') ∧ wr.heap.size ≤ W'.heap.size)
            (first
              | (exact HK.out)
              | (refine keep_step (by assumption) ?_; first | assumption | exact Below.refl _ _ | exact (Below.refl _ _).alloc (Nat.le_refl _) _))
            (first
              | (go_simp; go_at_call 36; refine (HCC.out _ (only_of_below (Hid.out (by go_split_ands; assumption)) _)).mono ?_; rintro e w1 ⟨rfl, hb1⟩))
          have hBB : Below wr.heap.size wr w1 := Hid.out (by go_split_ands; assumption)
          have HRB1 := Lib.hid (HRB.out _ hBB)
          clear hBB
          go_wp2
          go_roundw
          case rel => exact ⟨st, h, rfl, rfl, hsa, by omega, by omega, by omega, by omega, HRB1.out.1, HRB1.out.2, ⟨HI.out.1, fun _ _ => HRES.out⟩⟩
          case measure => simp [intOf]; omega
        · have hczb : (decide (c < 0)) = false := by simpa using hcz
          have hres : ltOf cf (s (mid + m - (h + 1))) (s h) = false := by unfold ltOf; rw [show mid + m - (h + 1) = q by rw [HQ.out]; omega, HCV.out]; exact hczb
          have HRES := Lib.hid hres; clear hres
          go_wp2_with fail
          rw [HZ2.out]
          go_region_held3 (fun W' => (∀ b o, b < wr.heap.size → W'.cell? ⟨b, o, none⟩ = wr.cell? ⟨b, o, none⟩) ∧ Hid (Below wr.heap.size wr W') ∧ wr.heap.size ≤ W'.heap.size)
            (first
              | (exact HK.out)
              | (refine keep_step (by assumption) ?_; first | assumption | exact Below.refl _ _ | exact (Below.refl _ _).alloc (Nat.le_refl _) _))
            (first
              | (go_simp; go_at_call 36; refine (HCC.out _ (only_of_below (Hid.out (by go_split_ands; assumption)) _)).mono ?_; rintro e w1 ⟨rfl, hb1⟩))
          have hBB : Below wr.heap.size wr w1 := Hid.out (by go_split_ands; assumption)
          have HRB1 := Lib.hid (HRB.out _ hBB)
          clear hBB
          go_wp2
          go_roundw
          case rel => exact ⟨h + 1, r, by go_num, rfl, by omega, by omega, by omega, by omega, by omega, HRB1.out.1, HRB1.out.2, ⟨fun _ _ => by rw [show h + 1 - 1 = h by omega]; exact HRES.out, HI.out.2⟩⟩
          case measure => simp [intOf]; omega
      · obtain rfl : st = r := by omega
        have hltz : ¬ (st : Int) < (st : Int) := by omega
        obtain ⟨en, hen⟩ : ∃ en : Nat, en = mid + m - st := ⟨_, rfl⟩
        have hez : (mid : Int) + m - st = (en : Int) := by omega
        have hen2 : en ≤ b := by omega
        have hen3 : m ≤ en := by omega
        have hcut := merge_cut O HP.out hm1 hm2 hsa hrm hrd hen hen2 (by rw [hen]; exact HI.out.1) (by rw [hen]; exact HI.out.2)
        have hpr : PermOn a b s (rotG s st m en) := (perm_rot s st m en hrm hen3).widen hsa hen2
        have HCUT := Lib.hid hcut; have HPR := Lib.hid hpr; clear hcut hpr HI
        have HEN := Lib.hid hen; clear hen
        have HEZ := Lib.hid hez
        by_cases hA : st < m
        · have hB : st < mid := by omega
          have hrt := fun W h => rotate_any (.func (.func 36) #[] #[]) g n cap st m en (fun i => f (s i)) W h hA (by omega) (by omega) hn
          have HROT := Lib.hid hrt; clear hrt
          go_wp2_with fail
          refine (HROT.out _ HRk.out).mono ?_
          rintro e W1 ⟨rfl, hr1, hg1⟩
          rw [rotG_comp] at hr1
          have HR1 := Lib.hid hr1; have HG1 := Lib.hid (HG.out.trans hg1); clear hr1 hg1
          by_cases hC : a < st
          · have hih := HIH.out a st mid (rotG s st m en) (by omega) _ HR1.out (HC.out.later HG1.out) (HPR.out.lt hb HS0.out) (HCUT.out.2.1 hC (by omega)) (by omega)
            have HLC := Lib.hid hih; clear hih
            go_wp2_with fail
            refine HLC.out.mono ?_
            rintro e W2 ⟨rfl, hg2, s2, hp2, hs2, hr2⟩
            have HR2 := Lib.hid hr2; have HG2 := Lib.hid (HG1.out.trans hg2); have HP2 := Lib.hid hp2; have HS2 := Lib.hid hs2; clear hr2 hg2 hp2 hs2 HLC
            by_cases hD : en < b
            · have hih := HIH.out mid en b s2 (by omega) _ HR2.out (HC.out.later HG2.out) (HP2.out.lt (by omega) (HPR.out.lt hb HS0.out)) ((HCUT.out.2.2.2.1 (by omega) hD).congr fun i h1 _ => HP2.out.out (by omega)) (by omega)
              have HLD := Lib.hid hih; clear hih
              go_wp2_with fail
              refine HLD.out.mono ?_
              rintro e W3 ⟨rfl, hg3, s3, hp3, hs3, hr3⟩
              have HFIN := Lib.hid (merge_end (by omega) (by omega) HPR.out HCUT.out.1 HP2.out HS2.out hp3 hs3)
              have HR3 := Lib.hid hr3; have HG3 := Lib.hid (HG2.out.trans hg3); clear hr3 hg3 hp3 hs3
              go_wp2
              all_goals
                go_end0
                exact ⟨rfl, HG3.out, s3, HFIN.out.1, HFIN.out.2, HR3.out⟩
            · have HFIN := Lib.hid (merge_end (by omega) (by omega) HPR.out HCUT.out.1 HP2.out HS2.out (PermOn.refl _ _ _) ((HCUT.out.2.2.2.2 (by omega)).congr fun i h1 _ => HP2.out.out (by omega)))
              go_wp2
              all_goals
                go_end0
                exact ⟨rfl, HG2.out, s2, HFIN.out.1, HFIN.out.2, HR2.out⟩
          · obtain ⟨s2, hs2e⟩ : ∃ s2, s2 = rotG s st m en := ⟨_, rfl⟩
            have HP2 : Hid (PermOn a mid (rotG s st m en) s2) := by rw [hs2e]; exact PermOn.refl _ _ _
            have HS2 : Hid (SortedOn L a mid s2) := by rw [hs2e]; exact HCUT.out.2.2.1 (by omega)
            have HR2 := HR1; have HG2 := HG1
            rw [← hs2e] at HR2
            clear hs2e
            by_cases hD : en < b
            · have hih := HIH.out mid en b s2 (by omega) _ HR2.out (HC.out.later HG2.out) (HP2.out.lt (by omega) (HPR.out.lt hb HS0.out)) ((HCUT.out.2.2.2.1 (by omega) hD).congr fun i h1 _ => HP2.out.out (by omega)) (by omega)
              have HLD := Lib.hid hih; clear hih
              go_wp2_with fail
              refine HLD.out.mono ?_
              rintro e W3 ⟨rfl, hg3, s3, hp3, hs3, hr3⟩
              have HFIN := Lib.hid (merge_end (by omega) (by omega) HPR.out HCUT.out.1 HP2.out HS2.out hp3 hs3)
              have HR3 := Lib.hid hr3; have HG3 := Lib.hid (HG2.out.trans hg3); clear hr3 hg3 hp3 hs3
              go_wp2
              all_goals
                go_end0
                exact ⟨rfl, HG3.out, s3, HFIN.out.1, HFIN.out.2, HR3.out⟩
            · have HFIN := Lib.hid (merge_end (by omega) (by omega) HPR.out HCUT.out.1 HP2.out HS2.out (PermOn.refl _ _ _) ((HCUT.out.2.2.2.2 (by omega)).congr fun i h1 _ => HP2.out.out (by omega)))
              go_wp2
              all_goals
                go_end0
                exact ⟨rfl, HG2.out, s2, HFIN.out.1, HFIN.out.2, HR2.out⟩
        · by_cases hB : st < mid
          · have _u := hA
            have hee : st = m := by omega
            have HR1 : Hid (RowF wr g n (fun i => f (rotG s st m en i))) := by
              have e : rotG s st m en = s := by rw [hee]; exact rotG_right s _ _
              rw [e]; exact HRk
            have HEE := Lib.hid hee; clear hee
            have HG1 := HG
            by_cases hC : a < st
            · have hih := HIH.out a st mid (rotG s st m en) (by omega) _ HR1.out (HC.out.later HG1.out) (HPR.out.lt hb HS0.out) (HCUT.out.2.1 hC (by omega)) (by omega)
              have HLC := Lib.hid hih; clear hih
              go_wp2_with fail
              refine HLC.out.mono ?_
              rintro e W2 ⟨rfl, hg2, s2, hp2, hs2, hr2⟩
              have HR2 := Lib.hid hr2; have HG2 := Lib.hid (HG1.out.trans hg2); have HP2 := Lib.hid hp2; have HS2 := Lib.hid hs2; clear hr2 hg2 hp2 hs2 HLC
              have HFIN := Lib.hid (merge_end (by omega) (by omega) HPR.out HCUT.out.1 HP2.out HS2.out (PermOn.refl _ _ _) ((HCUT.out.2.2.2.2 (by omega)).congr fun i h1 _ => HP2.out.out (by omega)))
              go_wp2
              all_goals
                go_end0
                exact ⟨rfl, HG2.out, s2, HFIN.out.1, HFIN.out.2, HR2.out⟩
            · obtain ⟨s2, hs2e⟩ : ∃ s2, s2 = rotG s st m en := ⟨_, rfl⟩
              have HP2 : Hid (PermOn a mid (rotG s st m en) s2) := by rw [hs2e]; exact PermOn.refl _ _ _
              have HS2 : Hid (SortedOn L a mid s2) := by rw [hs2e]; exact HCUT.out.2.2.1 (by omega)
              have HR2 := HR1; have HG2 := HG1
              rw [← hs2e] at HR2
              clear hs2e
              have HFIN := Lib.hid (merge_end (by omega) (by omega) HPR.out HCUT.out.1 HP2.out HS2.out (PermOn.refl _ _ _) ((HCUT.out.2.2.2.2 (by omega)).congr fun i h1 _ => HP2.out.out (by omega)))
              go_wp2
              all_goals
                go_end0
                exact ⟨rfl, HG2.out, s2, HFIN.out.1, HFIN.out.2, HR2.out⟩
          · have _u := hA
            have hee : st = m := by omega
            have HR1 : Hid (RowF wr g n (fun i => f (rotG s st m en i))) := by
              have e : rotG s st m en = s := by rw [hee]; exact rotG_right s _ _
              rw [e]; exact HRk
            have HEE := Lib.hid hee; clear hee
            have HG1 := HG
            obtain ⟨s2, hs2e⟩ : ∃ s2, s2 = rotG s st m en := ⟨_, rfl⟩
            have HP2 : Hid (PermOn a mid (rotG s st m en) s2) := by rw [hs2e]; exact PermOn.refl _ _ _
            have HS2 : Hid (SortedOn L a mid s2) := by rw [hs2e]; exact HCUT.out.2.2.1 (by omega)
            have HR2 := HR1; have HG2 := HG1
            rw [← hs2e] at HR2
            clear hs2e
            have HFIN := Lib.hid (merge_end (by omega) (by omega) HPR.out HCUT.out.1 HP2.out HS2.out (PermOn.refl _ _ _) ((HCUT.out.2.2.2.2 (by omega)).congr fun i h1 _ => HP2.out.out (by omega)))
            go_wp2
            all_goals
              go_end0
              exact ⟨rfl, HG2.out, s2, HFIN.out.1, HFIN.out.2, HR2.out⟩

theorem sym_any (g n cap : Nat) (f : Nat → VerV) (cf : Nat → Nat → Int) (L : Nat → Nat → Prop) (O : LexOrd (ltOf cf) L) (hn : n ≤ 1000000) :
    ∀ (d a m b : Nat) (s : Nat → Nat), b - a ≤ d → ∀ W : World, RowF W g n (fun i => f (s i)) → CmpOK W g n f cf → (∀ i, i < n → s i < n) → Pre (ltOf cf) L s a m b → b ≤ n →
      Calls Try.prog 65 #[.slice (some ⟨g, 0, none⟩) n cap, .int .i64 a, .int .i64 m, .int .i64 b, .func (.func 36) #[] #[]] W (SymPost g n a b f L s W) := by
  intro d
  induction d with
  | zero => intro a m b s hd W _ _ _ hp _; have := hp.am; have := hp.mb; omega
  | succ d ih =>
    intro a m b s hd W hr hc hs hp hb
    by_cases h1 : m = a + 1
    · subst h1; exact sym_left g n cap a b f cf L O s W hr hc hs hp hb hn
    · by_cases h2 : b = m + 1
      · subst h2; exact sym_right g n cap a m f cf L O s W hr hc hs hp hb hn h1
      · exact sym_main g n cap a m b f cf L O s W hr hc hs hp hb hn h1 h2 fun a' m' b' s' hlt => ih a' m' b' s' (by omega)

end Go.Proofs.Ythicjpkomigacaa
