/- slices.symMergeCmpFunc at versions, by fold.order: its three ways. (Printed by gen_sym.py.) -/
import Derived.Test.YthicjpkomigacaaRot
import Derived.Test.YthicjpkomigacaaIns
namespace Go.Proofs.Ythicjpkomigacaa
open Go.RowKit

def SymPost (g n a b : Nat) (f : Nat → VerV) (L : Nat → Nat → Prop) (s : Nat → Nat) (w : World) (e : Ending) (w' : World) : Prop :=
  e = .returned (.tuple #[]) ∧ w.grownBy w' (some g) ∧ ∃ s', PermOn a b s s' ∧ SortedOn L a b s' ∧ RowF w' g n (fun i => f (s' i))

set_option maxRecDepth 100000 in
set_option maxHeartbeats 6400000 in
theorem sym_left (g n cap a b : Nat) (f : Nat → VerV) (cf : Nat → Nat → Int) (L : Nat → Nat → Prop) (O : LexOrd (ltOf cf) L) (s : Nat → Nat) (w : World)
    (hrow : RowF w g n (fun i => f (s i))) (hc : CmpOK w g n f cf) (hs0 : ∀ i, i < n → s i < n) (hpre : Pre (ltOf cf) L s a (a + 1) b) (hb : b ≤ n) (hn : n ≤ 1000000) :
    Calls Try.prog 65 #[.slice (some ⟨g, 0, none⟩) n cap, .int .i64 a, .int .i64 (a + 1 : Nat), .int .i64 b, .func (.func 36) #[] #[]] w (SymPost g n a b f L s w) := by
  have hsf := run_store_float Try.prog
  have hmb := hpre.mb
  have HR := Lib.hid hrow; have HC := Lib.hid hc; have HS0 := Lib.hid hs0; have HP := Lib.hid hpre
  clear hrow hc hs0 hpre
  have h1 : (((a + 1 : Nat) : Int) - a == 1) = true := by rw [beq_iff_eq]; omega
  have h2 : ((a + 1 : Nat) : Int) = (a : Int) + 1 := by omega
  rw [h2] at h1 ⊢
  have H2 := Lib.hid h2; clear h2
  go_enter Try.func65, Try.ntmps65
  go_wp2
  go_loopw [10, 11, 12] (fun vi vj vh wr => ∃ i j : Nat, vi = .int .i64 i ∧ vj = .int .i64 j ∧ a + 1 ≤ i ∧ i ≤ j ∧ j ≤ b ∧ Hid (RowF wr g n (fun i => f (s i))) ∧ Hid (w.grownBy wr (some g)) ∧ Hid ((a + 1 < i → ltOf cf (s (i - 1)) (s a) = true) ∧ (j < b → ltOf cf (s j) (s a) = false))) (fun vi vj _ _ => (intOf vj).toNat - (intOf vi).toNat)
  case atStart => exact ⟨a + 1, b, by go_num, rfl, by omega, by omega, by omega, HR, World.grownBy.refl _ _, ⟨fun h => by omega, fun h => by omega⟩⟩
  case round =>
    obtain ⟨i, j, rfl, rfl, hai, hij, hjb, HRk, HG, HI⟩ := hrel
    by_cases hlt : i < j
    · have hltz : (i : Int) < (j : Int) := by omega
      obtain ⟨h, hh⟩ : ∃ h : Nat, h = (i + j) / 2 := ⟨_, rfl⟩
      have hh1 : i ≤ h := by omega
      have hh2 : h < j := by omega
      have hz : ((i : Int) + j) / 2 = (h : Int) := by omega
      have HZ := Lib.hid hz; clear hz hh
      have hx := (HRk.out (h) (by omega)).facts
      have hy := (HRk.out (a) (by omega)).facts
      have hcc := fun W hW => HC.out (s (h)) (s (a)) (HS0.out _ (by omega)) (HS0.out _ (by omega)) W (HG.out.trans hW)
      have hgw : g < wr.heap.size := World.block_lt_of_cell? wr _ hx.1.1
      have hrb := fun (W : World) (hW : Below wr.heap.size wr W) => And.intro (HRk.out.below hgw hW) (only_below HG.out hW)
      have HRB := Lib.hid hrb; clear hrb
      dsimp only at hx hy
      generalize f (s (h)) = x at hx hcc
      generalize f (s (a)) = y at hy hcc
      generalize hcv : cf (s (h)) (s (a)) = c at hcc
      have HCC := Lib.hid hcc; have HCV := Lib.hid hcv
      clear hcc hcv
      obtain ⟨⟨x0, x1, x2, x3, x4, x5, x6, x7⟩, z0, z1, z2, z3, z4, z5, z6, z7⟩ := hx
      obtain ⟨⟨y0, y1, y2, y3, y4, y5, y6, y7⟩, u0, u1, u2, u3, u4, u5, u6, u7⟩ := hy
      clear z0 z1 z2 z3 z4 z5 z6 z7 u0 u1 u2 u3 u4 u5 u6 u7
      simp only [VerV.cells] at HCC
      have HK := Lib.hid (keep_drew (N := wr.heap.size) (W := wr) (Nat.le_refl _))
      have i0 : (0 : Int) ≤ (h : Int) := by omega
      have i1 : (h : Int) < (n : Int) := by omega
      have i2 : (a : Int) < (n : Int) := by omega
      have i3 : (0 : Int) ≤ (a : Int) := by omega
      by_cases hcz : c < 0
      · have hczb : (decide (c < 0)) = true := by simpa using hcz
        have hres : ltOf cf (s h) (s a) = true := by unfold ltOf; rw [HCV.out]; exact hczb
        have HRES := Lib.hid hres; clear hres
        go_wp2_with fail
        rw [HZ.out]
        go_region_held3 (fun W' => (∀ b o, b < wr.heap.size → W'.cell? ⟨b, o, none⟩ = wr.cell? ⟨b, o, none⟩) ∧ Hid (Below wr.heap.size wr W') ∧ wr.heap.size ≤ W'.heap.size)
          (first
            | (exact HK.out)
            | (refine keep_step (by assumption) ?_; first | assumption | exact Below.refl _ _ | exact (Below.refl _ _).alloc (Nat.le_refl _) _))
          (first
            | (go_simp; go_at_call 36; refine (HCC.out _ (only_of_below (Hid.out (by go_split_ands; assumption)) _)).mono ?_; rintro e w1 ⟨rfl, hb1⟩))
        have hBB : Below wr.heap.size wr w1 := Hid.out (by go_split_ands; assumption)
        have HRB1 := Lib.hid (HRB.out _ hBB)
        clear hBB
        go_wp2
        go_roundw
        case rel => exact ⟨h + 1, j, by go_num, rfl, by omega, by omega, hjb, HRB1.out.1, HRB1.out.2, ⟨fun _ => by rw [show h + 1 - 1 = h by omega]; exact HRES.out, HI.out.2⟩⟩
        case measure => simp [intOf]; omega
      · have hczb : (decide (c < 0)) = false := by simpa using hcz
        have hres : ltOf cf (s h) (s a) = false := by unfold ltOf; rw [HCV.out]; exact hczb
        have HRES := Lib.hid hres; clear hres
        go_wp2_with fail
        rw [HZ.out]
        go_region_held3 (fun W' => (∀ b o, b < wr.heap.size → W'.cell? ⟨b, o, none⟩ = wr.cell? ⟨b, o, none⟩) ∧ Hid (Below wr.heap.size wr W') ∧ wr.heap.size ≤ W'.heap.size)
          (first
            | (exact HK.out)
            | (refine keep_step (by assumption) ?_; first | assumption | exact Below.refl _ _ | exact (Below.refl _ _).alloc (Nat.le_refl _) _))
          (first
            | (go_simp; go_at_call 36; refine (HCC.out _ (only_of_below (Hid.out (by go_split_ands; assumption)) _)).mono ?_; rintro e w1 ⟨rfl, hb1⟩))
        have hBB : Below wr.heap.size wr w1 := Hid.out (by go_split_ands; assumption)
        have HRB1 := Lib.hid (HRB.out _ hBB)
        clear hBB
        go_wp2
        go_roundw
        case rel => exact ⟨i, h, rfl, rfl, by omega, by omega, by omega, HRB1.out.1, HRB1.out.2, ⟨HI.out.1, fun _ => HRES.out⟩⟩
        case measure => simp [intOf]; omega
    · obtain rfl : i = j := by omega
      have hltz : ¬ (i : Int) < (i : Int) := by omega
      obtain ⟨wo, rfl⟩ : ∃ wo : World, wo = wr := ⟨_, rfl⟩
      have HFIN := Lib.hid (merge_one_left O HP.out hai hjb HI.out.1 HI.out.2)
      clear HI
      go_wp2
      go_loopw [13] (fun vk wr => ∃ k : Nat, vk = .int .i64 k ∧ a ≤ k ∧ k + 1 ≤ i ∧ Hid (RowF wr g n (fun q => f (rotG s a (a + 1) (k + 1) q))) ∧ Hid (w.grownBy wr (some g))) (fun vk _ => i - (intOf vk).toNat)
      case atStart => exact ⟨a, rfl, Nat.le_refl _, by omega, by rw [rotG_left]; exact HRk, HG⟩
      case round =>
        clear HRk HG
        obtain ⟨k, rfl, hak, hki, HRk, HG⟩ := hrel
        by_cases hlt : k + 1 < i
        · have hltz : (k : Int) < (i : Int) - 1 := by omega
          have hx := (HRk.out (k) (by omega)).facts
          have hy := (HRk.out (k + 1) (by omega)).facts
          have HSW := Lib.hid (swap_world HRk.out HG.out (k) (k + 1) (by omega) (by omega) (by omega) _ _ rfl rfl)
          rw [swpG_comp] at HSW
          dsimp only at hx hy HSW
          generalize f (rotG s a (a + 1) (k + 1) (k)) = x at hx HSW
          generalize f (rotG s a (a + 1) (k + 1) (k + 1)) = y at hy HSW
          obtain ⟨⟨x0, x1, x2, x3, x4, x5, x6, x7⟩, z0, z1, z2, z3, z4, z5, z6, z7⟩ := hx
          obtain ⟨⟨y0, y1, y2, y3, y4, y5, y6, y7⟩, u0, u1, u2, u3, u4, u5, u6, u7⟩ := hy
          rw [rotG_one_left s a k hak] at HSW
          have i0 : (0 : Int) ≤ (k : Int) + 1 := by omega
          have i1 : (k : Int) + 1 < (n : Int) := by omega
          have i2 : (k : Int) < (n : Int) := by omega
          have i3 : (0 : Int) ≤ (k : Int) := by omega
          have e0 : ((k : Int) + 1).toNat = k + 1 := by omega
          go_wp2_with fail
          go_region
          change Exit.inBlock _ _ _ _ (put8 (put8 wr g k y) g (k + 1) x).drew
          generalize (put8 (put8 wr g k y) g (k + 1) x).drew = W2 at HSW ⊢
          clear x0 x1 x2 x3 x4 x5 x6 x7 z0 z1 z2 z3 z4 z5 z6 z7 y0 y1 y2 y3 y4 y5 y6 y7 u0 u1 u2 u3 u4 u5 u6 u7
          go_wp2
          go_roundw
          case rel => exact ⟨k + 1, by go_num, by omega, by omega, HSW.out.1, HSW.out.2⟩
          case measure => simp [intOf]; omega
        · have hltz : ¬ (k : Int) < (i : Int) - 1 := by omega
          obtain rfl : i = k + 1 := by omega
          go_wp2
          refine bodyPost_ret (results_none rfl _ _ _) rfl ?_
          exact ⟨rfl, HG.out, _, (perm_rot s a (a + 1) (k + 1) (by omega) (by omega)).widen (Nat.le_refl _) (by omega), HFIN.out, HRk.out⟩

set_option maxRecDepth 100000 in
set_option maxHeartbeats 6400000 in
theorem sym_right (g n cap a m : Nat) (f : Nat → VerV) (cf : Nat → Nat → Int) (L : Nat → Nat → Prop) (O : LexOrd (ltOf cf) L) (s : Nat → Nat) (w : World)
    (hrow : RowF w g n (fun i => f (s i))) (hc : CmpOK w g n f cf) (hs0 : ∀ i, i < n → s i < n) (hpre : Pre (ltOf cf) L s a m (m + 1)) (hb : m + 1 ≤ n) (hn : n ≤ 1000000) (hne : m ≠ a + 1) :
    Calls Try.prog 65 #[.slice (some ⟨g, 0, none⟩) n cap, .int .i64 a, .int .i64 m, .int .i64 (m + 1 : Nat), .func (.func 36) #[] #[]] w (SymPost g n a (m + 1) f L s w) := by
  have hsf := run_store_float Try.prog
  have ham := hpre.am
  have HR := Lib.hid hrow; have HC := Lib.hid hc; have HS0 := Lib.hid hs0; have HP := Lib.hid hpre
  clear hrow hc hs0 hpre
  have h0 : ((m : Int) - a == 1) = false := by rw [beq_eq_false_iff_ne]; omega
  have h1 : (((m + 1 : Nat) : Int) - m == 1) = true := by rw [beq_iff_eq]; omega
  have h2 : ((m + 1 : Nat) : Int) = (m : Int) + 1 := by omega
  rw [h2] at h1 ⊢
  have H2 := Lib.hid h2; have HNE := Lib.hid hne; clear h2 hne
  go_enter Try.func65, Try.ntmps65
  go_wp2
  go_loopw [14, 15, 16] (fun vi vj vh wr => ∃ i j : Nat, vi = .int .i64 i ∧ vj = .int .i64 j ∧ a ≤ i ∧ i ≤ j ∧ j ≤ m ∧ Hid (RowF wr g n (fun i => f (s i))) ∧ Hid (w.grownBy wr (some g)) ∧ Hid ((a < i → ltOf cf (s m) (s (i - 1)) = false) ∧ (j < m → ltOf cf (s m) (s j) = true))) (fun vi vj _ _ => (intOf vj).toNat - (intOf vi).toNat)
  case atStart => exact ⟨a, m, rfl, rfl, by omega, by omega, by omega, HR, World.grownBy.refl _ _, ⟨fun h => by omega, fun h => by omega⟩⟩
  case round =>
    obtain ⟨i, j, rfl, rfl, hai, hij, hjb, HRk, HG, HI⟩ := hrel
    by_cases hlt : i < j
    · have hltz : (i : Int) < (j : Int) := by omega
      obtain ⟨h, hh⟩ : ∃ h : Nat, h = (i + j) / 2 := ⟨_, rfl⟩
      have hh1 : i ≤ h := by omega
      have hh2 : h < j := by omega
      have hz : ((i : Int) + j) / 2 = (h : Int) := by omega
      have HZ := Lib.hid hz; clear hz hh
      have hx := (HRk.out (m) (by omega)).facts
      have hy := (HRk.out (h) (by omega)).facts
      have hcc := fun W hW => HC.out (s (m)) (s (h)) (HS0.out _ (by omega)) (HS0.out _ (by omega)) W (HG.out.trans hW)
      have hgw : g < wr.heap.size := World.block_lt_of_cell? wr _ hx.1.1
      have hrb := fun (W : World) (hW : Below wr.heap.size wr W) => And.intro (HRk.out.below hgw hW) (only_below HG.out hW)
      have HRB := Lib.hid hrb; clear hrb
      dsimp only at hx hy
      generalize f (s (m)) = x at hx hcc
      generalize f (s (h)) = y at hy hcc
      generalize hcv : cf (s (m)) (s (h)) = c at hcc
      have HCC := Lib.hid hcc; have HCV := Lib.hid hcv
      clear hcc hcv
      obtain ⟨⟨x0, x1, x2, x3, x4, x5, x6, x7⟩, z0, z1, z2, z3, z4, z5, z6, z7⟩ := hx
      obtain ⟨⟨y0, y1, y2, y3, y4, y5, y6, y7⟩, u0, u1, u2, u3, u4, u5, u6, u7⟩ := hy
      clear z0 z1 z2 z3 z4 z5 z6 z7 u0 u1 u2 u3 u4 u5 u6 u7
      simp only [VerV.cells] at HCC
      have HK := Lib.hid (keep_drew (N := wr.heap.size) (W := wr) (Nat.le_refl _))
      have i0 : (0 : Int) ≤ (h : Int) := by omega
      have i1 : (h : Int) < (n : Int) := by omega
      have i2 : (m : Int) < (n : Int) := by omega
      have i3 : (0 : Int) ≤ (m : Int) := by omega
      by_cases hcz : c < 0
      · have hczb : (decide (c < 0)) = true := by simpa using hcz
        have hres : ltOf cf (s m) (s h) = true := by unfold ltOf; rw [HCV.out]; exact hczb
        have HRES := Lib.hid hres; clear hres
        go_wp2_with fail
        rw [HZ.out]
        go_region_held3 (fun W' => (∀ b o, b < wr.heap.size → W'.cell? ⟨b, o, none⟩ = wr.cell? ⟨b, o, none⟩) ∧ Hid (Below wr.heap.size wr W') ∧ wr.heap.size ≤ W'.heap.size)
          (first
            | (exact HK.out)
            | (refine keep_step (by assumption) ?_; first | assumption | exact Below.refl _ _ | exact (Below.refl _ _).alloc (Nat.le_refl _) _))
          (first
            | (go_simp; go_at_call 36; refine (HCC.out _ (only_of_below (Hid.out (by go_split_ands; assumption)) _)).mono ?_; rintro e w1 ⟨rfl, hb1⟩))
        have hBB : Below wr.heap.size wr w1 := Hid.out (by go_split_ands; assumption)
        have HRB1 := Lib.hid (HRB.out _ hBB)
        clear hBB
        go_wp2
        go_roundw
        case rel => exact ⟨i, h, rfl, rfl, by omega, by omega, by omega, HRB1.out.1, HRB1.out.2, ⟨HI.out.1, fun _ => HRES.out⟩⟩
        case measure => simp [intOf]; omega
      · have hczb : (decide (c < 0)) = false := by simpa using hcz
        have hres : ltOf cf (s m) (s h) = false := by unfold ltOf; rw [HCV.out]; exact hczb
        have HRES := Lib.hid hres; clear hres
        go_wp2_with fail
        rw [HZ.out]
        go_region_held3 (fun W' => (∀ b o, b < wr.heap.size → W'.cell? ⟨b, o, none⟩ = wr.cell? ⟨b, o, none⟩) ∧ Hid (Below wr.heap.size wr W') ∧ wr.heap.size ≤ W'.heap.size)
          (first
            | (exact HK.out)
            | (refine keep_step (by assumption) ?_; first | assumption | exact Below.refl _ _ | exact (Below.refl _ _).alloc (Nat.le_refl _) _))
          (first
            | (go_simp; go_at_call 36; refine (HCC.out _ (only_of_below (Hid.out (by go_split_ands; assumption)) _)).mono ?_; rintro e w1 ⟨rfl, hb1⟩))
        have hBB : Below wr.heap.size wr w1 := Hid.out (by go_split_ands; assumption)
        have HRB1 := Lib.hid (HRB.out _ hBB)
        clear hBB
        go_wp2
        go_roundw
        case rel => exact ⟨h + 1, j, by go_num, rfl, by omega, by omega, hjb, HRB1.out.1, HRB1.out.2, ⟨fun _ => by rw [show h + 1 - 1 = h by omega]; exact HRES.out, HI.out.2⟩⟩
        case measure => simp [intOf]; omega
    · obtain rfl : i = j := by omega
      have hltz : ¬ (i : Int) < (i : Int) := by omega
      obtain ⟨wo, rfl⟩ : ∃ wo : World, wo = wr := ⟨_, rfl⟩
      have HFIN := Lib.hid (merge_one_right O HP.out hai hjb HI.out.1 HI.out.2)
      clear HI
      go_wp2
      go_loopw [17] (fun vk wr => ∃ k : Nat, vk = .int .i64 k ∧ i ≤ k ∧ k ≤ m ∧ Hid (RowF wr g n (fun q => f (rotG s k m (m + 1) q))) ∧ Hid (w.grownBy wr (some g))) (fun vk _ => (intOf vk).toNat - i)
      case atStart => exact ⟨m, rfl, by omega, Nat.le_refl _, by rw [rotG_right]; exact HRk, HG⟩
      case round =>
        clear HRk HG
        obtain ⟨k, rfl, hik, hkm, HRk, HG⟩ := hrel
        by_cases hlt : i < k
        · obtain ⟨k, rfl⟩ : ∃ q, k = q + 1 := ⟨k - 1, by omega⟩
          have hltz : (i : Int) < (k : Int) + 1 := by omega
          have hx := (HRk.out (k + 1) (by omega)).facts
          have hy := (HRk.out (k) (by omega)).facts
          have HSW := Lib.hid (swap_world HRk.out HG.out (k + 1) (k) (by omega) (by omega) (by omega) _ _ rfl rfl)
          rw [swpG_comp] at HSW
          dsimp only at hx hy HSW
          generalize f (rotG s (k + 1) m (m + 1) (k + 1)) = x at hx HSW
          generalize f (rotG s (k + 1) m (m + 1) (k)) = y at hy HSW
          obtain ⟨⟨x0, x1, x2, x3, x4, x5, x6, x7⟩, z0, z1, z2, z3, z4, z5, z6, z7⟩ := hx
          obtain ⟨⟨y0, y1, y2, y3, y4, y5, y6, y7⟩, u0, u1, u2, u3, u4, u5, u6, u7⟩ := hy
          rw [rotG_one_right s k m (by omega)] at HSW
          have i0 : (0 : Int) ≤ (k : Int) + 1 := by omega
          have i1 : (k : Int) + 1 < (n : Int) := by omega
          have i2 : (k : Int) < (n : Int) := by omega
          have i3 : (0 : Int) ≤ (k : Int) := by omega
          have e0 : ((k : Int) + 1).toNat = k + 1 := by omega
          have hwp : IntKind.i64.wrap (k : Int) = (k : Int) := by rw [IntKind.wrap_i64]; omega
          go_wp2_with fail
          go_region
          change Exit.inBlock _ _ _ _ (put8 (put8 wr g (k + 1) y) g k x).drew
          generalize (put8 (put8 wr g (k + 1) y) g k x).drew = W2 at HSW ⊢
          clear x0 x1 x2 x3 x4 x5 x6 x7 z0 z1 z2 z3 z4 z5 z6 z7 y0 y1 y2 y3 y4 y5 y6 y7 u0 u1 u2 u3 u4 u5 u6 u7
          go_wp2
          go_roundw
          case rel => exact ⟨k, by go_num, by omega, by omega, HSW.out.1, HSW.out.2⟩
          case measure => simp [intOf]; omega
        · have hltz : ¬ (i : Int) < (k : Int) := by omega
          obtain rfl : i = k := by omega
          go_wp2
          refine bodyPost_ret (results_none rfl _ _ _) rfl ?_
          exact ⟨rfl, HG.out, _, (perm_rot s i m (m + 1) (by omega) (by omega)).widen (by omega) (Nat.le_refl _), HFIN.out, HRk.out⟩

end Go.Proofs.Ythicjpkomigacaa
