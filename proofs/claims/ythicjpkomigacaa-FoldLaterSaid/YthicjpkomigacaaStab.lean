/- slices.stableCmpFunc, slices.SortStableFunc at versions, by fold.order. -/
import Derived.Test.YthicjpkomigacaaSymM
import Derived.Test.YthicjpkomigacaaSortQ
namespace Go.Proofs.Ythicjpkomigacaa
open Go.RowKit

set_option maxRecDepth 100000 in
set_option maxHeartbeats 6400000 in
theorem stable_any (g n cap : Nat) (f : Nat → VerV) (cf : Nat → Nat → Int) (L : Nat → Nat → Prop) (O : LexOrd (ltOf cf) L) (w : World)
    (hrow : RowF w g n f) (hc : CmpOK w g n f cf) (hn : n ≤ 100000) :
    Calls Try.prog 51 #[.slice (some ⟨g, 0, none⟩) n cap, .int .i64 n, .func (.func 36) #[] #[]] w fun e w' =>
      e = .returned (.tuple #[]) ∧ w.grownBy w' (some g) ∧ ∃ s, PermOn 0 n (fun i => i) s ∧ SortedOn L 0 n s ∧ RowF w' g n (fun i => f (s i)) := by
  have HR : Hid (RowF w g n (fun i => f ((fun i => i) i))) := hrow
  have HC := Lib.hid hc
  clear hrow hc
  have HID : ∀ i, i < n → (fun i : Nat => i) i < n := fun i hi => hi
  have HID0 := Lib.hid HID; clear HID
  go_enter Try.func51, Try.ntmps51
  go_wp2
  go_loopw [7, 8] (fun va vb wr => ∃ (t p q : Nat) (s : Nat → Nat), va = .int .i64 p ∧ vb = .int .i64 q ∧ Hid (p = t * 20) ∧ Hid (q = p + 20) ∧ p ≤ n ∧ Hid (RowF wr g n (fun i => f (s i))) ∧ Hid (w.grownBy wr (some g)) ∧ Hid (PermOn 0 n (fun i => i) s) ∧ Hid (FirstB L s t)) (fun _ vb _ => n + 20 - (intOf vb).toNat)
  case atStart => exact ⟨0, 0, 20, fun i => i, rfl, rfl, rfl, rfl, by omega, HR, World.grownBy.refl _ _, PermOn.refl _ _ _, ⟨fun k hk => by omega, fun _ _ => rfl⟩⟩
  case round =>
    obtain ⟨t, p, q, s, rfl, rfl, hp, hq, hpn, HRk, HG, HP, HF⟩ := hrel
    have hq0 : q ≤ 200000 := by have := hq.out; omega
    by_cases hlt : q ≤ n
    · have hltz : (q : Int) ≤ (n : Int) := by omega
      have hih := insertion_any g n cap p q f cf L O s _ HRk.out (HC.out.later HG.out) (HP.out.lt (Nat.le_refl _) HID0.out) (fun x y h1 h2 h3 => by have := hp.out; rw [HF.out.rest x (by omega), HF.out.rest y (by omega)]; exact h2) (by have := hq.out; omega) hlt (by omega)
      have HIH := Lib.hid hih; clear hih
      go_wp2_with fail
      refine HIH.out.mono ?_
      rintro e W1 ⟨rfl, hg1, s1, hp1, hs1, hr1⟩
      have hp1' : PermOn (t * 20) (t * 20 + 20) s s1 := by have e1 := hp.out; have e2 := hq.out; subst e2; subst e1; exact hp1
      have hs1' : SortedOn L (t * 20) (t * 20 + 20) s1 := by have e1 := hp.out; have e2 := hq.out; subst e2; subst e1; exact hs1
      have HR1 := Lib.hid hr1; have HG1 := Lib.hid (HG.out.trans hg1); have HP1 := Lib.hid (HP.out.trans (hp1.widen (Nat.zero_le _) hlt)); have HF1 := Lib.hid (HF.out.step hp1' hs1'); clear hr1 hg1 hp1 hs1 hp1' hs1'
      go_wp2
      go_roundw
      case rel => exact ⟨t + 1, q, q + 20, s1, rfl, by go_num, (show _ = _ by have := hp.out; have := hq.out; omega), rfl, hlt, HR1, HG1, HP1, HF1⟩
      case measure => simp [intOf]; omega
    · have hltz : ¬ (q : Int) ≤ (n : Int) := by omega
      have hih := insertion_any g n cap p n f cf L O s _ HRk.out (HC.out.later HG.out) (HP.out.lt (Nat.le_refl _) HID0.out) (fun x y h1 h2 h3 => by have := hp.out; rw [HF.out.rest x (by omega), HF.out.rest y (by omega)]; exact h2) hpn (Nat.le_refl _) (by omega)
      have HIH := Lib.hid hih; clear hih
      obtain ⟨wo, rfl⟩ : ∃ wo : World, wo = wr := ⟨_, rfl⟩
      go_wp2_with fail
      refine HIH.out.mono ?_
      rintro e W1 ⟨rfl, hg1, s1, hp1, hs1, hr1⟩
      have hp1' : PermOn (t * 20) n s s1 := by have e1 := hp.out; subst e1; exact hp1
      have hs1' : SortedOn L (t * 20) n s1 := by have e1 := hp.out; subst e1; exact hs1
      have HR1 := Lib.hid hr1; have HG1 := Lib.hid (HG.out.trans hg1); have HP1 := Lib.hid (HP.out.trans (hp1.widen (Nat.zero_le _) (Nat.le_refl _))); have HF1 := Lib.hid (HF.out.last (by have := hp.out; omega) (by have := hp.out; have := hq.out; omega) hp1' hs1'); clear hr1 hg1 hp1 hs1 hp1' hs1'
      clear HRk HG HP HF HIH hp hq
      go_wp2
      go_loopw [6, 7, 8, 9] (fun vz va vb vm wr => ∃ (z : Nat) (s : Nat → Nat), vz = .int .i64 z ∧ 0 < z ∧ z ≤ 2 * n + 20 ∧ Hid (RowF wr g n (fun i => f (s i))) ∧ Hid (w.grownBy wr (some g)) ∧ Hid (PermOn 0 n (fun i => i) s) ∧ Hid (AllB L s n z)) (fun vz _ _ _ _ => n - (intOf vz).toNat)
      case atStart => exact ⟨20, s1, rfl, by omega, by omega, HR1, HG1, HP1, HF1⟩
      case round =>
        clear HR1 HG1 HP1 HF1
        obtain ⟨z, s, rfl, hz0, hzn, HRk, HG, HP, HF⟩ := hrel
        by_cases hlt : z < n
        · have hltz : (z : Int) < (n : Int) := by omega
          go_wp2
          obtain ⟨wo, rfl⟩ : ∃ wo : World, wo = wr := ⟨_, rfl⟩
          go_loopw [7, 8] (fun va vb wr => ∃ (t : Nat) (s : Nat → Nat), va = .int .i64 ((t * (2 * z) : Nat) : Int) ∧ vb = .int .i64 ((t * (2 * z) + 2 * z : Nat) : Int) ∧ t * (2 * z) ≤ n ∧ Hid (RowF wr g n (fun i => f (s i))) ∧ Hid (w.grownBy wr (some g)) ∧ Hid (PermOn 0 n (fun i => i) s) ∧ Hid (MidB L s n z t)) (fun _ vb _ => n + 2 * z - (intOf vb).toNat)
          case atStart => exact ⟨0, s, by go_num, by go_num, by omega, HRk, HG, HP, MidB.start HF.out⟩
          case round =>
            clear HRk HG HP HF
            obtain ⟨t, s, rfl, rfl, htn, HRk, HG, HP, HM⟩ := hrel
            have e2 : (t + 1) * (2 * z) = t * (2 * z) + 2 * z := by rw [Nat.add_mul, Nat.one_mul]
            have em : ((t * (2 * z) + z : Nat) : Int) = ((t * (2 * z) : Nat) : Int) + z := by omega
            have eb : ((t * (2 * z) + 2 * z : Nat) : Int) = ((t * (2 * z) : Nat) : Int) + 2 * z := by omega
            have b1 : 0 ≤ ((t * (2 * z) : Nat) : Int) := by omega
            have b2 : ((t * (2 * z) : Nat) : Int) ≤ 100000 := by omega
            have b3 : (z : Int) ≤ 100000 := by omega
            by_cases hlt2 : t * (2 * z) + 2 * z ≤ n
            · have hltz2 : ((t * (2 * z) : Nat) : Int) + 2 * z ≤ (n : Int) := by omega
              have hih := sym_any g n cap f cf L O (by omega) _ (t * (2 * z)) (t * (2 * z) + z) (t * (2 * z) + 2 * z) s (Nat.le_refl _) _ HRk.out (HC.out.later HG.out) (HP.out.lt (Nat.le_refl _) HID0.out) (HM.out.pre hz0 (by omega) hlt2 (Nat.le_refl _) (.inr rfl)) hlt2
              rw [em, eb] at hih
              rw [eb]
              have HIH := Lib.hid hih; clear hih
              have EM := Lib.hid em; have EB := Lib.hid eb; have E2 := Lib.hid e2; clear em eb e2
              generalize hA : ((t * (2 * z) : Nat) : Int) = A at *
              have HA := Lib.hid hA; clear hA
              go_wp2_with fail
              refine HIH.out.mono ?_
              rintro e W1 ⟨rfl, hg1, s1, hp1, hs1, hr1⟩
              have HR1 := Lib.hid hr1; have HG1 := Lib.hid (HG.out.trans hg1); have HP1 := Lib.hid (HP.out.trans (hp1.widen (Nat.zero_le _) hlt2)); have HM1 := Lib.hid (HM.out.step hz0 hlt2 hp1 hs1); clear hr1 hg1 hp1 hs1
              go_wp2
              go_roundw
              case rel => exact ⟨t + 1, s1, by rw [E2.out, EB.out], by rw [E2.out]; congr 1; have := HA.out; omega, by rw [E2.out]; exact hlt2, HR1, HG1, HP1, HM1⟩
              case measure => have := HA.out; simp [intOf]; omega
            · have hltz2 : ¬ ((t * (2 * z) : Nat) : Int) + 2 * z ≤ (n : Int) := by omega
              obtain ⟨wi, rfl⟩ : ∃ wi : World, wi = wr := ⟨_, rfl⟩
              by_cases hlt3 : t * (2 * z) + z < n
              · have hltz3 : ((t * (2 * z) : Nat) : Int) + z < (n : Int) := by omega
                have hih := sym_any g n cap f cf L O (by omega) _ (t * (2 * z)) (t * (2 * z) + z) n s (Nat.le_refl _) _ HRk.out (HC.out.later HG.out) (HP.out.lt (Nat.le_refl _) HID0.out) (HM.out.pre hz0 hlt3 (Nat.le_refl _) (by omega) (.inl rfl)) (Nat.le_refl _)
                rw [em] at hih
                rw [eb]
                have HIH := Lib.hid hih; clear hih
                have EM := Lib.hid em; have EB := Lib.hid eb; have E2 := Lib.hid e2; clear em eb e2
                generalize hA : ((t * (2 * z) : Nat) : Int) = A at *
                have HA := Lib.hid hA; clear hA
                go_wp2_with fail
                refine HIH.out.mono ?_
                rintro e W1 ⟨rfl, hg1, s1, hp1, hs1, hr1⟩
                have HR1 := Lib.hid hr1; have HG1 := Lib.hid (HG.out.trans hg1); have HP1 := Lib.hid (HP.out.trans (hp1.widen (Nat.zero_le _) (Nat.le_refl _))); have HM1 := Lib.hid (HM.out.last hz0 hlt3 (by omega) hp1 hs1); clear hr1 hg1 hp1 hs1
                go_wp2
                go_roundw
                case rel => exact ⟨2 * z, s1, by congr 1; omega, by omega, by omega, HR1, HG1, HP1, HM1⟩
                case measure => simp [intOf]; omega
              · have hltz3 : ¬ ((t * (2 * z) : Nat) : Int) + z < (n : Int) := by omega
                have HM1 := Lib.hid (HM.out.even hz0 hlt3 (by omega) htn)
                rw [eb]
                have EM := Lib.hid em; have EB := Lib.hid eb; have E2 := Lib.hid e2; clear em eb e2
                generalize hA : ((t * (2 * z) : Nat) : Int) = A at *
                have HA := Lib.hid hA; clear hA
                go_wp2
                go_roundw
                case rel => exact ⟨2 * z, s, by congr 1; omega, by omega, by omega, HRk, HG, HP, HM1⟩
                case measure => simp [intOf]; omega
        · have hltz : ¬ (z : Int) < (n : Int) := by omega
          have hsort : SortedOn L 0 n s := by
            by_cases h0 : 0 < n
            · have := HF.out 0 (by omega)
              rw [show 0 * z = 0 by omega, show min (0 + z) n = n by omega] at this
              exact this.2
            · exact fun i j h1 h2 h3 => by omega
          have HSO := Lib.hid hsort; clear hsort
          go_wp2
          go_end0
          exact ⟨rfl, HG.out, s, HP.out, HSO.out, HRk.out⟩

theorem sortStable_any (g n cap : Nat) (f : Nat → VerV) (cf : Nat → Nat → Int) (L : Nat → Nat → Prop) (O : LexOrd (ltOf cf) L) (w : World)
    (hrow : RowF w g n f) (hc : CmpOK w g n f cf) (hn : n ≤ 100000) :
    Calls Try.prog 35 #[.slice (some ⟨g, 0, none⟩) n cap, .func (.func 36) #[] #[]] w fun e w' =>
      e = .returned (.tuple #[]) ∧ w.grownBy w' (some g) ∧ ∃ s, PermOn 0 n (fun i => i) s ∧ SortedOn L 0 n s ∧ RowF w' g n (fun i => f (s i)) := by
  have HS := Lib.hid (stable_any g n cap f cf L O w hrow hc hn)
  go_enter Try.func35, Try.ntmps35
  go_wp2_with fail
  refine HS.out.mono ?_
  rintro e W1 ⟨rfl, h1, h2⟩
  have H1 := Lib.hid h1; have H2 := Lib.hid h2; clear h1 h2
  go_wp2
  go_end0
  exact ⟨rfl, H1.out, H2.out⟩

end Go.Proofs.Ythicjpkomigacaa
