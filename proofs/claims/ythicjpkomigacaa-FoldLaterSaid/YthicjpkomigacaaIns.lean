/- slices.insertionSortCmpFunc at versions, by fold.order. -/
import Derived.Test.YthicjpkomigacaaSwapR
import Derived.Deep.RegionHeld3
import Derived.Deep.LoopGhost
import Derived.BigQuiet
import Derived.Deep.QuietTactic
namespace Go.Proofs.Ythicjpkomigacaa
open Go.RowKit

/-- What the sort is told of the comparison: at whatever two of the n versions, in every world in which at most the row's block has turned. -/
def CmpOK (w0 : World) (g n : Nat) (f : Nat → VerV) (cf : Nat → Nat → Int) : Prop :=
  ∀ x y, x < n → y < n → ∀ W, w0.grownBy W (some g) →
    Calls Try.prog 36 #[.agg (f x).cells.toArray, .agg (f y).cells.toArray] W fun e w' => e = .returned (.int .i64 (cf x y)) ∧ Below W.heap.size W w'

def ltOf (cf : Nat → Nat → Int) (x y : Nat) : Bool := decide (cf x y < 0)

theorem CmpOK.later {w0 w1 : World} {g n : Nat} {f : Nat → VerV} {cf : Nat → Nat → Int} (h : CmpOK w0 g n f cf) (hg : w0.grownBy w1 (some g)) : CmpOK w1 g n f cf :=
  fun x y hx hy W hW => h x y hx hy W (hg.trans hW)

theorem PermOn.lt {a b n : Nat} {s s' : Nat → Nat} (h : PermOn a b s s') (hb : b ≤ n) (hs : ∀ i, i < n → s i < n) : ∀ i, i < n → s' i < n := fun i hi => by
  by_cases hin : a ≤ i ∧ i < b
  · obtain ⟨j, h1, h2, h3⟩ := h.mem hin.1 hin.2
    rw [h3]; exact hs j (by omega)
  · rw [h.out hin]; exact hs i hi

set_option maxRecDepth 100000 in
set_option maxHeartbeats 6400000 in
theorem insertion_any (g n cap a b : Nat) (f : Nat → VerV) (cf : Nat → Nat → Int) (L : Nat → Nat → Prop) (O : LexOrd (ltOf cf) L) (s0 : Nat → Nat) (w : World)
    (hrow : RowF w g n (fun i => f (s0 i))) (hc : CmpOK w g n f cf) (hs0 : ∀ i, i < n → s0 i < n) (ht : ∀ x y, a ≤ x → x < y → y < b → s0 x < s0 y) (hab : a ≤ b) (hb : b ≤ n) (hn : n ≤ 1000000) :
    Calls Try.prog 64 #[.slice (some ⟨g, 0, none⟩) n cap, .int .i64 a, .int .i64 b, .func (.func 36) #[] #[]] w fun e w' =>
      e = .returned (.tuple #[]) ∧ w.grownBy w' (some g) ∧ ∃ s, PermOn a b s0 s ∧ SortedOn L a b s ∧ RowF w' g n (fun i => f (s i)) := by
  have hsf := run_store_float Try.prog
  have HR := Lib.hid hrow; have HC := Lib.hid hc; have HS0 := Lib.hid hs0; have HT := Lib.hid ht
  clear hrow hc hs0 ht
  go_enter Try.func64, Try.ntmps64
  go_wp2
  go_loopg [8] (b - a) (fun g1 vi wr => ∃ (i : Nat) (s : Nat → Nat), vi = .int .i64 i ∧ a < i ∧ i ≤ b + 1 ∧ b + 1 - i ≤ g1 + 1 ∧ (i ≤ b ∨ Hid (s = s0)) ∧ Hid (RowF wr g n (fun i => f (s i))) ∧ Hid (w.grownBy wr (some g)) ∧ Hid (PermOn a i s0 s ∧ SortedOn L a i s))
  case atStart => exact ⟨a + 1, s0, by go_num, by omega, by omega, by omega, .inr rfl, HR, World.grownBy.refl _ _, ⟨PermOn.refl _ _ _, fun i j h1 h2 h3 => by omega⟩⟩
  case round =>
    obtain ⟨i, s, rfl, hai, hib, hg1, hbi, HRk, HG, HI⟩ := hrel
    by_cases hlt : i < b
    · have hltz : (i : Int) < (b : Int) := by omega
      clear hbi
      obtain ⟨wo, rfl⟩ : ∃ wo : World, wo = wr := ⟨_, rfl⟩
      go_wp2
      go_loopg [9] i (fun g2 vj wr2 => ∃ (j : Nat) (s : Nat → Nat), vj = .int .i64 j ∧ a ≤ j ∧ j ≤ i ∧ j ≤ g2 ∧ Hid (RowF wr2 g n (fun i => f (s i))) ∧ Hid (w.grownBy wr2 (some g)) ∧ Hid (InsInv L s0 a i j s))
      case atStart => exact ⟨i, s, rfl, by omega, Nat.le_refl _, Nat.le_refl _, HRk, HG, InsInv.start HI.out.1 HI.out.2 (by omega) fun x y h1 h2 h3 => HT.out x y h1 h2 (by omega)⟩
      case round =>
        obtain ⟨j, s', rfl, haj, hji, hg2, HRj, HGj, HIj⟩ := hrel
        clear HRk HG HI
        by_cases hja : a < j
        · obtain ⟨jp, rfl⟩ : ∃ jp, j = jp + 1 := ⟨j - 1, by omega⟩
          have hs' : ∀ i, i < n → s' i < n := HIj.out.perm.lt (by omega) HS0.out
          have hx := (HRj.out (jp + 1) (by omega)).facts
          have hy := (HRj.out jp (by omega)).facts
          have hcc := fun W hW => HC.out (s' (jp + 1)) (s' jp) (hs' _ (by omega)) (hs' _ (by omega)) W (HGj.out.trans hW)
          have hst := fun h => HIj.out.step O hja hji h
          have hsp := fun h => HIj.out.stop O haj hji h
          have hgw : g < wr.heap.size := World.block_lt_of_cell? wr _ hx.1.1
          have hsw := fun (W : World) (hW : Below wr.heap.size wr W) => swap_world (HRj.out.below hgw hW) (only_below HGj.out hW) (jp + 1) jp (by omega) (by omega) (by omega) _ _ rfl rfl
          have hrb := fun (W : World) (hW : Below wr.heap.size wr W) => And.intro (HRj.out.below hgw hW) (only_below HGj.out hW)
          have HRB := Lib.hid hrb; clear hrb
          rw [swpG_comp] at hsw
          simp only [Nat.add_sub_cancel, ltOf] at hst hsp
          dsimp only at hx hy hsw
          generalize f (s' (jp + 1)) = x at hx hcc hsw
          generalize f (s' jp) = y at hy hcc hsw
          generalize cf (s' (jp + 1)) (s' jp) = c at hcc hst hsp
          have HCC := Lib.hid hcc; have HST := Lib.hid hst; have HSP := Lib.hid hsp; have HSW := Lib.hid hsw
          clear hcc hst hsp hsw hs'
          obtain ⟨⟨x0, x1, x2, x3, x4, x5, x6, x7⟩, z0, z1, z2, z3, z4, z5, z6, z7⟩ := hx
          obtain ⟨⟨y0, y1, y2, y3, y4, y5, y6, y7⟩, u0, u1, u2, u3, u4, u5, u6, u7⟩ := hy
          simp only [VerV.cells] at HCC
          have i0 : (0 : Int) ≤ (jp : Int) + 1 := by omega
          have i1 : (jp : Int) + 1 < (n : Int) := by omega
          have i2 : (jp : Int) < (n : Int) := by omega
          have hjaz : (a : Int) < (jp : Int) + 1 := by omega
          have i3 : (0 : Int) ≤ (jp : Int) := by omega
          have hwp : IntKind.i64.wrap (jp : Int) = (jp : Int) := by rw [IntKind.wrap_i64]; omega
          have e0 : ((jp : Int) + 1).toNat = jp + 1 := by omega
          have HK := Lib.hid (keepz_drew (N := wr.heap.size) (W := wr) (Nat.le_refl _))
          by_cases hcz : c < 0
          · have hczb : (decide (c < 0)) = true := by simpa using hcz
            go_wp2_with fail
            go_region_held3 (fun W' => (∀ b o, b < wr.heap.size → W'.cell? ⟨b, o, none⟩ = wr.cell? ⟨b, o, none⟩) ∧ (∀ b o, b < wr.heap.size → W'.frozen? ⟨b, o, none⟩ = wr.frozen? ⟨b, o, none⟩) ∧ Hid (Below wr.heap.size wr W') ∧ wr.heap.size ≤ W'.heap.size)
              (first
                | (exact HK.out)
                | (refine keepz_step (by assumption) ?_; first | assumption | exact Below.refl _ _ | exact (Below.refl _ _).alloc (Nat.le_refl _) _))
              (first
                | (go_simp; go_at_call 36; refine (HCC.out _ (only_of_below (Hid.out (by go_split_ands; assumption)) _)).mono ?_; rintro e w1 ⟨rfl, hb1⟩))
            have hBB : Below wr.heap.size wr w1 := Hid.out (by go_split_ands; assumption)
            have HSW1 := Lib.hid (HSW.out _ hBB)
            have HSTEP := Lib.hid (HST.out hczb)
            go_wp2_with fail
            go_region
            change Exit.inBlock _ _ _ _ (put8 (put8 w1 g (jp + 1) y) g jp x).drew
            generalize (put8 (put8 w1 g (jp + 1) y) g jp x).drew = W2 at HSW1 ⊢
            clear hBB
            go_wp2
            go_roundg jp
            case rel => exact ⟨jp, _, by go_num, by omega, by omega, Nat.le_refl _, HSW1.out.1, HSW1.out.2, HSTEP⟩
            case measure => omega
          · have hczb : (decide (c < 0)) = false := by simpa using hcz
            go_wp2_with fail
            go_region_held3 (fun W' => (∀ b o, b < wr.heap.size → W'.cell? ⟨b, o, none⟩ = wr.cell? ⟨b, o, none⟩) ∧ (∀ b o, b < wr.heap.size → W'.frozen? ⟨b, o, none⟩ = wr.frozen? ⟨b, o, none⟩) ∧ Hid (Below wr.heap.size wr W') ∧ wr.heap.size ≤ W'.heap.size)
              (first
                | (exact HK.out)
                | (refine keepz_step (by assumption) ?_; first | assumption | exact Below.refl _ _ | exact (Below.refl _ _).alloc (Nat.le_refl _) _))
              (first
                | (go_simp; go_at_call 36; refine (HCC.out _ (only_of_below (Hid.out (by go_split_ands; assumption)) _)).mono ?_; rintro e w1 ⟨rfl, hb1⟩))
            have hBB : Below wr.heap.size wr w1 := Hid.out (by go_split_ands; assumption)
            have HRB1 := Lib.hid (HRB.out _ hBB)
            have HSTOP := Lib.hid (HSP.out fun _ => hczb)
            clear hBB
            go_wp2
            go_roundg (b - (i + 1))
            case rel => exact ⟨i + 1, s', by go_num, by omega, by omega, by omega, .inl (by omega), HRB1.out.1, HRB1.out.2, ⟨HIj.out.perm, HSTOP.out⟩⟩
            case measure => omega
        · obtain rfl : j = a := by omega
          have hjaz : (decide ((j : Int) > (j : Int))) = false := by simp
          have hjaz' : ¬ (j : Int) < (j : Int) := by omega
          have HSTOP := Lib.hid (HIj.out.stop O (Nat.le_refl _) hji fun h => absurd h (by omega))
          go_wp2_with fail
          go_quiet (fail)
          go_wp2
          go_roundg (b - (i + 1))
          case rel => exact ⟨i + 1, s', by go_num, by omega, by omega, by omega, .inl (by omega), HRj.out.drewN _, only_drewN HGj.out _, ⟨HIj.out.perm, HSTOP.out⟩⟩
          case measure => omega
    · have hltz : ¬ (i : Int) < (b : Int) := by omega
      go_wp2
      go_end0
      refine ⟨rfl, HG.out, s, ?_, ?_, HRk.out⟩
      · rcases hbi with hbi | hbi
        · exact HI.out.1.widen (Nat.le_refl _) hbi
        · rw [hbi.out]; exact PermOn.refl _ _ _
      · exact fun x y h1 h2 h3 => HI.out.2 x y h1 h2 (by omega)

end Go.Proofs.Ythicjpkomigacaa
