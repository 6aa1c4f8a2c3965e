/- The laws' own functions: Light, right. -/
import Derived.Test.YthicjpkomigacaaDrop
import Derived.Outline
namespace Go.Proofs.Ythicjpkomigacaa
open Go.RowKit

theorem drop_any (k : ByteArray) (va vf : Value) (vs : List VerD) (fs : List Int) (all : Bool) (w : World) (hv : VersR w va vs) (hf : VecR w vf fs) (hn : vs.length ≤ 10000) (hl : ∀ v ∈ vs, v.at_.length ≤ 1000000) (hx : ∀ v ∈ vs, v.act.num < 18446744073709551616) :
    Calls Try.prog 11 #[.string k, va, vf, .bool all] w (RetV (DropP k vs fs all w)) := by
  by_cases hk : (!isK k || !validL fs) = true
  · exact drop_off k va vf vs fs all w hv hf (by omega) hl hk
  · simp only [Bool.or_eq_true, Bool.not_eq_true', not_or, Bool.not_eq_false] at hk
    exact drop_on k va vf vs fs all w hv hf hn hl hx hk.1 hk.2

def lightV (v : VerD) : Bool := decide (v.at_.length ≤ 20) && (decide (v.act.text.size ≤ 1100) && decide (v.key.size ≤ 200))
def lightD (vs : List VerD) : Bool := decide (vs.length ≤ 60) && vs.all lightV

set_option maxRecDepth 100000 in
set_option maxHeartbeats 1600000 in
theorem light_any (va : Value) (vs : List VerD) (w : World) (hv : VersR w va vs) :
    Calls Try.prog 7 #[va] w fun e w' => e = .returned (.bool (lightD vs)) ∧ w = w' := by
  obtain ⟨A, c, f, rfl, h1, h2, h3, h4⟩ := hv
  unfold maxLen at h2
  by_cases hl : vs.length ≤ 60
  · have hr : lightD vs = vs.all lightV := by unfold lightD; simp [hl]
    have hlz : ¬ (60 : Int) < (vs.length : Int) := by omega
    rw [hr]
    have H3 := Lib.hid h3; have H4 := Lib.hid h4
    obtain ⟨r, hrr⟩ : ∃ r, r = vs.all lightV := ⟨_, rfl⟩
    rw [← hrr]
    have HRR := Lib.hid hrr
    clear h3 h4 hrr hr
    generalize hn : vs.length = n at *
    have HN := Lib.hid hn; clear hn
    go_enter Try.func7, Try.ntmps7
    go_wp2
    go_loop [3] (fun vi => ∃ j : Nat, j ≤ n ∧ vi = .int .i64 j ∧ Hid ((vs.take j).all lightV = true)) (fun vi => n - (intOf vi).toNat)
    case atStart => exact ⟨0, Nat.zero_le _, rfl, by show _ = _; simp⟩
    case round =>
      obtain ⟨j, hj, rfl, HA⟩ := hrel
      by_cases hlt : j < n
      · have hltz : (j : Int) < (n : Int) := by omega
        have hvk : vs[j]? = some (vs.getD j default) := by rw [getD_lt _ _ (by rw [HN.out]; exact hlt)]; exact List.getElem?_eq_getElem _
        have hbad : lightV (vs.getD j default) = false → r = false := fun h => by
          rw [HRR.out, List.all_eq_false]
          exact ⟨_, List.mem_of_getElem? hvk, by rw [h]; exact Bool.false_ne_true⟩
        have hgood : lightV (vs.getD j default) = true → (vs.take (j + 1)).all lightV = true := fun h => by
          have hj' : j < vs.length := by rw [HN.out]; exact hlt
          rw [List.take_succ_eq_append_getElem hj', List.all_append, HA.out, ← getD_lt _ default hj']
          show (true && (lightV (vs.getD j default) && true)) = true
          rw [h]
          rfl
        obtain ⟨b, o, rfl, hcells⟩ := H3.out j hlt
        have hx := elem_facts hcells
        have hmean := H4.out j _ hvk
        generalize vs.getD j default = v at hmean hbad hgood
        generalize f j = x at hx hmean
        have hnx : v.at_.length = x.n := by
          obtain ⟨A', c', h, _⟩ := hmean.1
          simp only [VerV.slice, Value.slice.injEq] at h
          exact h.2.1.symm
        have hlv : lightV v = (decide (x.n ≤ 20) && (decide (x.text.size ≤ 1100) && decide (x.key.size ≤ 200))) := by
          unfold lightV
          rw [hnx, hmean.2]
          rfl
        rw [hlv] at hbad hgood
        obtain ⟨x0, x1, x2, x3, x4, x5, x6, x7⟩ := hx
        have HBAD := Lib.hid hbad; have HGOOD := Lib.hid hgood
        clear hvk hcells hmean hnx hlv hbad hgood
        by_cases c1 : x.n ≤ 20
        · have d1 : ¬ (20 : Int) < (x.n : Int) := by omega
          by_cases c2 : x.text.size ≤ 1100
          · have d2 : ¬ (1100 : Int) < (x.text.size : Int) := by omega
            by_cases c3 : x.key.size ≤ 200
            · have d3 : ¬ (200 : Int) < (x.key.size : Int) := by omega
              have hg := HGOOD.out (by simp [c1, c2, c3])
              have HG := Lib.hid hg; clear hg c1 c2 c3
              go_wp2
              go_round
              case rel => exact ⟨j + 1, by omega, by go_num, HG⟩
              case measure => simp [intOf]; omega
            · have d3 : (200 : Int) < (x.key.size : Int) := by omega
              have hg := HBAD.out (by simp [c1, c2, c3])
              have HG := Lib.hid hg; clear hg c1 c2 c3
              go_wp2
              go_ret
              exact ⟨by rw [HG.out]; rfl, rfl⟩
          · have d2 : (1100 : Int) < (x.text.size : Int) := by omega
            have hg := HBAD.out (by simp [c1, c2])
            have HG := Lib.hid hg; clear hg c1 c2
            go_wp2
            go_ret
            exact ⟨by rw [HG.out]; rfl, rfl⟩
        · have d1 : (20 : Int) < (x.n : Int) := by omega
          have hg := HBAD.out (by simp [c1])
          have HG := Lib.hid hg; clear hg c1
          go_wp2
          go_ret
          exact ⟨by rw [HG.out]; rfl, rfl⟩
      · obtain rfl : j = n := by omega
        have hltz : ¬ (j : Int) < (j : Int) := by omega
        have ht : vs.take j = vs := List.take_of_length_le (by rw [HN.out]; exact Nat.le_refl _)
        rw [ht] at HA
        have hg : r = true := by rw [HRR.out]; exact HA.out
        have HG := Lib.hid hg; clear hg ht
        go_wp2
        go_ret
        exact ⟨by rw [HG.out]; rfl, rfl⟩
  · have hlz : (60 : Int) < (vs.length : Int) := by omega
    have hr : lightD vs = false := by unfold lightD; simp [hl]
    have HR := Lib.hid hr
    clear hr h3 h4
    generalize vs.length = n at *
    obtain ⟨r, hrr⟩ : ∃ r, r = lightD vs := ⟨_, rfl⟩
    rw [← hrr]; have HRR := Lib.hid hrr; clear hrr
    go_enter Try.func7, Try.ntmps7
    go_wp2
    go_ret
    exact ⟨by rw [HRR.out, HR.out]; rfl, rfl⟩

/-- A version that can be: its vector, its place, its number, its act. -/
def rightV (k : ByteArray) (n : Int) (v : VerD) : Bool :=
  validL v.at_ && (decide ((v.at_.length : Int) = n) && (!((decide (v.origin < 0) || decide (n ≤ v.origin)) && !decide (v.origin = 254)) && (!decide (v.tx < 0) && fitsD k v.act)))

set_option maxRecDepth 100000 in
set_option maxHeartbeats 6400000 in
theorem rightl_any (k : ByteArray) (va : Value) (vs : List VerD) (m : Int) (w : World) (hv : VersR w va vs) (hx : ∀ v ∈ vs, v.act.num < 18446744073709551616) :
    Calls Try.prog 9 #[.string k, va, .int .i64 m] w fun e w' => e = .returned (.bool (vs.all (rightV k m))) ∧ Below w.heap.size w w' := by
  have hsf := run_store_float Try.prog
  obtain ⟨A, c, f, rfl, h1, h2, h3, h4⟩ := hv
  unfold maxLen at h2
  have H3 := Lib.hid h3; have H4 := Lib.hid h4; have HX := Lib.hid hx
  obtain ⟨r, hrr⟩ : ∃ r, r = vs.all (rightV k m) := ⟨_, rfl⟩
  rw [← hrr]
  have HRR := Lib.hid hrr
  clear h3 h4 hrr hx
  generalize hnn : vs.length = n at *
  have HN := Lib.hid hnn; clear hnn
  obtain ⟨B, hB⟩ : ∃ B, B = w.heap.size := ⟨_, rfl⟩
  have HB := Lib.hid hB; clear hB
  go_enter Try.func9, Try.ntmps9
  go_wp2
  go_outline
  go_loopw [7] (fun vi wr => ∃ j : Nat, j ≤ n ∧ vi = .int .i64 j ∧ Hid ((vs.take j).all (rightV k m) = true) ∧ Hid (Below B w wr)) (fun vi _ => n - (intOf vi).toNat)
  case atStart => exact ⟨0, Nat.zero_le _, rfl, (by show _ = _; simp), Below.refl _ _⟩
  case round =>
    obtain ⟨j, hj, rfl, HA, HBR⟩ := hrel
    by_cases hlt : j < n
    · have hltz : (j : Int) < (n : Int) := by omega
      have hvk : vs[j]? = some (vs.getD j default) := by rw [getD_lt _ _ (by rw [HN.out]; exact hlt)]; exact List.getElem?_eq_getElem _
      have hbad : rightV k m (vs.getD j default) = false → r = false := fun h => by
        rw [HRR.out, List.all_eq_false]
        exact ⟨_, List.mem_of_getElem? hvk, by rw [h]; exact Bool.false_ne_true⟩
      have hgood : rightV k m (vs.getD j default) = true → (vs.take (j + 1)).all (rightV k m) = true := fun h => by
        have hj' : j < vs.length := by rw [HN.out]; exact hlt
        rw [List.take_succ_eq_append_getElem hj', List.all_append, HA.out, ← getD_lt _ default hj']
        show (true && (rightV k m (vs.getD j default) && true)) = true
        rw [h]
        rfl
      have hbw : Below w.heap.size w wr := by rw [← HB.out]; exact HBR.out
      obtain ⟨b, o, rfl, hcells⟩ := (H3.out.below hbw) j hlt
      have hx := elem_facts hcells
      have hmean := H4.out j _ hvk
      have hnum := HX.out _ (List.mem_of_getElem? hvk)
      generalize vs.getD j default = v at hmean hbad hgood hnum
      generalize f j = x at hx hmean
      have hnx : v.at_.length = x.n := by
        obtain ⟨A', c', h, _⟩ := hmean.1
        simp only [VerV.slice, Value.slice.injEq] at h
        exact h.2.1.symm
      have hval := fun W (hW : Below wr.heap.size wr W) => valid_any x.slice v.at_ W ((hmean.below hbw).below hW).1
      have hfit := fun W => fits_any k v.act hnum W
      have hact2 : v.act = ⟨x.kind, x.num, x.int, x.text⟩ := by rw [hmean.2]; rfl
      have hlv : rightV k m v = (validL v.at_ && (decide ((x.n : Int) = m) && (!((decide (x.origin < 0) || decide (m ≤ x.origin)) && !decide (x.origin = 254)) && (!decide (x.tx < 0) && fitsD k v.act)))) := by
        unfold rightV
        rw [hnx]
        rw [show v.origin = x.origin by rw [hmean.2]; rfl, show v.tx = x.tx by rw [hmean.2]; rfl]
      rw [hlv] at hbad hgood
      rw [hact2] at hfit hbad hgood
      generalize fitsD k ⟨x.kind, x.num, x.int, x.text⟩ = ft at hfit hbad hgood
      generalize validL v.at_ = vl at hval hbad hgood
      simp only [encA] at hfit
      simp only [VerV.slice] at hval
      obtain ⟨x0, x1, x2, x3, x4, x5, x6, x7⟩ := hx
      have HBAD := Lib.hid hbad; have HGOOD := Lib.hid hgood; have HVAL := Lib.hid hval; have HFIT := Lib.hid hfit
      have HBX1 : Hid (Below B w (wr.alloc (.cells #[.string x.key, .slice x.A x.n x.c, .int .i64 x.origin, .int .i64 x.tx, .int .i64 x.kind, .float .f64 x.num, .int .i64 x.int, .string x.text] 35))) := Lib.hid (HBR.out.alloc (by have := HBR.out.size; rw [HB.out]; exact this) _)
      clear hvk hcells hmean hnx hlv hbad hgood hval hfit hact2 hnum hbw
      cases vl with
      | false =>
        have hg := HBAD.out (by simp)
        have HG := Lib.hid hg; clear hg
        go_wp2_with fail
        refine (HVAL.out _ ((Below.refl _ _).alloc (Nat.le_refl _) _)).mono ?_
        rintro e w' ⟨rfl, rfl⟩
        go_wp2
        go_ret
        exact ⟨by rw [HG.out]; rfl, by rw [← HB.out]; exact HBX1.out⟩
      | true =>
        by_cases c1 : (x.n : Int) = m
        · have c1b : ((x.n : Int) != m) = false := by rw [bne_eq_false_iff_eq]; exact c1
          have K1 := Lib.hid c1; clear c1
          by_cases c2 : x.origin = 254
          · have c2b : (x.origin != 254) = false := by rw [bne_eq_false_iff_eq]; exact c2
            have c3 : ¬ x.origin < 0 := by omega
            have K2 := Lib.hid c2; clear c2
            by_cases c4 : m ≤ x.origin
            · have K4 := Lib.hid c4
              by_cases c5 : x.tx < 0
              · have K5 := Lib.hid c5
                have hg := HBAD.out (by simp [K1.out, K2.out, K5.out])
                have HG := Lib.hid hg; clear hg
                go_wp2_with fail
                refine (HVAL.out _ ((Below.refl _ _).alloc (Nat.le_refl _) _)).mono ?_
                rintro e w' ⟨rfl, rfl⟩
                go_wp2
                go_ret
                exact ⟨by rw [HG.out]; rfl, by rw [← HB.out]; exact HBX1.out⟩
              · have K5 := Lib.hid c5
                cases ft with
                | false =>
                  have hg := HBAD.out (by simp [K1.out, K2.out, K5.out])
                  have HG := Lib.hid hg; clear hg
                  go_wp2_with fail
                  refine (HVAL.out _ ((Below.refl _ _).alloc (Nat.le_refl _) _)).mono ?_
                  rintro e w' ⟨rfl, rfl⟩
                  go_wp2_with fail
                  refine (HFIT.out _).mono ?_
                  rintro e w2 ⟨rfl, hb2⟩
                  have HB2 := Lib.hid (HBX1.out.trans (hb2.mono (by have := HBX1.out.size; have := HB.out; omega))); clear hb2
                  go_wp2
                  go_ret
                  exact ⟨by rw [HG.out]; rfl, by rw [← HB.out]; exact HB2.out⟩
                | true =>
                  have hg := HGOOD.out (by simp [K1.out, K2.out, K5.out])
                  have HG := Lib.hid hg; clear hg
                  go_wp2_with fail
                  refine (HVAL.out _ ((Below.refl _ _).alloc (Nat.le_refl _) _)).mono ?_
                  rintro e w' ⟨rfl, rfl⟩
                  go_wp2_with fail
                  refine (HFIT.out _).mono ?_
                  rintro e w2 ⟨rfl, hb2⟩
                  have HB2 := Lib.hid (HBX1.out.trans (hb2.mono (by have := HBX1.out.size; have := HB.out; omega))); clear hb2
                  go_wp2
                  go_roundw
                  case rel => exact ⟨j + 1, by omega, by go_num, HG, HB2⟩
                  case measure => simp [intOf]; omega
            · have K4 := Lib.hid c4
              by_cases c5 : x.tx < 0
              · have K5 := Lib.hid c5
                have hg := HBAD.out (by simp [K1.out, K2.out, K5.out])
                have HG := Lib.hid hg; clear hg
                go_wp2_with fail
                refine (HVAL.out _ ((Below.refl _ _).alloc (Nat.le_refl _) _)).mono ?_
                rintro e w' ⟨rfl, rfl⟩
                go_wp2
                go_ret
                exact ⟨by rw [HG.out]; rfl, by rw [← HB.out]; exact HBX1.out⟩
              · have K5 := Lib.hid c5
                cases ft with
                | false =>
                  have hg := HBAD.out (by simp [K1.out, K2.out, K5.out])
                  have HG := Lib.hid hg; clear hg
                  go_wp2_with fail
                  refine (HVAL.out _ ((Below.refl _ _).alloc (Nat.le_refl _) _)).mono ?_
                  rintro e w' ⟨rfl, rfl⟩
                  go_wp2_with fail
                  refine (HFIT.out _).mono ?_
                  rintro e w2 ⟨rfl, hb2⟩
                  have HB2 := Lib.hid (HBX1.out.trans (hb2.mono (by have := HBX1.out.size; have := HB.out; omega))); clear hb2
                  go_wp2
                  go_ret
                  exact ⟨by rw [HG.out]; rfl, by rw [← HB.out]; exact HB2.out⟩
                | true =>
                  have hg := HGOOD.out (by simp [K1.out, K2.out, K5.out])
                  have HG := Lib.hid hg; clear hg
                  go_wp2_with fail
                  refine (HVAL.out _ ((Below.refl _ _).alloc (Nat.le_refl _) _)).mono ?_
                  rintro e w' ⟨rfl, rfl⟩
                  go_wp2_with fail
                  refine (HFIT.out _).mono ?_
                  rintro e w2 ⟨rfl, hb2⟩
                  have HB2 := Lib.hid (HBX1.out.trans (hb2.mono (by have := HBX1.out.size; have := HB.out; omega))); clear hb2
                  go_wp2
                  go_roundw
                  case rel => exact ⟨j + 1, by omega, by go_num, HG, HB2⟩
                  case measure => simp [intOf]; omega
          · have c2b : (x.origin != 254) = true := by rw [bne_iff_ne]; exact c2
            have K2 := Lib.hid c2; clear c2
            by_cases c3 : x.origin < 0
            · have K3 := Lib.hid c3
              have hg := HBAD.out (by simp [K1.out, K2.out, K3.out])
              have HG := Lib.hid hg; clear hg
              go_wp2_with fail
              refine (HVAL.out _ ((Below.refl _ _).alloc (Nat.le_refl _) _)).mono ?_
              rintro e w' ⟨rfl, rfl⟩
              go_wp2
              go_ret
              exact ⟨by rw [HG.out]; rfl, by rw [← HB.out]; exact HBX1.out⟩
            · have K3 := Lib.hid c3
              by_cases c4 : m ≤ x.origin
              · have K4 := Lib.hid c4
                have hg := HBAD.out (by simp [K1.out, K2.out, K3.out, K4.out])
                have HG := Lib.hid hg; clear hg
                go_wp2_with fail
                refine (HVAL.out _ ((Below.refl _ _).alloc (Nat.le_refl _) _)).mono ?_
                rintro e w' ⟨rfl, rfl⟩
                go_wp2
                go_ret
                exact ⟨by rw [HG.out]; rfl, by rw [← HB.out]; exact HBX1.out⟩
              · have K4 := Lib.hid c4
                by_cases c5 : x.tx < 0
                · have K5 := Lib.hid c5
                  have hg := HBAD.out (by simp [K1.out, K2.out, K3.out, K4.out, K5.out])
                  have HG := Lib.hid hg; clear hg
                  go_wp2_with fail
                  refine (HVAL.out _ ((Below.refl _ _).alloc (Nat.le_refl _) _)).mono ?_
                  rintro e w' ⟨rfl, rfl⟩
                  go_wp2
                  go_ret
                  exact ⟨by rw [HG.out]; rfl, by rw [← HB.out]; exact HBX1.out⟩
                · have K5 := Lib.hid c5
                  cases ft with
                  | false =>
                    have hg := HBAD.out (by simp [K1.out, K2.out, K3.out, K4.out, K5.out])
                    have HG := Lib.hid hg; clear hg
                    go_wp2_with fail
                    refine (HVAL.out _ ((Below.refl _ _).alloc (Nat.le_refl _) _)).mono ?_
                    rintro e w' ⟨rfl, rfl⟩
                    go_wp2_with fail
                    refine (HFIT.out _).mono ?_
                    rintro e w2 ⟨rfl, hb2⟩
                    have HB2 := Lib.hid (HBX1.out.trans (hb2.mono (by have := HBX1.out.size; have := HB.out; omega))); clear hb2
                    go_wp2
                    go_ret
                    exact ⟨by rw [HG.out]; rfl, by rw [← HB.out]; exact HB2.out⟩
                  | true =>
                    have hg := HGOOD.out (by simp [K1.out, K2.out, K3.out, K4.out, K5.out])
                    have HG := Lib.hid hg; clear hg
                    go_wp2_with fail
                    refine (HVAL.out _ ((Below.refl _ _).alloc (Nat.le_refl _) _)).mono ?_
                    rintro e w' ⟨rfl, rfl⟩
                    go_wp2_with fail
                    refine (HFIT.out _).mono ?_
                    rintro e w2 ⟨rfl, hb2⟩
                    have HB2 := Lib.hid (HBX1.out.trans (hb2.mono (by have := HBX1.out.size; have := HB.out; omega))); clear hb2
                    go_wp2
                    go_roundw
                    case rel => exact ⟨j + 1, by omega, by go_num, HG, HB2⟩
                    case measure => simp [intOf]; omega
        · have c1b : ((x.n : Int) != m) = true := by rw [bne_iff_ne]; exact c1
          have K1 := Lib.hid c1; clear c1
          have hg := HBAD.out (by simp [K1.out])
          have HG := Lib.hid hg; clear hg
          go_wp2_with fail
          refine (HVAL.out _ ((Below.refl _ _).alloc (Nat.le_refl _) _)).mono ?_
          rintro e w' ⟨rfl, rfl⟩
          go_wp2
          go_ret
          exact ⟨by rw [HG.out]; rfl, by rw [← HB.out]; exact HBX1.out⟩
    · obtain rfl : j = n := by omega
      have hltz : ¬ (j : Int) < (j : Int) := by omega
      have ht : vs.take j = vs := List.take_of_length_le (by rw [HN.out]; exact Nat.le_refl _)
      rw [ht] at HA
      have hg : r = true := by rw [HRR.out]; exact HA.out
      have HG := Lib.hid hg; clear hg ht
      go_wp2
      go_ret
      exact ⟨by rw [HG.out]; rfl, by rw [← HB.out]; exact HBR.out⟩

end Go.Proofs.Ythicjpkomigacaa
