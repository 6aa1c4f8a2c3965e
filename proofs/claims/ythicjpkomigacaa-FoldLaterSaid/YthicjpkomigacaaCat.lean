/- slices.Grow and slices.Concat at versions. -/
import Derived.Test.YthicjpkomigacaaList
import Derived.Lib.AppendZeros
import Derived.Laws.AppendOwnNone
import Derived.Deep.LoopGhost
import Derived.Outline
namespace Go.Proofs.Ythicjpkomigacaa
open Go.RowKit

theorem rowCells_get {f : Nat → VerV} {k t : Nat} {u : Value} (h : (rowCells f k)[t]? = some u) : t / 8 < k ∧ (f (t / 8)).cells[t % 8]? = some u := by
  induction k with
  | zero => simp [rowCells] at h
  | succ k ih =>
    rw [rowCells_succ] at h
    by_cases c : t < k * 8
    · rw [List.getElem?_append_left (by rw [rowCells_len]; exact c)] at h
      obtain ⟨h1, h2⟩ := ih h
      exact ⟨by omega, h2⟩
    · rw [List.getElem?_append_right (by rw [rowCells_len]; omega), rowCells_len] at h
      have hlt : t - k * 8 < 8 := (List.getElem?_eq_some_iff.1 h).1
      have e1 : t / 8 = k := by omega
      have e2 : t % 8 = t - k * 8 := by omega
      exact ⟨by omega, by rw [e1, e2]; exact h⟩

theorem rowCells_one (f : Nat → VerV) (k : Nat) : ∀ u ∈ rowCells f k, u.oneCell' = true := by
  intro u hu
  obtain ⟨j, _, hj⟩ := List.mem_flatMap.1 hu
  simp only [VerV.cells, List.mem_cons, List.not_mem_nil, or_false] at hj
  rcases hj with rfl | rfl | rfl | rfl | rfl | rfl | rfl | rfl <;> rfl

set_option maxHeartbeats 1600000 in
theorem grow_any (n : Nat) (w : World) (hn0 : 0 < n) (hn : n ≤ 1000000) :
    Calls Try.prog 44 #[.slice none 0 0, .int .i64 n] w (RetV fun v w' => w'.ownsRow w.heap.size 35 8 v 0 [] ∧ Below w.heap.size w w') := by
  obtain ⟨i0, hi, hz0, hz1, hz2⟩ := info_parts Try.info_ver
  have hnz : ¬ ((n : Int) < 0) := by omega
  have hnp : 0 < (n : Int) := by omega
  have hrz : ∀ ty, (Builtin.append_ #[22, 3] ty #[.slice none 0 0, .int .i64 n]).run Try.prog w =
      .ok (.slice (some ⟨w.heap.size, 0, none⟩) n (grownCap w n 0 35)) (w.drew.alloc (.cells (Builtin.zeroCells _ n ++ Builtin.zeroCells _ (grownCap w n 0 35 - n)) 35)) := fun ty =>
    Lib.run_append_nil_zeros w 22 3 ty 35 i0 _ .i64 .i64 Try.underlying22 Try.underlying3 hi hz0 n hn0 (by rw [hz1]; omega) (by omega) (by rw [hz2]; omega)
  have hge : n ≤ grownCap w n 0 35 := grownCap_ge w _ _ _
  have hle : grownCap w n 0 35 ≤ maxLen := grownCap_le_maxLen w _ _ _ (by unfold maxLen; omega)
  generalize grownCap w n 0 35 = G at hrz hge hle
  have hown : (w.drew.alloc (.cells (Builtin.zeroCells (Value.agg #[.string ByteArray.empty, .slice none 0 0, .int .i64 0, .int .i64 0, .int .i64 0, .float .f64 0, .int .i64 0, .string ByteArray.empty]).cells n ++ Builtin.zeroCells (Value.agg #[.string ByteArray.empty, .slice none 0 0, .int .i64 0, .int .i64 0, .int .i64 0, .float .f64 0, .int .i64 0, .string ByteArray.empty]).cells (G - n)) 35)).ownsRow w.heap.size 35 8 (.slice (some ⟨w.heap.size, 0, none⟩) 0 G) 0 [] :=
    World.ownsRow_made w.drew _ G (Nat.le_refl _) hle (by rw [Array.size_append, size_zeroCells, size_zeroCells, show (Value.agg #[.string ByteArray.empty, .slice none 0 0, .int .i64 0, .int .i64 0, .int .i64 0, .float .f64 0, .int .i64 0, .string ByteArray.empty]).cells.size = 8 from rfl, ← Nat.add_mul]; congr 1; omega)
  unfold maxLen at hle
  generalize Builtin.zeroCells (Value.agg #[.string ByteArray.empty, .slice none 0 0, .int .i64 0, .int .i64 0, .int .i64 0, .float .f64 0, .int .i64 0, .string ByteArray.empty]).cells n ++ Builtin.zeroCells (Value.agg #[.string ByteArray.empty, .slice none 0 0, .int .i64 0, .int .i64 0, .int .i64 0, .float .f64 0, .int .i64 0, .string ByteArray.empty]).cells (G - n) = C at hrz hown
  have HRZ := Lib.hid hrz; have HOWN := Lib.hid hown; clear hrz hown
  go_enter Try.func44, Try.ntmps44
  go_wp2_with (at_builtin; refine Lib.wpList_append_run _ rfl _ _ _ _ rfl _ _ rfl rfl _ _ (HRZ.out _) ?_)
  go_ret
  exact ⟨_, rfl, HOWN.out, (Below.refl _ _).drew.alloc (Nat.le_refl _) _⟩

theorem grow_nil (w : World) :
    Calls Try.prog 44 #[.slice none 0 0, .int .i64 0] w (RetV fun v w' => w'.ownsRow w.heap.size 35 8 v 0 [] ∧ Below w.heap.size w w') := by
  go_enter Try.func44, Try.ntmps44
  go_wp2
  go_ret
  exact ⟨_, rfl, World.ownsRow_nil _ _ _ _, Below.refl _ _⟩

theorem ListB.cat {W0 w2 : World} {B : Nat} {v' : Value} {us ls : List VerD} {f f2 : Nat → VerV} (h1 : ∀ j v, us[j]? = some v → Means W0 (f j) v) (h2 : ∀ j v, ls[j]? = some v → Means W0 (f2 j) v)
    (hown : w2.ownsRow B 35 8 v' (us.length + ls.length) (rowCells f us.length ++ rowCells f2 ls.length)) : ListB W0 B w2 v' (us ++ ls) := by
  have key : ∀ m, rowCells (fun i => if i < us.length then f i else f2 (i - us.length)) (us.length + m) = rowCells f us.length ++ rowCells f2 m := by
    intro m
    induction m with
    | zero =>
      rw [Nat.add_zero, rowCells_congr (f := fun i => if i < us.length then f i else f2 (i - us.length)) (f' := f) fun j hj => if_pos hj]
      simp [rowCells]
    | succ m ih =>
      rw [← Nat.add_assoc, rowCells_succ, ih, rowCells_succ, List.append_assoc, if_neg (by omega), show us.length + m - us.length = m by omega]
  refine ⟨fun i => if i < us.length then f i else f2 (i - us.length), ?_, fun j v hj => ?_⟩
  · rw [List.length_append, key]
    exact hown
  · dsimp only
    by_cases c : j < us.length
    · rw [if_pos c]
      rw [List.getElem?_append_left c] at hj
      exact h1 j v hj
    · rw [if_neg c]
      rw [List.getElem?_append_right (by omega)] at hj
      exact h2 _ v hj

/-- A slice that leads nowhere holds nothing. -/
def Proper (v : Value) : Prop := ∀ n c, v = .slice none n c → n = 0 ∧ c = 0

set_option maxRecDepth 100000 in
set_option maxHeartbeats 3200000 in
theorem concat_any (S : Nat → Value) (L : Nat → List VerD) (n gb : Nat) (w : World) (hcell : ∀ j, j < n → w.cell? ⟨gb, j, none⟩ = some (S j)) (hr : ∀ j, j < n → VersR w (S j) (L j) ∧ Proper (S j)) (hn : n ≤ 1000) (hl : ((List.range n).flatMap L).length ≤ 100000) :
    Calls Try.prog 24 #[.slice (some ⟨gb, 0, none⟩) n n] w (RetV fun v w' => Below w.heap.size w w' ∧ ListB w w.heap.size w' v ((List.range n).flatMap L)) := by
  obtain ⟨i0, hi, hz0, hz1, hz2⟩ := info_parts Try.info_ver
  have hsl : ∀ j, j < n → ∃ A c, S j = .slice A (L j).length c := fun j hj => by
    obtain ⟨A, c, f, h, _⟩ := (hr j hj).1
    exact ⟨A, c, h⟩
  have hsucc : ∀ j, (List.range (j + 1)).flatMap L = (List.range j).flatMap L ++ L j := fun j => by simp [List.range_succ]
  have hmono : ∀ j, j ≤ n → ((List.range j).flatMap L).length ≤ 100000 := fun j hj => by
    have key : ∀ d, ((List.range j).flatMap L).length ≤ ((List.range (j + d)).flatMap L).length := fun d => by
      induction d with
      | zero => exact Nat.le_refl _
      | succ d ih => rw [← Nat.add_assoc, hsucc, List.length_append]; omega
    have := key (n - j)
    rw [show j + (n - j) = n by omega] at this
    omega
  have hlen : ∀ j, ((List.range (j + 1)).flatMap L).length = ((List.range j).flatMap L).length + (L j).length := fun j => by rw [hsucc, List.length_append]
  generalize hF : (fun j => (List.range j).flatMap L) = F at *
  have hF' : ∀ j, (List.range j).flatMap L = F j := fun j => by rw [← hF]
  simp only [hF'] at hl hsucc hmono hlen ⊢
  have HF0 : Hid (F 0 = []) := Lib.hid (by rw [← hF]; rfl)
  have HC := Lib.hid hcell; have HR := Lib.hid hr; have HSL := Lib.hid hsl; have HSU := Lib.hid hsucc; have HM := Lib.hid hmono; have HLE := Lib.hid hlen
  clear hcell hr hsl hsucc hmono hlen hF hF' hl
  go_enter Try.func24, Try.ntmps24
  go_wp2
  go_loop [3, 11] (fun z k => ∃ j : Nat, j ≤ n ∧ k = .int .i64 j ∧ z = .int .i64 (F j).length) (fun _ k => n - (intOf k).toNat)
  case atStart => exact ⟨0, Nat.zero_le _, rfl, by rw [HF0.out]; rfl⟩
  case round =>
    obtain ⟨j, hj, rfl, rfl⟩ := hrel
    by_cases hlt : j < n
    · have hx := HC.out j hlt
      obtain ⟨A, c, hS⟩ := HSL.out j hlt
      rw [hS] at hx
      have h1 := HLE.out j
      have h2 := HM.out (j + 1) hlt
      rw [h1] at h2
      have H1 := Lib.hid h1
      clear hS h1
      generalize (F j).length = a at h2 H1 ⊢
      generalize (L j).length = m at hx h2 H1
      go_wp2
      go_round
      case rel => exact ⟨j + 1, by omega, by go_num, by rw [H1.out]; go_num⟩
      case measure => simp [intOf]; omega
    · obtain rfl : j = n := by omega
      have hgr : Calls Try.prog 44 #[.slice none 0 0, .int .i64 (F j).length] w (RetV fun v w' => w'.ownsRow w.heap.size 35 8 v 0 [] ∧ Below w.heap.size w w') := by
        by_cases h0 : (F j).length = 0
        · rw [h0]; exact grow_nil w
        · exact grow_any _ w (by omega) (by have := HM.out j hj; omega)
      have HG := Lib.hid hgr; clear hgr
      have hFl := HM.out j hj
      generalize (F j).length = t at HG hFl ⊢
      go_wp2_with fail
      refine HG.out.mono ?_
      rintro e W1 ⟨v1, rfl, hown1, hb1⟩
      obtain ⟨B, hB⟩ : ∃ B, B = w.heap.size := ⟨_, rfl⟩
      rw [← hB] at hown1 hb1
      have HB := Lib.hid hB; have HO1 := Lib.hid hown1; have HB1 := Lib.hid hb1; clear hB hown1 hb1
      clear HG hFl
      go_wp2
      go_loopw [6, 27] (fun vo vk wr => ∃ k : Nat, k ≤ j ∧ vk = .int .i64 k ∧ Hid (ListB w B wr vo (F k)) ∧ Hid (Below B w wr)) (fun _ vk _ => j - (intOf vk).toNat)
      case atStart => exact ⟨0, Nat.zero_le _, rfl, by rw [HF0.out]; exact ⟨fun _ => ⟨ByteArray.empty, none, 0, 0, 0, 0, 0, 0, 0, ByteArray.empty⟩, HO1.out, fun _ _ h => by simp at h⟩, HB1⟩
      case round =>
        obtain ⟨k, hk, rfl, HL, HBR⟩ := hrel
        by_cases hlt : k < j
        · have hx0 := HC.out k hlt
          have hx : wr.cell? ⟨gb, k, none⟩ = some (S k) := by
            rw [HBR.out.cell (by rw [HB.out]; exact World.block_lt_of_cell? w _ hx0)]; exact hx0
          obtain ⟨hvr, hpr⟩ := HR.out k hlt
          have h2 := HM.out (k + 1) hlt
          have h1 := HLE.out k
          obtain ⟨A, c, f2, hS, g1, g2, g3, g4⟩ := hvr
          have hbw : Below w.heap.size w wr := by rw [← HB.out]; exact HBR.out
          have hnews : ∀ ad, A = some ad → ∀ t u, (rowCells f2 (L k).length)[t]? = some u → wr.cell? (ad.add t) = some u := fun ad hA t u hu => by
            obtain ⟨q1, q2⟩ := rowCells_get hu
            obtain ⟨b, o, hA2, hc⟩ := (g3.below hbw) _ q1
            rw [hA] at hA2
            cases hA2
            rw [show (⟨b, o, none⟩ : Addr).add t = ⟨b, o + t, none⟩ by unfold Addr.add; split <;> simp_all, show o + t = o + t / 8 * 8 + t % 8 by omega]
            exact hc _ _ q2
          obtain ⟨f1, how, hme⟩ := HL.out
          have hlt2 := HL.out.lt
          have hsu := HSU.out k
          rw [hS] at hx hpr
          rw [h1] at h2
          unfold maxLen at g2
          have hBZ : B ≤ wr.heap.size := by have := HBR.out.size; have := HB.out; omega
          have H1 := Lib.hid h1; have HNW := Lib.hid hnews; have H4 := Lib.hid g4; have HOW := Lib.hid how; have HME := Lib.hid hme; have HLT := Lib.hid hlt2; have HSUK := Lib.hid hsu
          have HBZ := Lib.hid hBZ; have HS := Lib.hid hS
          have hnl : (rowCells f2 (L k).length).length = (L k).length * 8 := rowCells_len _ _
          have HNL := Lib.hid hnl
          have hFk := HM.out k hk
          clear hx0 g3 h1 g4 how hme hlt2 hsu hBZ hnl hnews hS hbw
          rcases A with _ | ad
          · obtain ⟨hm0, rfl⟩ := hpr _ _ rfl
            have hF1 : F (k + 1) = F k := by rw [HSUK.out, List.eq_nil_of_length_eq_zero hm0, List.append_nil]
            have HF1 := Lib.hid hF1
            rw [hm0] at hx
            clear hm0 hF1 hpr h2 g1
            go_wp2_with (at_builtin; go_must (refine wpList_append_own_none rfl (.tmp 31) (.tmp 32) 22 rfl B 35 i0 8 Try.underlying22 hi _ _ _ rfl HOW.out rfl ?_))
            go_roundw
            case rel => exact ⟨k + 1, by omega, by go_num, by rw [HF1.out]; exact HL, HBR⟩
            case measure => simp [intOf]; omega
          · generalize hm : (L k).length = m at *
            have HMM := Lib.hid hm; clear hm
            have h63 : (F k).length + m ≤ maxLen := by unfold maxLen; omega
            have h64 : ((F k).length + m) * 96 ≤ 140737488355328 := by omega
            have H63 := Lib.hid h63; have H64 := Lib.hid h64; clear h63 h64 hpr
            go_wp2_with (at_builtin; go_must (refine wpList_append_own _ rfl (.tmp 31) (.tmp 32) 22 rfl B 35 i0 _ 8 96 Try.underlying22 hi hz0 hz1 hz2 rfl (by decide) _ _ _ rfl HOW.out ad m c _ rfl HNL.out (HNW.out ad rfl) (rowCells_one _ _) H63.out H64.out HBZ.out ?_); intro v' w2 hown2 hgrow2 _)
            have hm := HMM.out
            subst hm
            exact ⟨⟨k + 1, by omega, by go_num, by rw [HSUK.out]; exact ListB.cat HME.out H4.out hown2, HBR.out.grown hgrow2 HBZ.out (fun p hp => HLT.out p hp)⟩, by simp [intOf]; omega⟩
        · obtain rfl : k = j := by omega
          have hltz : ¬ (k : Int) < (k : Int) := by omega
          go_wp2
          go_ret
          exact ⟨_, rfl, by rw [← HB.out]; exact ⟨HBR.out, HL.out⟩⟩

end Go.Proofs.Ythicjpkomigacaa
