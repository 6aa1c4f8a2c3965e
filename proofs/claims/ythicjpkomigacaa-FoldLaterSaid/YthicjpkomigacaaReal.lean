/- bedrock/real: Put, Compare, Same, Max, Min. -/
import Derived.Test.YthicjpkomigacaaRows
import Derived.Test.YthicjpkomigacaaMem
import Derived.Test.YthicjpkomigacaaRealP
import Derived.Test.YthicjpkomigacaaPlain
import Derived.Laws.Externs
import Derived.Laws.BytesArg
import Derived.Laws.OwnMore
import Derived.Laws.BitsAllLaws
import Derived.Lib.Bytealg
namespace Go.Proofs.Ythicjpkomigacaa
open Go.RowKit

theorem bits_any (x : Nat) (w : World) : (callFunc 73 #[.float .f64 x]).run Try.prog w = .ok (.value (.int .u64 x)) w := by
  rw [run_callFunc_extern Try.func73 (by kernel_rfl) (by kernel_rfl) (by kernel_rfl) (e := Extern.MathFloatBits.float64bits) (by kernel_rfl)]
  rfl

theorem signbit_any (x : Nat) (hx : x < 18446744073709551616) (w : World) : Calls Try.prog 72 #[.float .f64 x] w fun e w' => e = .returned (.bool (decide (9223372036854775808 ≤ x))) ∧ w = w' := by
  have hb := bits_any x
  go_enter Try.func72, Try.ntmps72
  go_wp2
  go_ret
  refine ⟨?_, rfl⟩
  by_cases c : 9223372036854775808 ≤ x
  · simp [c, wrap64]; omega
  · simp [c, wrap64]; omega

theorem xor_all (x : Nat) (hx : x < 18446744073709551616) : bits .xor .u64 IntKind.u64.max x = ((18446744073709551615 - x : Nat) : Int) := by
  rw [show IntKind.u64.max = ((18446744073709551615 : Nat) : Int) by decide, u64_xor_nat _ _ (by omega) hx]
  congr 1
  apply Nat.eq_of_testBit_eq
  intro i
  rw [show 18446744073709551615 - x = 2 ^ 64 - (x + 1) by omega, Nat.testBit_two_pow_sub_succ (by omega), Nat.testBit_xor, show 18446744073709551615 = 2 ^ 64 - 1 by rfl, Nat.testBit_two_pow_sub_one]
  by_cases c : i < 64
  · simp [c]
  · rw [decide_eq_false c, Nat.testBit_lt_two_pow (show x < 2 ^ i from Nat.lt_of_lt_of_le hx (Nat.pow_le_pow_right (n := 2) (by omega) (show 64 ≤ i by omega)))]; rfl

theorem or_top (x : Nat) (hx : x < 9223372036854775808) : bits .or .u64 x 9223372036854775808 = ((x + 9223372036854775808 : Nat) : Int) := by
  rw [show (9223372036854775808 : Int) = ((9223372036854775808 : Nat) : Int) by rfl, u64_or_nat _ _ (by omega) (by omega)]
  have := Nat.two_pow_add_eq_or_of_lt (i := 63) (show x < 2 ^ 63 from hx) 1
  rw [Nat.mul_one] at this
  rw [Nat.or_comm, ← show 2 ^ 63 + x = 9223372036854775808 ||| x from this]
  congr 1; omega

theorem byte_at (u k : Nat) : (((u : Int) / 2 ^ (8 * k)) % 256) = ((u / 256 ^ k % 256 : Nat) : Int) := by
  have h : (2 : Int) ^ (8 * k) = ((256 ^ k : Nat) : Int) := by
    rw [show (256 : Nat) ^ k = 2 ^ (8 * k) by rw [Nat.pow_mul], Int.natCast_pow]; rfl
  rw [h]; rfl

/-- The bytes that are laid after k rounds. -/
def laid (u : Nat) (k : Nat) : List Int := (List.range 8).map fun j => if 8 ≤ j + k then ((u / 256 ^ (7 - j) % 256 : Nat) : Int) else 0

theorem laid_succ (u k : Nat) (hk : k < 8) : (laid u k).set (7 - k) ((u / 256 ^ k % 256 : Nat) : Int) = laid u (k + 1) := by
  unfold laid
  apply List.ext_getElem (by simp)
  intro i h1 h2
  simp only [List.getElem_set, List.getElem_map, List.getElem_range]
  by_cases c : 7 - k = i
  · subst c
    rw [if_pos rfl, if_pos (by omega), show 7 - (7 - k) = k by omega]
  · rw [if_neg c]
    by_cases c2 : 8 ≤ i + k
    · rw [if_pos c2, if_pos (by omega)]
    · rw [if_neg c2, if_neg (by simp at h2; omega)]

set_option maxRecDepth 20000 in
set_option maxHeartbeats 1600000 in
theorem put_any (x : Nat) (hx : x < 18446744073709551616) (w : World) : Calls Try.prog 61 #[.float .f64 x] w fun e w' => e = .returned (.string (strOfNums (laid (keyU x) 8))) ∧ Below w.heap.size w w' := by
  have hb := bits_any x
  have hs := fun W => signbit_any x hx W
  have HS := Lib.hid hs; clear hs
  have hmk : ∀ w : World, (Instr.makeSlice 93 (.int .i64 8) (.int .i64 8)).run Try.prog w = .ok (.slice (some ⟨w.heap.size, 0, none⟩) 8 8) (w.alloc (.cells #[.int .u8 0, .int .u8 0, .int .u8 0, .int .u8 0, .int .u8 0, .int .u8 0, .int .u8 0, .int .u8 0] 5)) := fun _ => by kernel_rfl
  have hu : keyU x < 18446744073709551616 := keyU_lt hx
  have hkey := show keyU x = keyU x from rfl
  conv at hkey => rhs; unfold keyU
  generalize keyU x = u at hu hkey ⊢
  have HU := Lib.hid hu; have HK := Lib.hid hkey; clear hu hkey
  obtain ⟨sb, hsb⟩ : ∃ sb, sb = strOfNums (laid u 8) := ⟨_, rfl⟩
  rw [← hsb]
  have HSB := Lib.hid hsb; clear hsb
  go_enter Try.func61, Try.ntmps61
  by_cases c1 : (FloatKind.f64.format.order x x != some .eq) = true

  · have hz : u = 0 := by rw [HK.out]; exact if_pos c1
    have HZ := Lib.hid hz; clear hz
    go_wp2
    have hown : (w.alloc (.cells #[.int .u8 0, .int .u8 0, .int .u8 0, .int .u8 0, .int .u8 0, .int .u8 0, .int .u8 0, .int .u8 0] 5)).ownsRow w.heap.size 5 1 (.slice (some ⟨w.heap.size, 0, none⟩) 8 8) 8 ((laid u 0).map (Value.int .u8)) := ⟨rfl, .inr ⟨w.heap.size, 8, _, rfl, Nat.le_refl _, heap_alloc_new w _, Nat.le_refl _, by decide, rfl, rfl⟩⟩
    have hbw : Below w.heap.size w (w.alloc (.cells #[.int .u8 0, .int .u8 0, .int .u8 0, .int .u8 0, .int .u8 0, .int .u8 0, .int .u8 0, .int .u8 0] 5)) := (Below.refl _ _).alloc (Nat.le_refl _) _
    have HO := Lib.hid hown; have HBW := Lib.hid hbw; clear hown hbw
    obtain ⟨B, hB⟩ : ∃ B, B = w.heap.size := ⟨_, rfl⟩
    rw [← hB] at HO HBW ⊢
    have HB := Lib.hid hB; clear hB
    go_loopw [22] (fun vi wr => ∃ k : Nat, vi = .int .i64 k ∧ k ≤ 8 ∧ Hid (wr.ownsRow B 5 1 (.slice (some ⟨B, 0, none⟩) 8 8) 8 ((laid u k).map (Value.int .u8))) ∧ Hid (Below B w wr)) (fun vi _ => 8 - (intOf vi).toNat)
    case atStart => exact ⟨0, by simp, by omega, HO, HBW⟩
    case round =>
      obtain ⟨k, rfl, hk, HR, HG⟩ := hrel
      by_cases hlt : k < 8
      · have hltz : (k : Int) < 8 := by omega
        have hc : wr.cell? ⟨B, 7 - k, none⟩ = some (.int .u8 ((laid u k).getD (7 - k) 0)) := by
          rw [HR.out.cellAt (7 - k) (by omega), List.getElem?_map, List.getElem?_eq_getElem (by simp [laid]; omega), getD_lt _ _ (by simp [laid]; omega)]; rfl
        generalize (laid u k).getD (7 - k) 0 = had at hc
        have hf := HR.out.frozenAt (7 - k)
        have i1 : IntKind.i64.wrap (7 - (k : Int)) = ((7 - k : Nat) : Int) := by rw [IntKind.wrap_i64]; omega
        have i2 : IntKind.i64.wrap (8 * (k : Int)) = ((8 * k : Nat) : Int) := by rw [IntKind.wrap_i64]; omega
        go_wp2
        rw [show (Value.int .u8 0) = .int .u8 ((u / 256 ^ k % 256 : Nat) : Int) by rw [HZ.out]; simp]
        obtain ⟨st, gr⟩ := HR.out.stored (7 - k) (.int .u8 ((u / 256 ^ k % 256 : Nat) : Int))
        rw [← List.map_set, laid_succ u k hlt] at st
        exact ⟨⟨k + 1, by go_num, by omega, st, HG.out.grown gr (by have := HG.out.size; rw [HB.out]; exact this) fun q hq => Nat.le_of_eq (Option.some.inj hq)⟩, by simp [intOf]; omega⟩
      · obtain rfl : k = 8 := by omega
        have hconv := run_convert_bytes_arg (P := Try.prog) wr 93 5 Try.underlying93 Try.underlying5 B 0 8 8 (laid u 8) (by simp [laid]) (fun i hi => by
          rw [Nat.zero_add, HR.out.cellAt i (by omega), List.getElem?_map, List.getElem?_eq_getElem (by simp [laid]; omega), getD_lt _ _ (by simp [laid]; omega)]; rfl)
        rw [← HSB.out] at hconv
        go_wp2
        go_ret
        exact ⟨rfl, by rw [HB.out] at HG; exact HG.out⟩
  · by_cases c2 : 9223372036854775808 ≤ x
    · have HZ : Hid (u = 18446744073709551615 - x) := Lib.hid (by rw [HK.out]; exact (if_neg c1).trans (if_pos c2))
      have hneg : wrap64 (x : Int) < 0 := by unfold wrap64; omega
      have hbx : bits .xor .u64 IntKind.u64.max x = (u : Int) := by rw [HZ.out, xor_all x hx]
      go_wp2
      have hown : (w.alloc (.cells #[.int .u8 0, .int .u8 0, .int .u8 0, .int .u8 0, .int .u8 0, .int .u8 0, .int .u8 0, .int .u8 0] 5)).ownsRow w.heap.size 5 1 (.slice (some ⟨w.heap.size, 0, none⟩) 8 8) 8 ((laid u 0).map (Value.int .u8)) := ⟨rfl, .inr ⟨w.heap.size, 8, _, rfl, Nat.le_refl _, heap_alloc_new w _, Nat.le_refl _, by decide, rfl, rfl⟩⟩
      have hbw : Below w.heap.size w (w.alloc (.cells #[.int .u8 0, .int .u8 0, .int .u8 0, .int .u8 0, .int .u8 0, .int .u8 0, .int .u8 0, .int .u8 0] 5)) := (Below.refl _ _).alloc (Nat.le_refl _) _
      have HO := Lib.hid hown; have HBW := Lib.hid hbw; clear hown hbw
      obtain ⟨B, hB⟩ : ∃ B, B = w.heap.size := ⟨_, rfl⟩
      rw [← hB] at HO HBW ⊢
      have HB := Lib.hid hB; clear hB
      go_loopw [22] (fun vi wr => ∃ k : Nat, vi = .int .i64 k ∧ k ≤ 8 ∧ Hid (wr.ownsRow B 5 1 (.slice (some ⟨B, 0, none⟩) 8 8) 8 ((laid u k).map (Value.int .u8))) ∧ Hid (Below B w wr)) (fun vi _ => 8 - (intOf vi).toNat)
      case atStart => exact ⟨0, by simp, by omega, HO, HBW⟩
      case round =>
        obtain ⟨k, rfl, hk, HR, HG⟩ := hrel
        by_cases hlt : k < 8
        · have hltz : (k : Int) < 8 := by omega
          have hc : wr.cell? ⟨B, 7 - k, none⟩ = some (.int .u8 ((laid u k).getD (7 - k) 0)) := by
            rw [HR.out.cellAt (7 - k) (by omega), List.getElem?_map, List.getElem?_eq_getElem (by simp [laid]; omega), getD_lt _ _ (by simp [laid]; omega)]; rfl
          generalize (laid u k).getD (7 - k) 0 = had at hc
          have hf := HR.out.frozenAt (7 - k)
          have i1 : IntKind.i64.wrap (7 - (k : Int)) = ((7 - k : Nat) : Int) := by rw [IntKind.wrap_i64]; omega
          have i2 : IntKind.i64.wrap (8 * (k : Int)) = ((8 * k : Nat) : Int) := by rw [IntKind.wrap_i64]; omega
          go_wp2
          rw [byte_at]
          obtain ⟨st, gr⟩ := HR.out.stored (7 - k) (.int .u8 ((u / 256 ^ k % 256 : Nat) : Int))
          rw [← List.map_set, laid_succ u k hlt] at st
          exact ⟨⟨k + 1, by go_num, by omega, st, HG.out.grown gr (by have := HG.out.size; rw [HB.out]; exact this) fun q hq => Nat.le_of_eq (Option.some.inj hq)⟩, by simp [intOf]; omega⟩
        · obtain rfl : k = 8 := by omega
          have hconv := run_convert_bytes_arg (P := Try.prog) wr 93 5 Try.underlying93 Try.underlying5 B 0 8 8 (laid u 8) (by simp [laid]) (fun i hi => by
            rw [Nat.zero_add, HR.out.cellAt i (by omega), List.getElem?_map, List.getElem?_eq_getElem (by simp [laid]; omega), getD_lt _ _ (by simp [laid]; omega)]; rfl)
          rw [← HSB.out] at hconv
          go_wp2
          go_ret
          exact ⟨rfl, by rw [HB.out] at HG; exact HG.out⟩
    · have HZ : Hid (u = x + 9223372036854775808) := Lib.hid (by rw [HK.out]; exact (if_neg c1).trans (if_neg c2))
      have hneg : ¬ wrap64 (x : Int) < 0 := by unfold wrap64; omega
      have hbx : bits .or .u64 x 9223372036854775808 = (u : Int) := by rw [HZ.out, or_top x (by omega)]
      go_wp2
      have hown : (w.alloc (.cells #[.int .u8 0, .int .u8 0, .int .u8 0, .int .u8 0, .int .u8 0, .int .u8 0, .int .u8 0, .int .u8 0] 5)).ownsRow w.heap.size 5 1 (.slice (some ⟨w.heap.size, 0, none⟩) 8 8) 8 ((laid u 0).map (Value.int .u8)) := ⟨rfl, .inr ⟨w.heap.size, 8, _, rfl, Nat.le_refl _, heap_alloc_new w _, Nat.le_refl _, by decide, rfl, rfl⟩⟩
      have hbw : Below w.heap.size w (w.alloc (.cells #[.int .u8 0, .int .u8 0, .int .u8 0, .int .u8 0, .int .u8 0, .int .u8 0, .int .u8 0, .int .u8 0] 5)) := (Below.refl _ _).alloc (Nat.le_refl _) _
      have HO := Lib.hid hown; have HBW := Lib.hid hbw; clear hown hbw
      obtain ⟨B, hB⟩ : ∃ B, B = w.heap.size := ⟨_, rfl⟩
      rw [← hB] at HO HBW ⊢
      have HB := Lib.hid hB; clear hB
      go_loopw [22] (fun vi wr => ∃ k : Nat, vi = .int .i64 k ∧ k ≤ 8 ∧ Hid (wr.ownsRow B 5 1 (.slice (some ⟨B, 0, none⟩) 8 8) 8 ((laid u k).map (Value.int .u8))) ∧ Hid (Below B w wr)) (fun vi _ => 8 - (intOf vi).toNat)
      case atStart => exact ⟨0, by simp, by omega, HO, HBW⟩
      case round =>
        obtain ⟨k, rfl, hk, HR, HG⟩ := hrel
        by_cases hlt : k < 8
        · have hltz : (k : Int) < 8 := by omega
          have hc : wr.cell? ⟨B, 7 - k, none⟩ = some (.int .u8 ((laid u k).getD (7 - k) 0)) := by
            rw [HR.out.cellAt (7 - k) (by omega), List.getElem?_map, List.getElem?_eq_getElem (by simp [laid]; omega), getD_lt _ _ (by simp [laid]; omega)]; rfl
          generalize (laid u k).getD (7 - k) 0 = had at hc
          have hf := HR.out.frozenAt (7 - k)
          have i1 : IntKind.i64.wrap (7 - (k : Int)) = ((7 - k : Nat) : Int) := by rw [IntKind.wrap_i64]; omega
          have i2 : IntKind.i64.wrap (8 * (k : Int)) = ((8 * k : Nat) : Int) := by rw [IntKind.wrap_i64]; omega
          go_wp2
          rw [byte_at]
          obtain ⟨st, gr⟩ := HR.out.stored (7 - k) (.int .u8 ((u / 256 ^ k % 256 : Nat) : Int))
          rw [← List.map_set, laid_succ u k hlt] at st
          exact ⟨⟨k + 1, by go_num, by omega, st, HG.out.grown gr (by have := HG.out.size; rw [HB.out]; exact this) fun q hq => Nat.le_of_eq (Option.some.inj hq)⟩, by simp [intOf]; omega⟩
        · obtain rfl : k = 8 := by omega
          have hconv := run_convert_bytes_arg (P := Try.prog) wr 93 5 Try.underlying93 Try.underlying5 B 0 8 8 (laid u 8) (by simp [laid]) (fun i hi => by
            rw [Nat.zero_add, HR.out.cellAt i (by omega), List.getElem?_map, List.getElem?_eq_getElem (by simp [laid]; omega), getD_lt _ _ (by simp [laid]; omega)]; rfl)
          rw [← HSB.out] at hconv
          go_wp2
          go_ret
          exact ⟨rfl, by rw [HB.out] at HG; exact HG.out⟩

/-- The number that bytes spell, the highest first. -/
def valB : List UInt8 → Nat
  | [] => 0
  | b :: l => b.toNat * 256 ^ l.length + valB l

theorem valB_lt (l : List UInt8) : valB l < 256 ^ l.length := by
  induction l with
  | nil => simp [valB]
  | cons b l ih =>
    have hb : b.toNat < 256 := b.toNat_lt
    have : (b.toNat + 1) * 256 ^ l.length ≤ 256 * 256 ^ l.length := Nat.mul_le_mul_right _ hb
    rw [Nat.add_mul] at this
    simp only [valB, List.length_cons, Nat.pow_succ]
    omega

theorem cmpB (l bs : List UInt8) (h : l.length = bs.length) : Lib.compareBytes l bs = if valB l < valB bs then -1 else if valB bs < valB l then 1 else 0 := by
  induction l generalizing bs with
  | nil => cases bs with
    | nil => rfl
    | cons b bs => simp at h
  | cons a l ih => cases bs with
    | nil => simp at h
    | cons b bs =>
      have hl : l.length = bs.length := by simpa using h
      have h1 := valB_lt l
      have h2 := valB_lt bs
      rw [hl] at h1
      have far : ∀ x y : Nat, x < y → x * 256 ^ bs.length + 256 ^ bs.length ≤ y * 256 ^ bs.length := fun x y hxy => by
        have := Nat.mul_le_mul_right (256 ^ bs.length) (show x + 1 ≤ y from hxy)
        rw [Nat.add_mul, Nat.one_mul] at this; exact this
      simp only [Lib.compareBytes, valB, hl]
      by_cases c1 : a < b
      · have := far _ _ (UInt8.lt_iff_toNat_lt.1 c1)
        rw [if_pos c1, if_pos (by omega)]
      · by_cases c2 : b < a
        · have := far _ _ (UInt8.lt_iff_toNat_lt.1 c2)
          rw [if_neg c1, if_pos c2, if_neg (by omega), if_pos (by omega)]
        · have e : a.toNat = b.toNat := by
            rw [UInt8.lt_iff_toNat_lt] at c1 c2; omega
          rw [if_neg c1, if_neg c2, ih bs hl, e]
          by_cases d1 : valB l < valB bs
          · rw [if_pos d1, if_pos (by omega)]
          · by_cases d2 : valB bs < valB l
            · rw [if_neg d1, if_pos d2, if_neg (by omega), if_pos (by omega)]
            · rw [if_neg d1, if_neg d2, if_neg (by omega), if_neg (by omega)]

theorem digits8 (u : Nat) (hu : u < 18446744073709551616) : u / 72057594037927936 % 256 * 72057594037927936 + (u / 281474976710656 % 256 * 281474976710656 + (u / 1099511627776 % 256 * 1099511627776 + (u / 4294967296 % 256 * 4294967296 + (u / 16777216 % 256 * 16777216 + (u / 65536 % 256 * 65536 + (u / 256 % 256 * 256 + u % 256)))))) = u := by
  have q1 : u / 65536 = u / 256 / 256 := by rw [Nat.div_div_eq_div_mul]
  have q2 : u / 16777216 = u / 256 / 256 / 256 := by rw [Nat.div_div_eq_div_mul, Nat.div_div_eq_div_mul]
  have q3 : u / 4294967296 = u / 256 / 256 / 256 / 256 := by rw [Nat.div_div_eq_div_mul, Nat.div_div_eq_div_mul, Nat.div_div_eq_div_mul]
  have q4 : u / 1099511627776 = u / 256 / 256 / 256 / 256 / 256 := by rw [Nat.div_div_eq_div_mul, Nat.div_div_eq_div_mul, Nat.div_div_eq_div_mul, Nat.div_div_eq_div_mul]
  have q5 : u / 281474976710656 = u / 256 / 256 / 256 / 256 / 256 / 256 := by rw [Nat.div_div_eq_div_mul, Nat.div_div_eq_div_mul, Nat.div_div_eq_div_mul, Nat.div_div_eq_div_mul, Nat.div_div_eq_div_mul]
  have q6 : u / 72057594037927936 = u / 256 / 256 / 256 / 256 / 256 / 256 / 256 := by rw [Nat.div_div_eq_div_mul, Nat.div_div_eq_div_mul, Nat.div_div_eq_div_mul, Nat.div_div_eq_div_mul, Nat.div_div_eq_div_mul, Nat.div_div_eq_div_mul]
  rw [q6, q5, q4, q3, q2, q1]
  have s : ∀ a : Nat, ∃ q d, a / 256 = q ∧ a % 256 = d ∧ a = q * 256 + d ∧ d < 256 := fun a => ⟨_, _, rfl, rfl, by omega, by omega⟩
  clear q1 q2 q3 q4 q5 q6
  obtain ⟨a1, d0, e1, f0, g0, l0⟩ := s u
  rw [e1, f0]
  obtain ⟨a2, d1, e2, f1, g1, l1⟩ := s a1
  rw [e2, f1]
  obtain ⟨a3, d2, e3, f2, g2, l2⟩ := s a2
  rw [e3, f2]
  obtain ⟨a4, d3, e4, f3, g3, l3⟩ := s a3
  rw [e4, f3]
  obtain ⟨a5, d4, e5, f4, g4, l4⟩ := s a4
  rw [e5, f4]
  obtain ⟨a6, d5, e6, f5, g5, l5⟩ := s a5
  rw [e6, f5]
  obtain ⟨a7, d6, e7, f6, g6, l6⟩ := s a6
  rw [e7, f6]
  clear e1 e2 e3 e4 e5 e6 e7 f0 f1 f2 f3 f4 f5 f6 s
  omega

set_option maxRecDepth 20000 in
theorem laid_val (u : Nat) (hu : u < 18446744073709551616) : (strOfNums (laid u 8)).data.toList.length = 8 ∧ valB (strOfNums (laid u 8)).data.toList = u := by
  have e : laid u 8 = [((u / 72057594037927936 % 256 : Nat) : Int), ((u / 281474976710656 % 256 : Nat) : Int), ((u / 1099511627776 % 256 : Nat) : Int), ((u / 4294967296 % 256 : Nat) : Int), ((u / 16777216 % 256 : Nat) : Int), ((u / 65536 % 256 : Nat) : Int), ((u / 256 % 256 : Nat) : Int), ((u % 256 : Nat) : Int)] := by
    simp [laid, show List.range 8 = [0, 1, 2, 3, 4, 5, 6, 7] from rfl]
  have hd := digits8 u hu
  rw [e]
  have lt : ∀ a : Nat, a % 256 < 256 := fun a => Nat.mod_lt _ (by omega)
  generalize hd7 : u / 72057594037927936 % 256 = d7 at hd ⊢
  generalize hd6 : u / 281474976710656 % 256 = d6 at hd ⊢
  generalize hd5 : u / 1099511627776 % 256 = d5 at hd ⊢
  generalize hd4 : u / 4294967296 % 256 = d4 at hd ⊢
  generalize hd3 : u / 16777216 % 256 = d3 at hd ⊢
  generalize hd2 : u / 65536 % 256 = d2 at hd ⊢
  generalize hd1 : u / 256 % 256 = d1 at hd ⊢
  generalize hd0 : u % 256 = d0 at hd ⊢
  have b : ∀ d : Nat, d < 256 → (UInt8.ofNat d).toNat = d := fun d h => by rw [UInt8.toNat_ofNat']; exact Nat.mod_eq_of_lt h
  refine ⟨rfl, ?_⟩
  show valB [UInt8.ofNat d7, UInt8.ofNat d6, UInt8.ofNat d5, UInt8.ofNat d4, UInt8.ofNat d3, UInt8.ofNat d2, UInt8.ofNat d1, UInt8.ofNat d0] = u
  simp only [valB, List.length_cons, List.length_nil]
  rw [b d7 (hd7 ▸ lt _), b d6 (hd6 ▸ lt _), b d5 (hd5 ▸ lt _), b d4 (hd4 ▸ lt _), b d3 (hd3 ▸ lt _), b d2 (hd2 ▸ lt _), b d1 (hd1 ▸ lt _), b d0 (hd0 ▸ lt _)]
  simpa using hd

theorem cmpstring_any (a b : ByteArray) (w : World) : (callFunc 78 #[.string a, .string b]).run Try.prog w = .ok (.value (.int .i64 (Lib.compareBytes a.data.toList b.data.toList))) w := by
  rw [run_callFunc_extern Try.func78 (by kernel_rfl) (by kernel_rfl) (by kernel_rfl) (e := Extern.BytealgCompare.compare) (by kernel_rfl)]
  rw [Lib.run_compareString]
  rfl

theorem cmpS_any (a b : ByteArray) (w : World) : Calls Try.prog 60 #[.string a, .string b] w fun e w' => e = .returned (.int .i64 (Lib.compareBytes a.data.toList b.data.toList)) ∧ w = w' := by
  have hb := cmpstring_any a b
  go_enter Try.func60, Try.ntmps60
  go_wp2
  go_ret
  exact ⟨rfl, rfl⟩

set_option maxRecDepth 20000 in
set_option maxHeartbeats 1600000 in
theorem fcompare_any (x y : Nat) (hx : x < 18446744073709551616) (hy : y < 18446744073709551616) (w : World) : Calls Try.prog 46 #[.float .f64 x, .float .f64 y] w fun e w' => e = .returned (.int .i64 (cmpF x y)) ∧ Below w.heap.size w w' := by
  have hpx := fun W => put_any x hx W
  have hpy := fun W => put_any y hy W
  have h1 := fun h => order_lt hx hy h
  have h2 := fun h => order_gt hx hy h
  have hv : Lib.compareBytes (strOfNums (laid (keyU x) 8)).data.toList (strOfNums (laid (keyU y) 8)).data.toList = cmpF x y := by
    obtain ⟨l1, v1⟩ := laid_val (keyU x) (keyU_lt hx)
    obtain ⟨l2, v2⟩ := laid_val (keyU y) (keyU_lt hy)
    rw [cmpB _ _ (by rw [l1, l2]), v1, v2]; rfl
  have h3 : keyU x < keyU y → cmpF x y = -1 := fun h => by unfold cmpF; rw [if_pos h]
  have h4 : keyU y < keyU x → cmpF x y = 1 := fun h => by unfold cmpF; rw [if_neg (by omega), if_pos h]
  generalize cmpF x y = r at hv h3 h4 ⊢
  generalize keyU x = kx at hpx h1 h2 hv h3 h4
  generalize keyU y = ky at hpy h1 h2 hv h3 h4
  generalize strOfNums (laid kx 8) = sx at hpx hv
  generalize strOfNums (laid ky 8) = sy at hpy hv
  have hcs := fun W => cmpS_any sx sy W
  rw [hv] at hcs
  have HPX := Lib.hid hpx; have HPY := Lib.hid hpy; have HCS := Lib.hid hcs; have H1 := Lib.hid h1; have H2 := Lib.hid h2; have H3 := Lib.hid h3; have H4 := Lib.hid h4
  clear hpx hpy hcs h1 h2 h3 h4 hv
  go_enter Try.func46, Try.ntmps46
  by_cases c1 : (FloatKind.f64.format.order x y == some .lt) = true
  · go_wp2
    go_ret
    exact ⟨by rw [H3.out (H1.out (beq_iff_eq.1 c1))]; rfl, Below.refl _ _⟩
  · by_cases c2 : (FloatKind.f64.format.order x y == some .gt) = true
    · go_wp2
      go_ret
      exact ⟨by rw [H4.out (H2.out (beq_iff_eq.1 c2))]; rfl, Below.refl _ _⟩
    · go_wp2_with fail
      refine (HPX.out _).mono ?_
      rintro e w1 ⟨rfl, hb1⟩
      go_wp2_with fail
      refine (HPY.out _).mono ?_
      rintro e w2 ⟨rfl, hb2⟩
      go_wp2_with fail
      refine (HCS.out _).mono ?_
      rintro e w3 ⟨rfl, rfl⟩
      go_wp2
      go_ret
      exact ⟨rfl, hb1.trans (hb2.mono hb1.size)⟩

end Go.Proofs.Ythicjpkomigacaa
