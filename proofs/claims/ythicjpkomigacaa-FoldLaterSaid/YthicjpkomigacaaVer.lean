/- Versions: plain data, and how they lie in memory. -/
import Derived.Test.YthicjpkomigacaaRows
import Derived.Test.YthicjpkomigacaaMem
import Derived.Test.YthicjpkomigacaaPlain
namespace Go.Proofs.Ythicjpkomigacaa
open Go.RowKit

structure ActD where
  kind : Int
  num : Nat
  int : Int
  text : ByteArray

structure VerD where
  key : ByteArray
  at_ : List Int
  origin : Int
  tx : Int
  act : ActD

/-- The eight cells of a version. -/
def encV (va : Value) (v : VerD) : List Value :=
  [.string v.key, va, .int .i64 v.origin, .int .i64 v.tx, .int .i64 v.act.kind, .float .f64 v.act.num, .int .i64 v.act.int, .string v.act.text]

def encA (a : ActD) : List Value := [.int .i64 a.kind, .float .f64 a.num, .int .i64 a.int, .string a.text]

def mx (a b : Int) : Int := if a < b then b else a
def mn (a b : Int) : Int := if b < a then b else a

def maxL : List Int → Int
  | [] => 0
  | x :: xs => xs.foldl mx x

def minL : List Int → Int
  | [] => 0
  | x :: xs => xs.foldl mn x

def timeO (v : VerD) : Option Int :=
  if v.origin = 254 ∧ 0 < v.at_.length then some (maxL v.at_)
  else if 0 ≤ v.origin ∧ v.origin < v.at_.length then some (v.at_.getD v.origin.toNat 0)
  else none

def timeI (v : VerD) : Int := (timeO v).getD 0

def keyV (v : VerD) : List Int := -timeI v :: -v.origin :: -v.tx :: (v.at_.length : Int) :: v.at_
/-- Which of two versions stands first. -/
def ordV (a b : VerD) : Int := cmpL (keyV a) (keyV b)

theorem foldl_take_succ (f : Int → Int → Int) (x : Int) (xs : List Int) (k : Nat) (hk : k < xs.length) : (xs.take (k + 1)).foldl f x = f ((xs.take k).foldl f x) (xs.getD k 0) := by
  rw [List.take_succ_eq_append_getElem hk, List.foldl_append, getD_lt _ _ hk]
  rfl

set_option maxHeartbeats 400000 in
theorem slicesMax_any (va : Value) (xs : List Int) (w : World) (ha : VecR w va xs) (h0 : 0 < xs.length) :
    Calls Try.prog 68 #[va] w fun e w' => e = .returned (.int .i64 (maxL xs)) ∧ w = w' := by
  obtain ⟨x, xs, rfl⟩ : ∃ x l, xs = x :: l := by cases xs with
    | nil => simp at h0
    | cons x l => exact ⟨x, l, rfl⟩
  obtain ⟨A, c, rfl, h1, h2, hca⟩ := ha
  unfold maxLen at h2
  have hs := fun k hk => foldl_take_succ mx x xs k hk
  have HS := Lib.hid hs; clear hs
  have hfin : maxL (x :: xs) = (xs.take xs.length).foldl mx x := by simp [maxL]
  have HF := Lib.hid hfin; clear hfin
  obtain ⟨n, hn⟩ : ∃ n, n = xs.length := ⟨_, rfl⟩
  have hlen : (x :: xs).length = n + 1 := by simp [hn]
  rw [hlen] at h1 hca ⊢
  rw [← hn] at HF HS
  clear hn hlen h0
  obtain ⟨b, o, rfl, hx0⟩ := hca 0 (by omega)
  have hcb : ∀ j, j < n → w.cell? ⟨b, o + (j + 1), none⟩ = some (.int .i64 (xs.getD j 0)) := fun j hj => by
    obtain ⟨b', o', hA, hc⟩ := hca (j + 1) (by omega)
    cases hA
    simpa using hc
  have HCA := Lib.hid hcb; clear hcb hca
  have hx0' : w.cell? ⟨b, o, none⟩ = some (.int .i64 x) := by simpa using hx0
  clear hx0
  go_enter Try.func68, Try.ntmps68
  go_wp2
  go_loop [3, 4] (fun t k => ∃ j : Nat, j ≤ n ∧ k = .int .i64 (j + 1 : Nat) ∧ t = .int .i64 ((xs.take j).foldl mx x)) (fun _ k => n + 1 - (intOf k).toNat)
  case atStart => exact ⟨0, Nat.zero_le _, by go_num, rfl⟩
  case round =>
    obtain ⟨j, hj, rfl, rfl⟩ := hrel
    by_cases hlt : j < n
    · have hx := HCA.out j hlt
      have hs := HS.out j hlt
      generalize xs.getD j 0 = y at hx hs
      generalize (xs.take j).foldl mx x = t at hs ⊢
      have HSS := Lib.hid hs; clear hs
      go_wp2
      go_round
      case rel => exact ⟨j + 1, by omega, by go_num, by rw [HSS.out]; rfl⟩
      case measure => simp [intOf]; omega
    · obtain rfl : j = n := by omega
      go_wp2
      go_ret
      exact ⟨by rw [HF.out]; rfl, rfl⟩

set_option maxHeartbeats 400000 in
theorem slicesMin_any (va : Value) (xs : List Int) (w : World) (ha : VecR w va xs) (h0 : 0 < xs.length) :
    Calls Try.prog 43 #[va] w fun e w' => e = .returned (.int .i64 (minL xs)) ∧ w = w' := by
  obtain ⟨x, xs, rfl⟩ : ∃ x l, xs = x :: l := by cases xs with
    | nil => simp at h0
    | cons x l => exact ⟨x, l, rfl⟩
  obtain ⟨A, c, rfl, h1, h2, hca⟩ := ha
  unfold maxLen at h2
  have hs := fun k hk => foldl_take_succ mn x xs k hk
  have HS := Lib.hid hs; clear hs
  have hfin : minL (x :: xs) = (xs.take xs.length).foldl mn x := by simp [minL]
  have HF := Lib.hid hfin; clear hfin
  obtain ⟨n, hn⟩ : ∃ n, n = xs.length := ⟨_, rfl⟩
  have hlen : (x :: xs).length = n + 1 := by simp [hn]
  rw [hlen] at h1 hca ⊢
  rw [← hn] at HF HS
  clear hn hlen h0
  obtain ⟨b, o, rfl, hx0⟩ := hca 0 (by omega)
  have hcb : ∀ j, j < n → w.cell? ⟨b, o + (j + 1), none⟩ = some (.int .i64 (xs.getD j 0)) := fun j hj => by
    obtain ⟨b', o', hA, hc⟩ := hca (j + 1) (by omega)
    cases hA
    simpa using hc
  have HCA := Lib.hid hcb; clear hcb hca
  have hx0' : w.cell? ⟨b, o, none⟩ = some (.int .i64 x) := by simpa using hx0
  clear hx0
  go_enter Try.func43, Try.ntmps43
  go_wp2
  go_loop [3, 4] (fun t k => ∃ j : Nat, j ≤ n ∧ k = .int .i64 (j + 1 : Nat) ∧ t = .int .i64 ((xs.take j).foldl mn x)) (fun _ k => n + 1 - (intOf k).toNat)
  case atStart => exact ⟨0, Nat.zero_le _, by go_num, rfl⟩
  case round =>
    obtain ⟨j, hj, rfl, rfl⟩ := hrel
    by_cases hlt : j < n
    · have hx := HCA.out j hlt
      have hs := HS.out j hlt
      generalize xs.getD j 0 = y at hx hs
      generalize (xs.take j).foldl mn x = t at hs ⊢
      have HSS := Lib.hid hs; clear hs
      go_wp2
      go_round
      case rel => exact ⟨j + 1, by omega, by go_num, by rw [HSS.out]; rfl⟩
      case measure => simp [intOf]; omega
    · obtain rfl : j = n := by omega
      go_wp2
      go_ret
      exact ⟨by rw [HF.out]; rfl, rfl⟩

theorem VecR.at_ {w : World} {v : Value} {xs : List Int} (h : VecR w v xs) : ∃ A c, v = .slice A xs.length c ∧ xs.length ≤ 9223372036854775807 ∧ ∀ j, j < xs.length → ∃ b o, A = some ⟨b, o, none⟩ ∧ w.cell? ⟨b, o + j, none⟩ = some (.int .i64 (xs.getD j 0)) := by
  obtain ⟨A, c, hv, h1, h2, hc⟩ := h
  exact ⟨A, c, hv, by unfold maxLen at h2; omega, hc⟩

set_option maxHeartbeats 400000 in
theorem at_max (va : Value) (v : VerD) (w : World) (ha : VecR w va v.at_) (h1 : v.origin = 254) (h0 : 0 < v.at_.length) :
    Calls Try.prog 58 #[.agg (encV va v).toArray] w fun e w' => e = .returned (.int .i64 (maxL v.at_)) ∧ Below w.heap.size w w' := by
  obtain ⟨key, xs, o, tx, act⟩ := v
  dsimp only at h1 h0 ha ⊢
  subst h1
  have hm := fun W h => slicesMax_any va xs W h h0
  have HM := Lib.hid hm; clear hm
  have ha' := Lib.hid ha
  obtain ⟨A, c, rfl, hl, hca⟩ := ha.at_
  clear ha
  have hpos : (0 : Int) < (xs.length : Int) := by omega
  generalize maxL xs = r at HM ⊢
  have HCA := Lib.hid hca; clear hca
  generalize xs.length = n at *
  simp only [encV]
  go_enter Try.func58, Try.ntmps58
  go_wp2_with fail
  refine (HM.out _ (ha'.out.below ((Below.refl _ _).alloc (Nat.le_refl _) _))).mono ?_
  rintro e w' ⟨rfl, rfl⟩
  go_wp2
  go_ret
  exact ⟨rfl, (Below.refl _ _).alloc (Nat.le_refl _) _⟩

set_option maxHeartbeats 400000 in
theorem at_place (va : Value) (v : VerD) (w : World) (ha : VecR w va v.at_) (h1 : ¬ (v.origin = 254 ∧ 0 < v.at_.length)) (h0 : 0 ≤ v.origin) (h2 : v.origin < v.at_.length) :
    Calls Try.prog 58 #[.agg (encV va v).toArray] w fun e w' => e = .returned (.int .i64 (v.at_.getD v.origin.toNat 0)) ∧ Below w.heap.size w w' := by
  obtain ⟨key, xs, o, tx, act⟩ := v
  dsimp only at h1 h0 h2 ha ⊢
  obtain ⟨A, c, rfl, hl, hca⟩ := ha.at_
  clear ha
  obtain ⟨k, rfl⟩ := Int.eq_ofNat_of_zero_le h0
  obtain ⟨b, ofs, rfl, hx⟩ := hca k (by omega)
  rw [Int.toNat_natCast]
  generalize xs.getD k 0 = x at hx ⊢
  clear hca
  have hx' := cell_new hx
  have hne : ((k : Int) == 254) = false := by
    rw [beq_eq_false_iff_ne]; intro h; exact h1 ⟨h, by omega⟩
  clear h1
  generalize xs.length = n at *
  simp only [encV]
  go_enter Try.func58, Try.ntmps58
  go_wp2
  go_ret
  exact ⟨rfl, (Below.refl _ _).alloc (Nat.le_refl _) _⟩

set_option maxHeartbeats 400000 in
theorem at_none (va : Value) (v : VerD) (w : World) (ha : VecR w va v.at_) (h1 : ¬ (v.origin = 254 ∧ 0 < v.at_.length)) (h2 : ¬ (0 ≤ v.origin ∧ v.origin < v.at_.length)) :
    Calls Try.prog 58 #[.agg (encV va v).toArray] w fun e w' => e = .panicked [{ v := .iface 82 (.agg #[]), recovered := false }] ∧ Below w.heap.size w w' := by
  obtain ⟨key, xs, o, tx, act⟩ := v
  dsimp only at h1 h2 ha ⊢
  obtain ⟨A, c, rfl, hl, hca⟩ := ha.at_
  clear ha hca
  generalize xs.length = n at *
  simp only [encV]
  by_cases ho : o = 254
  · subst ho
    have hn : n = 0 := by omega
    subst hn
    go_enter Try.func58, Try.ntmps58
    go_wp2
    exact ⟨rfl, rfl, (Below.refl _ _).alloc (Nat.le_refl _) _⟩
  · have hne : (o == 254) = false := by
      rw [beq_eq_false_iff_ne]; exact ho
    clear h1 ho
    by_cases h0 : 0 ≤ o
    · have h3 : ¬ o < n := fun h => h2 ⟨h0, h⟩
      clear h2
      go_enter Try.func58, Try.ntmps58
      go_wp2
      exact ⟨rfl, rfl, (Below.refl _ _).alloc (Nat.le_refl _) _⟩
    · clear h2
      go_enter Try.func58, Try.ntmps58
      go_wp2
      exact ⟨rfl, rfl, (Below.refl _ _).alloc (Nat.le_refl _) _⟩

end Go.Proofs.Ythicjpkomigacaa
