/- The plain law of fold: values. No program in sight. -/
import Derived.Test.YthicjpkomigacaaFoldP
import Derived.Test.YthicjpkomigacaaVal
namespace Go.Proofs.Ythicjpkomigacaa
open Go.RowKit

/-- Alike, as op.SameValue says. -/
def EqV (a b : ValD) : Prop := a.there = b.there ∧ keyU a.num = keyU b.num ∧ a.int = b.int ∧ a.text.toList = b.text.toList

theorem sameVD_iff (a b : ValD) : sameVD a b = true ↔ EqV a b := by
  unfold sameVD sameF EqV
  simp

theorem EqV.refl (a : ValD) : EqV a a := ⟨rfl, rfl, rfl, rfl⟩
theorem EqV.symm {a b : ValD} (h : EqV a b) : EqV b a := ⟨h.1.symm, h.2.1.symm, h.2.2.1.symm, h.2.2.2.symm⟩
theorem EqV.trans {a b c : ValD} (h : EqV a b) (h' : EqV b c) : EqV a c := ⟨h.1.trans h'.1, h.2.1.trans h'.2.1, h.2.2.1.trans h'.2.2.1, h.2.2.2.trans h'.2.2.2⟩

/-- The kind of a key that is no register. -/
def kindK (k : ByteArray) : Int := if ((c0 k).toNat : Int) = 99 then 1 else if ((c0 k).toNat : Int) = 120 then 2 else 3

theorem isK_list {k : ByteArray} (h : isK k = true) : k.toList.isEmpty = false := by
  unfold isK at h
  simp only [Bool.and_eq_true] at h
  simpa using h.1

theorem fits_non {k : ByteArray} {a : ActD} (h : fitsD k a = true) (hr : regK k = false) :
    a.text.toList = [] ∧ a.kind = kindK k ∧ (kindK k = 1 → keyU a.num = keyU 0) ∧ (kindK k ≠ 1 → a.int = 0) := by
  unfold fitsD at h
  simp only [Bool.and_eq_true] at h
  obtain ⟨h1, h2, h3⟩ := h
  have hl := isK_list h1
  unfold regK at hr
  rw [hl] at hr
  simp only [Bool.not_false, Bool.true_and, Bool.or_eq_false_iff, decide_eq_false_iff_not] at hr
  have hk : a.kind = kindK k := by
    unfold clsD at h3
    rw [if_neg hr.1, if_neg hr.2] at h3
    unfold kindK
    split at h3
    · rename_i c; rw [if_pos c]; simpa using h3
    · rename_i c
      rw [if_neg c]
      split at h3
      · rename_i c'; rw [if_pos c']; simpa using h3
      · rename_i c'; rw [if_neg c']; simpa using h3
  have hk3 : kindK k = 1 ∨ kindK k = 2 ∨ kindK k = 3 := by
    unfold kindK
    split
    · simp
    · split <;> simp
  unfold rightD at h2
  simp only [Bool.and_eq_true] at h2
  obtain ⟨_, h2⟩ := h2
  rw [hk] at h2
  rcases hk3 with e | e | e
  · rw [e] at h2 ⊢
    simp at h2
    refine ⟨by simpa using h2.2, by rw [hk, e], fun _ => by simpa [nil0, sameF] using h2.1, fun h => absurd rfl h⟩
  · rw [e] at h2 ⊢
    simp at h2
    refine ⟨by simpa using h2.2, by rw [hk, e], fun h => by omega, fun _ => h2.1⟩
  · rw [e] at h2 ⊢
    simp at h2
    refine ⟨by simpa using h2.2, by rw [hk, e], fun h => by omega, fun _ => h2.1⟩

theorem kindK_three (k : ByteArray) : kindK k = 1 ∨ kindK k = 2 ∨ kindK k = 3 := by
  unfold kindK
  split
  · simp
  · split <;> simp

/-- An act of the key's kind, with nothing beside. -/
theorem fits_of {k : ByteArray} {a : ActD} (hk : isK k = true) (hr : regK k = false) (ht : a.text.toList = []) (he : a.kind = kindK k) (h1 : kindK k = 1 → keyU a.num = keyU 0) (h2 : kindK k ≠ 1 → a.int = 0) : fitsD k a = true := by
  have hl := isK_list hk
  unfold regK at hr
  rw [hl] at hr
  simp only [Bool.not_false, Bool.true_and, Bool.or_eq_false_iff, decide_eq_false_iff_not] at hr
  have hz : a.text.size = 0 := (size_zero a.text).1 ht
  unfold fitsD
  rw [hk]
  simp only [Bool.true_and, Bool.and_eq_true]
  refine ⟨?_, ?_⟩
  · unfold rightD
    rw [he, hz, ht]
    rcases kindK_three k with e | e | e
    · have := h1 e
      rw [e]; simp [nil0, sameF, this]
    · have := h2 (by omega)
      rw [e]; simp [this]
    · have := h2 (by omega)
      rw [e]; simp [this]
  · unfold clsD
    rw [if_neg hr.1, if_neg hr.2, he]
    unfold kindK
    split
    · simp
    · split <;> simp

/-- What an act of a key that is no register brings: a whole number, or the place of a real number among all. -/
def numA (k : ByteArray) (a : ActD) : Int := if kindK k = 1 then a.int else (keyU a.num : Int)
def opA (k : ByteArray) (x y : Int) : Int := if kindK k = 1 then wrap64 (x + y) else if kindK k = 2 then (if x < y then y else x) else (if y < x then y else x)

theorem opA_comm (k : ByteArray) (x y : Int) : opA k x y = opA k y x := by
  unfold opA wrap64
  split
  · omega
  · split <;> (repeat' split) <;> omega
theorem opA_assoc (k : ByteArray) (x y z : Int) : opA k (opA k x y) z = opA k x (opA k y z) := by
  unfold opA wrap64
  split
  · omega
  · split <;> (repeat' split) <;> omega

def stepA (k : ByteArray) (o : Option Int) (x : Int) : Option Int := match o with | none => some x | some y => some (opA k y x)

theorem stepA_swap (k : ByteArray) (o : Option Int) (x y : Int) : stepA k (stepA k o x) y = stepA k (stepA k o y) x := by
  cases o with
  | none => simp only [stepA]; rw [opA_comm]
  | some z => simp only [stepA]; rw [opA_assoc, opA_assoc, opA_comm k x y]

theorem foldA_perm (k : ByteArray) {l l' : List Int} (p : l.Perm l') : ∀ o, l.foldl (stepA k) o = l'.foldl (stepA k) o := by
  induction p with
  | nil => exact fun _ => rfl
  | cons x _ ih => exact fun o => ih _
  | swap x y l => exact fun o => by simp only [List.foldl_cons]; rw [stepA_swap]
  | trans _ _ ih1 ih2 => exact fun o => (ih1 o).trans (ih2 o)

/-- The value v stands for the whole number. -/
def RepV (k : ByteArray) (v : ValD) : Option Int → Prop
  | none => v.there = false ∧ v.num = 0 ∧ v.int = 0 ∧ v.text.toList = []
  | some x => v.there = true ∧ v.text.toList = [] ∧ (kindK k = 1 → keyU v.num = keyU 0 ∧ v.int = x) ∧ (kindK k ≠ 1 → v.int = 0 ∧ (keyU v.num : Int) = x)

theorem RepV.eqv {k : ByteArray} {v v' : ValD} {o : Option Int} (h : RepV k v o) (h' : RepV k v' o) : EqV v v' := by
  cases o with
  | none => exact ⟨by rw [h.1, h'.1], by rw [h.2.1, h'.2.1], by rw [h.2.2.1, h'.2.2.1], by rw [h.2.2.2, h'.2.2.2]⟩
  | some x =>
    obtain ⟨a1, a2, a3, a4⟩ := h
    obtain ⟨b1, b2, b3, b4⟩ := h'
    by_cases c : kindK k = 1
    · exact ⟨by rw [a1, b1], by rw [(a3 c).1, (b3 c).1], by rw [(a3 c).2, (b3 c).2], by rw [a2, b2]⟩
    · have e := (a4 c).2.trans (b4 c).2.symm
      exact ⟨by rw [a1, b1], by omega, by rw [(a4 c).1, (b4 c).1], by rw [a2, b2]⟩

theorem empty_list : ByteArray.empty.toList = [] := by rw [ByteArray.toList_eq]; rfl

theorem keyU_max (x y : Nat) : (keyU (maxF x y) : Int) = if (keyU x : Int) < keyU y then (keyU y : Int) else keyU x := by
  unfold maxF
  by_cases h : keyU x < keyU y
  · rw [if_pos h, if_pos (by omega)]
  · rw [if_neg h, if_neg (by omega)]
theorem keyU_min (x y : Nat) : (keyU (minF x y) : Int) = if (keyU y : Int) < keyU x then (keyU y : Int) else keyU x := by
  unfold minF
  by_cases h : keyU y < keyU x
  · rw [if_pos h, if_pos (by omega)]
  · rw [if_neg h, if_neg (by omega)]

theorem RepV.step {k : ByteArray} {v : ValD} {o : Option Int} {a : ActD} (h : RepV k v o) (hf : fitsD k a = true) (hr : regK k = false) : RepV k (afterD k v a) (stepA k o (numA k a)) := by
  obtain ⟨f1, f2, f3, f4⟩ := fits_non hf hr
  unfold afterD
  rw [if_pos hf, hr]
  cases o with
  | none =>
    rw [h.1]
    simp only [Bool.false_and, Bool.false_eq_true, if_false]
    rw [if_neg (by rw [f2]; rcases kindK_three k with e | e | e <;> omega)]
    refine ⟨rfl, f1, fun c => ⟨f3 c, by unfold numA; rw [if_pos c]⟩, fun c => ⟨f4 c, by unfold numA; rw [if_neg c]⟩⟩
  | some x =>
    obtain ⟨h1, h2, h3, h4⟩ := h
    rw [h1]
    simp only [Bool.not_false, Bool.and_true, if_true]
    unfold joinD
    rcases kindK_three k with e | e | e
    · rw [f2, e]
      simp only [if_true]
      rw [if_neg (by omega)]
      refine ⟨rfl, empty_list, fun c => ⟨rfl, ?_⟩, fun c => absurd e c⟩
      simp only [opA, numA, if_pos e]
      rw [(h3 e).2]
    · rw [f2, e]
      simp only [show ¬ ((2 : Int) = 1) by omega, if_false, if_true]
      rw [if_neg (by omega)]
      refine ⟨rfl, empty_list, fun c => by omega, fun c => ⟨rfl, ?_⟩⟩
      simp only [opA, numA, if_neg c, if_pos e]
      rw [keyU_max, (h4 c).2]
    · rw [f2, e]
      simp only [show ¬ ((3 : Int) = 1) by omega, show ¬ ((3 : Int) = 2) by omega, if_false, if_true]
      rw [if_neg (by omega)]
      refine ⟨rfl, empty_list, fun c => by omega, fun c => ⟨rfl, ?_⟩⟩
      simp only [opA, numA, if_neg c, if_neg (show ¬ kindK k = 2 by omega)]
      rw [keyU_min, (h4 c).2]

/-- Two acts in one. -/
theorem both_non {k : ByteArray} {a b : ActD} (ha : fitsD k a = true) (hb : fitsD k b = true) (hr : regK k = false) : fitsD k (bothD k a b) = true ∧ numA k (bothD k a b) = opA k (numA k a) (numA k b) := by
  obtain ⟨f1, f2, f3, f4⟩ := fits_non ha hr
  obtain ⟨g1, g2, g3, g4⟩ := fits_non hb hr
  have hk : isK k = true := by unfold fitsD at ha; simp only [Bool.and_eq_true] at ha; exact ha.1
  unfold bothD
  rw [hr, ha, hb]
  simp only [Bool.not_true, Bool.or_false, Bool.false_eq_true, if_false]
  unfold joinD
  rcases kindK_three k with e | e | e
  · rw [g2, e]
    simp only [if_true]
    refine ⟨fits_of hk hr empty_list (by rw [e]) (fun _ => rfl) (fun c => absurd e c), ?_⟩
    simp only [opA, numA, if_pos e]
  · rw [g2, e]
    simp only [show ¬ ((2 : Int) = 1) by omega, if_false, if_true]
    refine ⟨fits_of hk hr empty_list (by rw [e]) (fun c => by omega) (fun _ => rfl), ?_⟩
    simp only [opA, numA, if_neg (show ¬ kindK k = 1 by omega), if_pos e]
    rw [keyU_max]
  · rw [g2, e]
    simp only [show ¬ ((3 : Int) = 1) by omega, show ¬ ((3 : Int) = 2) by omega, if_false, if_true]
    refine ⟨fits_of hk hr empty_list (by rw [e]) (fun c => by omega) (fun _ => rfl), ?_⟩
    simp only [opA, numA, if_neg (show ¬ kindK k = 1 by omega), if_neg (show ¬ kindK k = 2 by omega)]
    rw [keyU_min]

/-- The value of a key that is no register. -/
theorem value_non {k : ByteArray} {us : List VerD} (hf : ∀ u ∈ us, fitsD k u.act = true) (hr : regK k = false) : RepV k (valueD k us) ((us.map fun u => numA k u.act).foldl (stepA k) none) := by
  have key : ∀ (us : List VerD) (v : ValD) (o : Option Int), (∀ u ∈ us, fitsD k u.act = true) → RepV k v o →
      (us.foldl (stepV k) (v, none)).2 = none ∧ RepV k (us.foldl (stepV k) (v, none)).1 ((us.map fun u => numA k u.act).foldl (stepA k) o) := by
    intro us
    induction us with
    | nil => exact fun v o _ h => ⟨rfl, h⟩
    | cons u us ih =>
      intro v o hf h
      have hu := hf u (by simp)
      simp only [List.foldl_cons, List.map_cons]
      have e : stepV k (v, none) u = (afterD k v u.act, none) := by
        unfold stepV
        rw [if_pos hu, hr]
        rfl
      rw [e]
      exact ih _ _ (fun x hx => hf x (by simp [hx])) (h.step hu hr)
  obtain ⟨h1, h2⟩ := key us zeroW none hf ⟨rfl, rfl, rfl, empty_list⟩
  unfold valueD
  rw [h1]
  exact h2

/-- The value of a register: what its first version says. -/
def headV (k : ByteArray) : Option VerD → ValD
  | none => zeroW
  | some u => afterD k zeroW u.act

theorem value_reg {k : ByteArray} {us : List VerD} (hf : ∀ u ∈ us, fitsD k u.act = true) (hr : regK k = true) (hs : SortedV us) : valueD k us = headV k us.head? := by
  have key : ∀ (us : List VerD) (x : VerD), (∀ u ∈ us, ordV x u < 0) → us.foldl (stepV k) (zeroW, some x) = (zeroW, some x) := by
    intro us
    induction us with
    | nil => exact fun x _ => rfl
    | cons u us ih =>
      intro x h
      simp only [List.foldl_cons]
      have e : stepV k (zeroW, some x) u = (zeroW, some x) := by
        unfold stepV
        have h1 := h u (by simp)
        have h2 := ordV_anti x u
        dsimp only
        rw [if_neg (show ¬ ordV u x < 0 by omega)]
        split <;> simp
      rw [e]
      exact ih x fun v hv => h v (by simp [hv])
  cases us with
  | nil => rfl
  | cons u us =>
    unfold valueD
    have e : stepV k (zeroW, none) u = (zeroW, some u) := by
      unfold stepV
      rw [if_pos (hf u (by simp)), hr]
      rfl
    rw [List.foldl_cons, e, key us u (List.pairwise_cons.1 hs).1]
    rfl

end Go.Proofs.Ythicjpkomigacaa
