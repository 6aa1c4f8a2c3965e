/- Plain: the blocks of the stable sort. -/
import Derived.Test.YthicjpkomigacaaSortP
namespace Go.Proofs.Ythicjpkomigacaa

/-! Blocks: each sorted, and made of its own places. -/
def BlockOK (L : Nat → Nat → Prop) (s : Nat → Nat) (lo hi : Nat) : Prop := (∀ i, lo ≤ i → i < hi → lo ≤ s i ∧ s i < hi) ∧ SortedOn L lo hi s

theorem BlockOK.of_perm {L : Nat → Nat → Prop} {s s' : Nat → Nat} {lo hi : Nat} (hp : PermOn lo hi s s') (hs : SortedOn L lo hi s') (h : ∀ i, lo ≤ i → i < hi → lo ≤ s i ∧ s i < hi) : BlockOK L s' lo hi := by
  refine ⟨fun i h1 h2 => ?_, hs⟩
  obtain ⟨j, k1, k2, k3⟩ := hp.mem h1 h2
  rw [k3]; exact h j k1 k2

theorem BlockOK.congr {L : Nat → Nat → Prop} {s s' : Nat → Nat} {lo hi : Nat} (h : BlockOK L s lo hi) (e : ∀ i, lo ≤ i → i < hi → s' i = s i) : BlockOK L s' lo hi :=
  ⟨fun i h1 h2 => by rw [e i h1 h2]; exact h.1 i h1 h2, h.2.congr e⟩

/-- All blocks of z places below n. -/
def AllB (L : Nat → Nat → Prop) (s : Nat → Nat) (n z : Nat) : Prop := ∀ k, k * z < n → BlockOK L s (k * z) (min (k * z + z) n)

/-- In the middle of a round: t blocks of 2 z places are done. -/
structure MidB (L : Nat → Nat → Prop) (s : Nat → Nat) (n z t : Nat) : Prop where
  done : ∀ k, k < t → BlockOK L s (k * (2 * z)) (k * (2 * z) + 2 * z)
  rest : ∀ k, 2 * t ≤ k → k * z < n → BlockOK L s (k * z) (min (k * z + z) n)

theorem MidB.start {L : Nat → Nat → Prop} {s : Nat → Nat} {n z : Nat} (h : AllB L s n z) : MidB L s n z 0 := ⟨fun k hk => by omega, fun k _ hk => h k hk⟩

theorem two_mul_block (t z : Nat) : 2 * t * z = t * (2 * z) := by rw [Nat.mul_comm 2 t, Nat.mul_assoc]

theorem MidB.pre {lt : Nat → Nat → Bool} {L : Nat → Nat → Prop} {s : Nat → Nat} {n z t b : Nat} (h : MidB L s n z t) (hz : 0 < z) (h1 : t * (2 * z) + z < b) (h2 : b ≤ n) (h3 : b ≤ t * (2 * z) + 2 * z) (h4 : b = n ∨ b = t * (2 * z) + 2 * z) : Pre lt L s (t * (2 * z)) (t * (2 * z) + z) b := by
  have e1 := two_mul_block t z
  have e2 : (2 * t + 1) * z = t * (2 * z) + z := by rw [Nat.add_mul, e1, Nat.one_mul]
  have l := h.rest (2 * t) (Nat.le_refl _) (by omega)
  have r := h.rest (2 * t + 1) (by omega) (by omega)
  rw [e1] at l
  rw [e2] at r
  have m1 : min (t * (2 * z) + z) n = t * (2 * z) + z := by omega
  have m2 : min (t * (2 * z) + z + z) n = b := by omega
  rw [m1] at l
  rw [m2] at r
  refine ⟨by omega, h1, l.2, r.2, fun i j a1 a2 a3 a4 => ?_⟩
  have := (l.1 i a1 a2).2
  have := (r.1 j a3 a4).1
  omega

theorem MidB.own {L : Nat → Nat → Prop} {s : Nat → Nat} {n z t b : Nat} (h : MidB L s n z t) (h1 : t * (2 * z) + z < b) (h2 : b ≤ n) (h3 : b ≤ t * (2 * z) + 2 * z) (h4 : b = n ∨ b = t * (2 * z) + 2 * z) :
    ∀ i, t * (2 * z) ≤ i → i < b → t * (2 * z) ≤ s i ∧ s i < b := by
  have e1 := two_mul_block t z
  have e2 : (2 * t + 1) * z = t * (2 * z) + z := by rw [Nat.add_mul, e1, Nat.one_mul]
  have l := h.rest (2 * t) (Nat.le_refl _) (by omega)
  have r := h.rest (2 * t + 1) (by omega) (by omega)
  rw [e1] at l
  rw [e2] at r
  have m1 : min (t * (2 * z) + z) n = t * (2 * z) + z := by omega
  have m2 : min (t * (2 * z) + z + z) n = b := by omega
  rw [m1] at l
  rw [m2] at r
  intro i a1 a2
  by_cases c : i < t * (2 * z) + z
  · have := l.1 i a1 c; omega
  · have := r.1 i (by omega) a2; omega

theorem MidB.step {L : Nat → Nat → Prop} {s s' : Nat → Nat} {n z t : Nat} (h : MidB L s n z t) (_hz : 0 < z) (h2 : t * (2 * z) + 2 * z ≤ n) (hp : PermOn (t * (2 * z)) (t * (2 * z) + 2 * z) s s') (hs : SortedOn L (t * (2 * z)) (t * (2 * z) + 2 * z) s') : MidB L s' n z (t + 1) := by
  refine ⟨fun k hk => ?_, fun k hk hkn => ?_⟩
  · by_cases e : k = t
    · subst e; exact BlockOK.of_perm hp hs (h.own (by omega) h2 (Nat.le_refl _) (.inr rfl))
    · have hm : (k + 1) * (2 * z) ≤ t * (2 * z) := Nat.mul_le_mul_right _ (by omega)
      rw [Nat.add_mul, Nat.one_mul] at hm
      exact (h.done k (by omega)).congr fun i _ hi => hp.out (by omega)
  · have hm : 2 * (t + 1) * z ≤ k * z := Nat.mul_le_mul_right _ hk
    rw [two_mul_block, Nat.add_mul, Nat.one_mul] at hm
    exact (h.rest k (by omega) hkn).congr fun i hi _ => hp.out (by omega)

theorem MidB.last {L : Nat → Nat → Prop} {s s' : Nat → Nat} {n z t : Nat} (h : MidB L s n z t) (_hz : 0 < z) (h1 : t * (2 * z) + z < n) (h2 : n < t * (2 * z) + 2 * z) (hp : PermOn (t * (2 * z)) n s s') (hs : SortedOn L (t * (2 * z)) n s') : AllB L s' n (2 * z) := by
  intro k hkn
  rcases Nat.lt_trichotomy k t with c | c | c
  · have hm : (k + 1) * (2 * z) ≤ t * (2 * z) := Nat.mul_le_mul_right _ (by omega)
    rw [Nat.add_mul, Nat.one_mul] at hm
    rw [show min (k * (2 * z) + 2 * z) n = k * (2 * z) + 2 * z by omega]
    exact (h.done k c).congr fun i _ hi => hp.out (by omega)
  · subst c
    rw [show min (k * (2 * z) + 2 * z) n = n by omega]
    exact BlockOK.of_perm hp hs (h.own h1 (Nat.le_refl _) (by omega) (.inl rfl))
  · have hm : (t + 1) * (2 * z) ≤ k * (2 * z) := Nat.mul_le_mul_right _ (by omega)
    rw [Nat.add_mul, Nat.one_mul] at hm
    omega

theorem MidB.even {L : Nat → Nat → Prop} {s : Nat → Nat} {n z t : Nat} (h : MidB L s n z t) (_hz : 0 < z) (h1 : ¬ t * (2 * z) + z < n) (h2 : n < t * (2 * z) + 2 * z) (h0 : t * (2 * z) ≤ n) : AllB L s n (2 * z) := by
  intro k hkn
  rcases Nat.lt_trichotomy k t with c | c | c
  · have hm : (k + 1) * (2 * z) ≤ t * (2 * z) := Nat.mul_le_mul_right _ (by omega)
    rw [Nat.add_mul, Nat.one_mul] at hm
    rw [show min (k * (2 * z) + 2 * z) n = k * (2 * z) + 2 * z by omega]
    exact h.done k c
  · subst c
    have l := h.rest (2 * k) (Nat.le_refl _) (by rw [two_mul_block]; exact hkn)
    rw [two_mul_block] at l
    rw [show min (k * (2 * z) + 2 * z) n = n by omega]
    rw [show min (k * (2 * z) + z) n = n by omega] at l
    exact l
  · have hm : (t + 1) * (2 * z) ≤ k * (2 * z) := Nat.mul_le_mul_right _ (by omega)
    rw [Nat.add_mul, Nat.one_mul] at hm
    omega

/-- The first round: t blocks of 20 are done, the rest stands as it came. -/
structure FirstB (L : Nat → Nat → Prop) (s : Nat → Nat) (t : Nat) : Prop where
  done : ∀ k, k < t → BlockOK L s (k * 20) (k * 20 + 20)
  rest : ∀ i, t * 20 ≤ i → s i = i

theorem FirstB.step {L : Nat → Nat → Prop} {s s' : Nat → Nat} {t : Nat} (h : FirstB L s t) (hp : PermOn (t * 20) (t * 20 + 20) s s') (hs : SortedOn L (t * 20) (t * 20 + 20) s') : FirstB L s' (t + 1) := by
  refine ⟨fun k hk => ?_, fun i hi => ?_⟩
  · by_cases e : k = t
    · subst e; exact BlockOK.of_perm hp hs fun i h1 h2 => by rw [h.rest i h1]; omega
    · exact (h.done k (by omega)).congr fun i _ hi => hp.out (by omega)
  · rw [hp.out (by omega), h.rest i (by omega)]

theorem FirstB.last {L : Nat → Nat → Prop} {s s' : Nat → Nat} {n t : Nat} (h : FirstB L s t) (h0 : t * 20 ≤ n) (h1 : n < t * 20 + 20) (hp : PermOn (t * 20) n s s') (hs : SortedOn L (t * 20) n s') : AllB L s' n 20 := by
  intro k hkn
  rcases Nat.lt_trichotomy k t with c | c | c
  · rw [show min (k * 20 + 20) n = k * 20 + 20 by omega]
    exact (h.done k c).congr fun i _ hi => hp.out (by omega)
  · subst c
    rw [show min (k * 20 + 20) n = n by omega]
    exact BlockOK.of_perm hp hs fun i h1 h2 => by rw [h.rest i h1]; omega
  · omega


end Go.Proofs.Ythicjpkomigacaa
