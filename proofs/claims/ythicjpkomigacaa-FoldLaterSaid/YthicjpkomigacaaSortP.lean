/- Plain: permutations of places, and what a merge in place does to them. No program in sight. -/
namespace Go.Proofs.Ythicjpkomigacaa

def swpG {β : Type} (f : Nat → β) (x y : Nat) : Nat → β := fun i => if i = x then f y else if i = y then f x else f i
def swapRG {β : Type} (f : Nat → β) (a b k : Nat) : Nat → β := fun i =>
  if a ≤ i ∧ i < a + k then f (b + (i - a)) else if b ≤ i ∧ i < b + k then f (a + (i - b)) else f i
def rotG {β : Type} (f : Nat → β) (a m b : Nat) : Nat → β := fun i =>
  if a ≤ i ∧ i < a + (b - m) then f (m + (i - a)) else if a + (b - m) ≤ i ∧ i < b then f (a + (i - (a + (b - m)))) else f i

section
variable {β : Type} (f : Nat → β)
theorem rotG_big (m i j : Nat) (hj : 0 < j) (hij : j < i) (him : i ≤ m) : rotG (swapRG f (m - i) m j) (m - (i - j)) m (m + j) = rotG f (m - i) m (m + j) := by
  funext x
  simp only [rotG, swapRG]
  repeat' split
  all_goals first | (exfalso; omega) | (congr 1 <;> omega)
theorem rotG_small (m i j : Nat) (hi : 0 < i) (hij : i < j) (him : i ≤ m) : rotG (swapRG f (m - i) (m + j - i) i) (m - i) m (m + (j - i)) = rotG f (m - i) m (m + j) := by
  funext x
  simp only [rotG, swapRG]
  repeat' split
  all_goals first | (exfalso; omega) | (congr 1 <;> omega)
theorem rotG_even (m i : Nat) (him : i ≤ m) : swapRG f (m - i) m i = rotG f (m - i) m (m + i) := by
  funext x
  simp only [rotG, swapRG]
  repeat' split
  all_goals first | (exfalso; omega) | (congr 1 <;> omega)
theorem rotG_one_left (a k : Nat) (h : a ≤ k) : swpG (rotG f a (a + 1) (k + 1)) k (k + 1) = rotG f a (a + 1) (k + 2) := by
  funext x
  simp only [rotG, swpG]
  repeat' split
  all_goals first | (exfalso; omega) | (congr 1 <;> omega)
theorem rotG_one_right (k m : Nat) (h : k < m) : swpG (rotG f (k + 1) m (m + 1)) (k + 1) k = rotG f k m (m + 1) := by
  funext x
  simp only [rotG, swpG]
  repeat' split
  all_goals first | (exfalso; omega) | (congr 1 <;> omega)
theorem rotG_left (a m : Nat) : rotG f a m m = f := by
  funext x
  simp only [rotG]
  repeat' split
  all_goals first | (exfalso; omega) | (congr 1 <;> omega)
theorem rotG_right (m b : Nat) : rotG f m m b = f := by
  funext x
  simp only [rotG]
  repeat' split
  all_goals first | (exfalso; omega) | (congr 1 <;> omega)
end

/-- s' is s with the places of [a, b) exchanged among themselves. -/
def PermOn (a b : Nat) (s s' : Nat → Nat) : Prop :=
  ∃ t : Nat → Nat, (∀ i, a ≤ i → i < b → a ≤ t i ∧ t i < b) ∧ (∀ i j, t i = t j → i = j) ∧ (∀ i, ¬ (a ≤ i ∧ i < b) → t i = i) ∧ ∀ i, s' i = s (t i)

theorem PermOn.refl (a b : Nat) (s : Nat → Nat) : PermOn a b s s := ⟨id, fun _ h1 h2 => ⟨h1, h2⟩, fun _ _ h => h, fun _ _ => rfl, fun _ => rfl⟩
theorem PermOn.trans {a b : Nat} {s s' s'' : Nat → Nat} (h : PermOn a b s s') (h' : PermOn a b s' s'') : PermOn a b s s'' := by
  obtain ⟨t, h1, h2, h3, h4⟩ := h
  obtain ⟨u, k1, k2, k3, k4⟩ := h'
  exact ⟨fun i => t (u i), fun i hi hj => h1 _ (k1 i hi hj).1 (k1 i hi hj).2, fun i j e => k2 _ _ (h2 _ _ e), fun i hi => by dsimp only; rw [k3 i hi, h3 i hi], fun i => by rw [k4, h4]⟩
theorem PermOn.widen {a b a' b' : Nat} {s s' : Nat → Nat} (h : PermOn a b s s') (ha : a' ≤ a) (hb : b ≤ b') : PermOn a' b' s s' := by
  obtain ⟨t, h1, h2, h3, h4⟩ := h
  refine ⟨t, fun i hi hj => ?_, h2, fun i hi => h3 i (by omega), h4⟩
  by_cases h : a ≤ i ∧ i < b
  · have := h1 i h.1 h.2; omega
  · rw [h3 i h]; exact ⟨hi, hj⟩
theorem PermOn.out {a b : Nat} {s s' : Nat → Nat} (h : PermOn a b s s') {i : Nat} (hi : ¬ (a ≤ i ∧ i < b)) : s' i = s i := by
  obtain ⟨t, _, _, h3, h4⟩ := h
  rw [h4, h3 i hi]
theorem PermOn.mem {a b : Nat} {s s' : Nat → Nat} (h : PermOn a b s s') {i : Nat} (h1 : a ≤ i) (h2 : i < b) : ∃ j, a ≤ j ∧ j < b ∧ s' i = s j := by
  obtain ⟨t, k1, _, _, k4⟩ := h
  exact ⟨t i, (k1 i h1 h2).1, (k1 i h1 h2).2, k4 i⟩

theorem perm_swp (s : Nat → Nat) (a b x y : Nat) (hx : a ≤ x ∧ x < b) (hy : a ≤ y ∧ y < b) : PermOn a b s (swpG s x y) := by
  refine ⟨fun i => if i = x then y else if i = y then x else i, ?_, ?_, ?_, ?_⟩
  · intro i h1 h2; dsimp only; repeat' split
    all_goals omega
  · intro i j h; dsimp only at h; repeat' split at h
    all_goals omega
  · intro i h; dsimp only; rw [if_neg (by omega), if_neg (by omega)]
  · intro i; simp only [swpG]; repeat' split
    all_goals rfl
theorem perm_rot (s : Nat → Nat) (a m b : Nat) (h1 : a ≤ m) (h2 : m ≤ b) : PermOn a b s (rotG s a m b) := by
  refine ⟨fun i => if a ≤ i ∧ i < a + (b - m) then m + (i - a) else if a + (b - m) ≤ i ∧ i < b then a + (i - (a + (b - m))) else i, ?_, ?_, ?_, ?_⟩
  · intro i h1 h2; dsimp only; repeat' split
    all_goals omega
  · intro i j h; dsimp only at h; repeat' split at h
    all_goals omega
  · intro i h; dsimp only; rw [if_neg (by omega), if_neg (by omega)]
  · intro i; simp only [rotG]; repeat' split
    all_goals rfl

/-- The order of places: first what the comparison says, then the place in the beginning. -/
structure LexOrd (lt : Nat → Nat → Bool) (L : Nat → Nat → Prop) : Prop where
  trans : ∀ {x y z}, L x y → L y z → L x z
  of_lt : ∀ {x y}, lt x y = true → L x y
  of_ge : ∀ {x y}, lt y x = false → x < y → L x y

def SortedOn (L : Nat → Nat → Prop) (a b : Nat) (s : Nat → Nat) : Prop := ∀ i j, a ≤ i → i < j → j < b → L (s i) (s j)

theorem SortedOn.congr {L : Nat → Nat → Prop} {a b : Nat} {s s' : Nat → Nat} (h : SortedOn L a b s) (e : ∀ i, a ≤ i → i < b → s' i = s i) : SortedOn L a b s' :=
  fun i j h1 h2 h3 => by rw [e i h1 (by omega), e j (by omega) h3]; exact h i j h1 h2 h3

theorem SortedOn.sub {L : Nat → Nat → Prop} {a b a' b' : Nat} {s : Nat → Nat} (h : SortedOn L a b s) (ha : a ≤ a') (hb : b' ≤ b) : SortedOn L a' b' s :=
  fun i j h1 h2 h3 => h i j (by omega) h2 (by omega)

section
variable {lt : Nat → Nat → Bool} {L : Nat → Nat → Prop} (O : LexOrd lt L) {s : Nat → Nat}

/-- What symMerge is called on. -/
structure Pre (lt : Nat → Nat → Bool) (L : Nat → Nat → Prop) (s : Nat → Nat) (a m b : Nat) : Prop where
  am : a < m
  mb : m < b
  left : SortedOn L a m s
  right : SortedOn L m b s
  tags : ∀ i j, a ≤ i → i < m → m ≤ j → j < b → s i < s j

include O in
/-- One element on the left: it goes to the place i - 1. -/
theorem merge_one_left {a b i : Nat} (h : Pre lt L s a (a + 1) b) (h1 : a + 1 ≤ i) (h2 : i ≤ b) (hl : a + 1 < i → lt (s (i - 1)) (s a) = true) (hr : i < b → lt (s i) (s a) = false) :
    SortedOn L a b (rotG s a (a + 1) i) := by
  have low : ∀ k, a + 1 ≤ k → k < i → L (s k) (s a) := fun k hk1 hk2 => by
    have h0 := O.of_lt (hl (by omega))
    by_cases e : k = i - 1
    · subst e; exact h0
    · exact O.trans (h.right k (i - 1) hk1 (by omega) (by omega)) h0
  have high : ∀ k, i ≤ k → k < b → L (s a) (s k) := fun k hk1 hk2 => by
    have h0 := O.of_ge (hr (by omega)) (h.tags a i (Nat.le_refl _) (by omega) (by omega) (by omega))
    by_cases e : k = i
    · subst e; exact h0
    · exact O.trans h0 (h.right i k (by omega) (by omega) hk2)
  intro x y hx hxy hy
  simp only [rotG]
  by_cases c1 : x < i - 1
  · rw [if_pos (by omega)]
    by_cases c2 : y < i - 1
    · rw [if_pos (by omega)]; exact h.right _ _ (by omega) (by omega) (by omega)
    · by_cases c3 : y < i
      · rw [if_neg (by omega), if_pos (by omega), show a + (y - (a + (i - (a + 1)))) = a by omega]
        exact low _ (by omega) (by omega)
      · rw [if_neg (by omega), if_neg (by omega)]
        exact h.right _ _ (by omega) (by omega) hy
  · by_cases c2 : x < i
    · rw [if_neg (by omega), if_pos (by omega), show a + (x - (a + (i - (a + 1)))) = a by omega, if_neg (by omega), if_neg (by omega)]
      exact high _ (by omega) hy
    · rw [if_neg (by omega), if_neg (by omega), if_neg (by omega), if_neg (by omega)]
      exact h.right _ _ (by omega) hxy hy

include O in
/-- One element on the right: it goes to the place i. -/
theorem merge_one_right {a m i : Nat} (h : Pre lt L s a m (m + 1)) (h1 : a ≤ i) (h2 : i ≤ m) (hl : a < i → lt (s m) (s (i - 1)) = false) (hr : i < m → lt (s m) (s i) = true) :
    SortedOn L a (m + 1) (rotG s i m (m + 1)) := by
  have low : ∀ k, a ≤ k → k < i → L (s k) (s m) := fun k hk1 hk2 => by
    have h0 := O.of_ge (hl (by omega)) (h.tags (i - 1) m (by omega) (by omega) (Nat.le_refl _) (by omega))
    by_cases e : k = i - 1
    · subst e; exact h0
    · exact O.trans (h.left k (i - 1) hk1 (by omega) (by omega)) h0
  have high : ∀ k, i ≤ k → k < m → L (s m) (s k) := fun k hk1 hk2 => by
    have h0 := O.of_lt (hr (by omega))
    by_cases e : k = i
    · subst e; exact h0
    · exact O.trans h0 (h.left i k (by omega) (by omega) hk2)
  intro x y hx hxy hy
  simp only [rotG]
  by_cases c1 : x < i
  · rw [if_neg (by omega), if_neg (by omega)]
    by_cases c2 : y < i
    · rw [if_neg (by omega), if_neg (by omega)]; exact h.left _ _ hx hxy (by omega)
    · by_cases c3 : y = i
      · subst c3; rw [if_pos (by omega), show m + (y - y) = m by omega]; exact low _ hx c1
      · rw [if_neg (by omega), if_pos (by omega)]
        exact h.left _ _ hx (by omega) (by omega)
  · by_cases c2 : x = i
    · subst c2
      rw [if_pos (by omega), show m + (x - x) = m by omega, if_neg (by omega), if_pos (by omega)]
      exact high _ (by omega) (by omega)
    · rw [if_neg (by omega), if_pos (by omega), if_neg (by omega), if_pos (by omega)]
      exact h.left _ _ (by omega) (by omega) (by omega)

include O in
/-- The cut of symMerge: what is left of the middle stands before what is right of it, and each half is ready to be merged. -/
theorem merge_cut {a m b mid start en : Nat} (h : Pre lt L s a m b) (hmid1 : a < mid) (hmid2 : mid < b) (h1 : a ≤ start) (h2 : start ≤ m) (h3 : start ≤ mid) (he : en = mid + m - start) (h4 : en ≤ b)
    (hl : a < start → en < b → lt (s en) (s (start - 1)) = false) (hr : start < m → m < en → lt (s (en - 1)) (s start) = true) :
    (∀ i j, a ≤ i → i < mid → mid ≤ j → j < b → L (rotG s start m en i) (rotG s start m en j)) ∧
    (a < start → start < mid → Pre lt L (rotG s start m en) a start mid) ∧ (¬ (a < start ∧ start < mid) → SortedOn L a mid (rotG s start m en)) ∧
    (mid < en → en < b → Pre lt L (rotG s start m en) mid en b) ∧ (¬ (mid < en ∧ en < b) → SortedOn L mid b (rotG s start m en)) := by
  subst he
  have low : ∀ i j, a ≤ i → i < start → mid + m - start ≤ j → j < b → L (s i) (s j) := fun i j hi1 hi2 hj1 hj2 => by
    have h0 := O.of_ge (hl (by omega) (by omega)) (h.tags (start - 1) (mid + m - start) (by omega) (by omega) (by omega) (by omega))
    have h5 : L (s i) (s (mid + m - start)) := by
      by_cases e : i = start - 1
      · subst e; exact h0
      · exact O.trans (h.left i (start - 1) hi1 (by omega) (by omega)) h0
    by_cases e : j = mid + m - start
    · subst e; exact h5
    · exact O.trans h5 (h.right _ j (by omega) (by omega) hj2)
  have high : ∀ i j, start ≤ i → i < m → m ≤ j → j < mid + m - start → L (s j) (s i) := fun i j hi1 hi2 hj1 hj2 => by
    have h0 := O.of_lt (hr (by omega) (by omega))
    have h5 : L (s j) (s start) := by
      by_cases e : j = mid + m - start - 1
      · subst e; exact h0
      · exact O.trans (h.right j _ hj1 (by omega) (by omega)) h0
    by_cases e : i = start
    · subst e; exact h5
    · exact O.trans h5 (h.left start i h1 (by omega) hi2)
  -- the four stretches behind the rotation
  have e1 : ∀ i, i < start → rotG s start m (mid + m - start) i = s i := fun i hi => by simp only [rotG]; rw [if_neg (by omega), if_neg (by omega)]
  have e2 : ∀ i, start ≤ i → i < mid → rotG s start m (mid + m - start) i = s (m + (i - start)) := fun i hi1 hi2 => by simp only [rotG]; rw [if_pos (by omega)]
  have e3 : ∀ i, mid ≤ i → i < mid + m - start → rotG s start m (mid + m - start) i = s (start + (i - mid)) := fun i hi1 hi2 => by
    simp only [rotG]; rw [if_neg (by omega), if_pos (by omega)]; congr 2; omega
  have e4 : ∀ i, mid + m - start ≤ i → rotG s start m (mid + m - start) i = s i := fun i hi => by simp only [rotG]; rw [if_neg (by omega), if_neg (by omega)]
  have sl1 : SortedOn L a start (rotG s start m (mid + m - start)) := fun i j hi hij hj => by rw [e1 i (by omega), e1 j hj]; exact h.left i j hi hij (by omega)
  have sl2 : SortedOn L start mid (rotG s start m (mid + m - start)) := fun i j hi hij hj => by rw [e2 i hi (by omega), e2 j (by omega) hj]; exact h.right _ _ (by omega) (by omega) (by omega)
  have sr1 : SortedOn L mid (mid + m - start) (rotG s start m (mid + m - start)) := fun i j hi hij hj => by rw [e3 i hi (by omega), e3 j (by omega) hj]; exact h.left _ _ (by omega) (by omega) (by omega)
  have sr2 : SortedOn L (mid + m - start) b (rotG s start m (mid + m - start)) := fun i j hi hij hj => by rw [e4 i hi, e4 j (by omega)]; exact h.right _ _ (by omega) hij hj
  refine ⟨fun i j hi1 hi2 hj1 hj2 => ?_, fun c1 c2 => ⟨c1, c2, sl1, sl2, fun i j hi1 hi2 hj1 hj2 => ?_⟩, fun c => ?_, fun c1 c2 => ⟨c1, c2, sr1, sr2, fun i j hi1 hi2 hj1 hj2 => ?_⟩, fun c => ?_⟩
  · by_cases c1 : i < start
    · rw [e1 i c1]
      by_cases c2 : j < mid + m - start
      · rw [e3 j hj1 c2]; exact h.left _ _ hi1 (by omega) (by omega)
      · rw [e4 j (by omega)]; exact low _ _ hi1 c1 (by omega) hj2
    · rw [e2 i (by omega) hi2]
      by_cases c2 : j < mid + m - start
      · rw [e3 j hj1 c2]; exact high _ _ (by omega) (by omega) (by omega) (by omega)
      · rw [e4 j (by omega)]; exact h.right _ _ (by omega) (by omega) hj2
  · rw [e1 i hi2, e2 j hj1 hj2]; exact h.tags _ _ hi1 (by omega) (by omega) (by omega)
  · by_cases c1 : a < start
    · have : start = mid := by omega
      subst this; exact sl1
    · have : start = a := by omega
      subst this; exact sl2
  · rw [e3 i hi1 hi2, e4 j hj1]; exact h.tags _ _ (by omega) (by omega) (by omega) hj2
  · by_cases c1 : mid + m - start < b
    · have e : mid + m - start = mid := by omega
      rw [e] at sr2 ⊢; exact sr2
    · have e : mid + m - start = b := by omega
      rw [e] at sr1 ⊢; exact sr1

omit O in
/-- Two halves that are sorted, the left one before the right one. -/
theorem sorted_join {a mid b : Nat} {s1 s2 : Nat → Nat} (h1 : SortedOn L a mid s2) (h2 : SortedOn L mid b s2) (hp : ∀ i, a ≤ i → i < mid → ∃ j, a ≤ j ∧ j < mid ∧ s2 i = s1 j) (hq : ∀ i, mid ≤ i → i < b → ∃ j, mid ≤ j ∧ j < b ∧ s2 i = s1 j)
    (hc : ∀ i j, a ≤ i → i < mid → mid ≤ j → j < b → L (s1 i) (s1 j)) : SortedOn L a b s2 := by
  intro i j hi hij hj
  by_cases c1 : j < mid
  · exact h1 i j hi hij c1
  · by_cases c2 : mid ≤ i
    · exact h2 i j c2 hij hj
    · obtain ⟨i', a1, a2, ei⟩ := hp i hi (by omega)
      obtain ⟨j', b1, b2, ej⟩ := hq j (by omega) hj
      rw [ei, ej]
      exact hc _ _ a1 a2 b1 b2
end

theorem Pre.congr {lt : Nat → Nat → Bool} {L : Nat → Nat → Prop} {s s' : Nat → Nat} {a m b : Nat} (h : Pre lt L s a m b) (e : ∀ i, a ≤ i → i < b → s' i = s i) : Pre lt L s' a m b :=
  ⟨h.am, h.mb, h.left.congr fun i h1 h2 => e i h1 (Nat.lt_trans h2 h.mb), h.right.congr fun i h1 h2 => e i (Nat.le_trans (Nat.le_of_lt h.am) h1) h2, fun i j h1 h2 h3 h4 => by
    have := h.am; have := h.mb
    rw [e i h1 (by omega), e j (by omega) h4]; exact h.tags i j h1 h2 h3 h4⟩

/-- The end of symMerge: both halves have been merged. -/
theorem merge_end {L : Nat → Nat → Prop} {s s1 s2 s3 : Nat → Nat} {a mid b : Nat} (h1 : a ≤ mid) (h2 : mid ≤ b) (hp : PermOn a b s s1)
    (hc : ∀ i j, a ≤ i → i < mid → mid ≤ j → j < b → L (s1 i) (s1 j)) (p2 : PermOn a mid s1 s2) (q2 : SortedOn L a mid s2) (p3 : PermOn mid b s2 s3) (q3 : SortedOn L mid b s3) : PermOn a b s s3 ∧ SortedOn L a b s3 := by
  refine ⟨hp.trans ((p2.widen (Nat.le_refl _) h2).trans (p3.widen h1 (Nat.le_refl _))), sorted_join (s1 := s1) (q2.congr fun i _ hi => p3.out (by omega)) q3 (fun i hi hj => ?_) (fun i hi hj => ?_) hc⟩
  · obtain ⟨j, k1, k2, k3⟩ := p2.mem hi hj
    exact ⟨j, k1, k2, by rw [p3.out (by omega), k3]⟩
  · obtain ⟨j, k1, k2, k3⟩ := p3.mem hi hj
    exact ⟨j, k1, k2, by rw [k3, p2.out (by omega)]⟩

/-! The insertion sort: places a .. i - 1 are sorted; the one that was at i is at j. -/
structure InsInv (L : Nat → Nat → Prop) (s0 : Nat → Nat) (a i j : Nat) (s : Nat → Nat) : Prop where
  perm : PermOn a (i + 1) s0 s
  ins : s j = s0 i
  tags : ∀ x, a ≤ x → x ≤ i → x ≠ j → s x < s0 i
  rest : ∀ x y, a ≤ x → x < y → y ≤ i → x ≠ j → y ≠ j → L (s x) (s y)
  above : ∀ y, j < y → y ≤ i → L (s j) (s y)

section
variable {lt : Nat → Nat → Bool} {L : Nat → Nat → Prop} {s0 s : Nat → Nat} {a i j : Nat}
theorem InsInv.start (hp : PermOn a i s0 s) (hs : SortedOn L a i s) (_hai : a ≤ i) (ht : ∀ x y, a ≤ x → x < y → y ≤ i → s0 x < s0 y) : InsInv L s0 a i i s := by
  refine ⟨hp.widen (Nat.le_refl _) (by omega), hp.out (by omega), fun x h1 h2 h3 => ?_, fun x y h1 h2 h3 _ h4 => hs x y h1 h2 (by omega), fun y h1 h2 => by omega⟩
  obtain ⟨k, k1, k2, k3⟩ := hp.mem h1 (show x < i by omega)
  rw [k3]; exact ht k i k1 k2 (Nat.le_refl _)
theorem InsInv.step (O : LexOrd lt L) (h : InsInv L s0 a i j s) (haj : a < j) (hji : j ≤ i) (hl : lt (s j) (s (j - 1)) = true) : InsInv L s0 a i (j - 1) (swpG s j (j - 1)) := by
  have e1 : swpG s j (j - 1) j = s (j - 1) := by simp [swpG]
  have e2 : swpG s j (j - 1) (j - 1) = s j := by unfold swpG; rw [if_neg (by omega), if_pos rfl]
  have e3 : ∀ x, x ≠ j → x ≠ j - 1 → swpG s j (j - 1) x = s x := fun x h1 h2 => by simp only [swpG]; rw [if_neg h1, if_neg h2]
  refine ⟨h.perm.trans (perm_swp s a (i + 1) j (j - 1) (by omega) (by omega)), by rw [e2, h.ins], fun x h1 h2 h3 => ?_, fun x y h1 h2 h3 h4 h5 => ?_, fun y h1 h2 => ?_⟩
  · by_cases e : x = j
    · subst e; rw [e1]; exact h.tags _ (by omega) (by omega) (by omega)
    · rw [e3 x e h3]; exact h.tags x h1 h2 e
  · by_cases e : x = j
    · subst e; rw [e1, e3 y (by omega) h5]; exact h.rest _ _ (by omega) (by omega) h3 (by omega) (by omega)
    · by_cases e' : y = j
      · subst e'; rw [e1, e3 x e h4]; exact h.rest _ _ h1 (by omega) (by omega) e (by omega)
      · rw [e3 x e h4, e3 y e' h5]; exact h.rest _ _ h1 h2 h3 e e'
  · rw [e2]
    by_cases e : y = j
    · subst e; rw [e1]; exact O.of_lt hl
    · rw [e3 y e (by omega)]; exact h.above y (by omega) h2
theorem InsInv.stop (O : LexOrd lt L) (h : InsInv L s0 a i j s) (haj : a ≤ j) (hji : j ≤ i) (hl : a < j → lt (s j) (s (j - 1)) = false) : SortedOn L a (i + 1) s := by
  have low : ∀ x, a ≤ x → x < j → L (s x) (s j) := fun x h1 h2 => by
    have h0 : L (s (j - 1)) (s j) := O.of_ge (hl (by omega)) (by rw [h.ins]; exact h.tags _ (by omega) (by omega) (by omega))
    by_cases e : x = j - 1
    · subst e; exact h0
    · exact O.trans (h.rest x (j - 1) h1 (by omega) (by omega) (by omega) (by omega)) h0
  intro x y h1 h2 h3
  by_cases e : x = j
  · subst e; exact h.above y h2 (by omega)
  · by_cases e' : y = j
    · subst e'; exact low x h1 h2
    · exact h.rest x y h1 h2 (by omega) e e'
end

section
variable {α : Type} (f : Nat → α) (s : Nat → Nat)
theorem swpG_comp (x y : Nat) : swpG (fun i => f (s i)) x y = fun i => f (swpG s x y i) := by
  funext i; simp only [swpG]; repeat' split
  all_goals rfl
theorem rotG_comp (a m b : Nat) : rotG (fun i => f (s i)) a m b = fun i => f (rotG s a m b i) := by
  funext i; simp only [rotG]; repeat' split
  all_goals rfl
end

end Go.Proofs.Ythicjpkomigacaa
