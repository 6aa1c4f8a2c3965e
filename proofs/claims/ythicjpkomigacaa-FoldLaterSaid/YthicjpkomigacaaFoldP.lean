/- The plain law of fold: what is ordered, read and dropped. No program in sight. -/
import Derived.Test.YthicjpkomigacaaOrdW
namespace Go.Proofs.Ythicjpkomigacaa
open Go.RowKit

theorem ordV_self (a : VerD) : ordV a a = 0 := cmpL_refl _
theorem ordV_symm {a b : VerD} (h : ordV a b = 0) : ordV b a = 0 := by have := ordV_anti a b; omega
theorem ordV_ne_symm {a b : VerD} (h : ordV a b ≠ 0) : ordV b a ≠ 0 := fun e => h (ordV_symm e)
theorem ordV_gt {a b : VerD} (h : ¬ ordV a b < 0) (h' : ordV a b ≠ 0) : ordV b a < 0 := by have := ordV_anti a b; omega

def insD (v : VerD) : List VerD → List VerD
  | [] => [v]
  | u :: us => if ordV v u < 0 then v :: u :: us else if ordV v u = 0 then u :: us else u :: insD v us

/-- The versions in order, each stamp once. -/
def ordD (vs : List VerD) : List VerD := vs.foldl (fun acc v => insD v acc) []

abbrev SortedV (l : List VerD) : Prop := l.Pairwise fun a b => ordV a b < 0
abbrev DistV (l : List VerD) : Prop := l.Pairwise fun a b => ordV a b ≠ 0

theorem SortedV.dist {l : List VerD} (h : SortedV l) : DistV l := h.imp fun h => by omega

theorem mem_insD {v x : VerD} {us : List VerD} (h : x ∈ insD v us) : x = v ∨ x ∈ us := by
  induction us with
  | nil => exact .inl (by simpa [insD] using h)
  | cons u us ih =>
    simp only [insD] at h
    split at h
    · simpa using h
    · split at h
      · exact .inr h
      · rcases List.mem_cons.1 h with h | h
        · exact .inr (by simp [h])
        · rcases ih h with h | h
          · exact .inl h
          · exact .inr (by simp [h])

theorem sorted_insD {v : VerD} {us : List VerD} (h : SortedV us) : SortedV (insD v us) := by
  induction us with
  | nil => simp [insD, SortedV]
  | cons u us ih =>
    have hc := List.pairwise_cons.1 h
    simp only [insD]
    split
    · rename_i h1
      refine List.pairwise_cons.2 ⟨fun x hx => ?_, h⟩
      rcases List.mem_cons.1 hx with rfl | hx
      · exact h1
      · exact ordV_lt_trans h1 (hc.1 x hx)
    · rename_i h1
      split
      · exact h
      · rename_i h2
        refine List.pairwise_cons.2 ⟨fun x hx => ?_, ih hc.2⟩
        rcases mem_insD hx with rfl | hx
        · exact ordV_gt h1 h2
        · exact hc.1 x hx

theorem insD_new {v : VerD} {us : List VerD} (h : ∀ u ∈ us, ordV v u ≠ 0) : (insD v us).Perm (v :: us) := by
  induction us with
  | nil => exact List.Perm.refl _
  | cons u us ih =>
    simp only [insD]
    split
    · exact List.Perm.refl _
    · rw [if_neg (h u (by simp))]
      exact ((ih fun x hx => h x (by simp [hx])).cons u).trans (List.Perm.swap v u us)

theorem insD_old {v : VerD} {us : List VerD} (hs : SortedV us) (h : ∃ u ∈ us, ordV v u = 0) : insD v us = us := by
  induction us with
  | nil => obtain ⟨u, hu, _⟩ := h; cases hu
  | cons u us ih =>
    have hc := List.pairwise_cons.1 hs
    obtain ⟨x, hx, e⟩ := h
    simp only [insD]
    split
    · rename_i h1
      rcases List.mem_cons.1 hx with rfl | hx
      · omega
      · have := ordV_lt_trans h1 (hc.1 x hx); omega
    · split
      · rfl
      · rename_i h1 h2
        rcases List.mem_cons.1 hx with rfl | hx
        · exact absurd e h2
        · rw [ih hc.2 ⟨x, hx, e⟩]

theorem sorted_ext {l l' : List VerD} (h : SortedV l) (h' : SortedV l') (e : ∀ x, x ∈ l ↔ x ∈ l') : l = l' := by
  induction l generalizing l' with
  | nil =>
    cases l' with
    | nil => rfl
    | cons x l' => exact absurd ((e x).2 (by simp)) (by simp)
  | cons a l ih =>
    cases l' with
    | nil => exact absurd ((e a).1 (by simp)) (by simp)
    | cons b l' =>
      have hc := List.pairwise_cons.1 h
      have hc' := List.pairwise_cons.1 h'
      obtain rfl : a = b := by
        rcases List.mem_cons.1 ((e a).1 (by simp)) with h1 | h1
        · exact h1
        · rcases List.mem_cons.1 ((e b).2 (by simp)) with h2 | h2
          · exact h2.symm
          · have := ordV_lt_trans (hc.1 b h2) (hc'.1 a h1)
            rw [ordV_self] at this; omega
      rw [ih hc.2 hc'.2 fun x => ⟨fun hx => ?_, fun hx => ?_⟩]
      · rcases List.mem_cons.1 ((e x).1 (by simp [hx])) with h1 | h1
        · subst h1; have := hc.1 x hx; rw [ordV_self] at this; omega
        · exact h1
      · rcases List.mem_cons.1 ((e x).2 (by simp [hx])) with h1 | h1
        · subst h1; have := hc'.1 x hx; rw [ordV_self] at this; omega
        · exact h1

theorem sorted_foldD (vs : List VerD) {acc : List VerD} (h : SortedV acc) : SortedV (vs.foldl (fun acc v => insD v acc) acc) := by
  induction vs generalizing acc with
  | nil => exact h
  | cons v vs ih => exact ih (sorted_insD h)

theorem sorted_ordD (vs : List VerD) : SortedV (ordD vs) := sorted_foldD vs List.Pairwise.nil

theorem DistV.perm {l l' : List VerD} (h : DistV l) (p : l.Perm l') : DistV l' := (List.Perm.pairwise_iff (fun h => ordV_ne_symm h) p).1 h

theorem foldD_perm {vs acc : List VerD} (h : DistV (acc ++ vs)) : (vs.foldl (fun acc v => insD v acc) acc).Perm (acc ++ vs) := by
  induction vs generalizing acc with
  | nil => simp
  | cons v vs ih =>
    have hn : ∀ u ∈ acc, ordV v u ≠ 0 := fun u hu => ordV_ne_symm ((List.pairwise_append.1 h).2.2 u hu v (by simp))
    have p := insD_new hn
    have p2 : (insD v acc ++ vs).Perm (acc ++ v :: vs) := (p.append_right vs).trans (List.perm_middle.symm)
    exact (ih (h.perm p2.symm)).trans p2

theorem ordD_perm {vs : List VerD} (h : DistV vs) : (ordD vs).Perm vs := foldD_perm (acc := []) h

theorem ordD_of_sorted {vs : List VerD} (h : SortedV vs) : ordD vs = vs := sorted_ext (sorted_ordD _) h fun _ => (ordD_perm h.dist).mem_iff

theorem ordD_congr {vs us : List VerD} (h : DistV vs) (p : vs.Perm us) : ordD vs = ordD us :=
  sorted_ext (sorted_ordD _) (sorted_ordD _) fun _ => by rw [(ordD_perm h).mem_iff, (ordD_perm (h.perm p)).mem_iff]; exact p.mem_iff

theorem ordD_append (vs us : List VerD) : ordD (vs ++ us) = ordD (ordD vs ++ us) := by
  unfold ordD
  rw [List.foldl_append, List.foldl_append]
  have := ordD_of_sorted (sorted_ordD vs)
  unfold ordD at this
  rw [this]

theorem ordD_filter {vs : List VerD} (h : DistV vs) (q : VerD → Bool) : (ordD vs).filter q = ordD (vs.filter q) :=
  sorted_ext ((sorted_ordD _).filter _) (sorted_ordD _) fun x => by
    rw [(ordD_perm (h.filter _)).mem_iff, List.mem_filter, List.mem_filter, (ordD_perm h).mem_iff]

/-- x is the first of its stamp. -/
def FirstIn : List VerD → VerD → Prop
  | [], _ => False
  | v :: vs, x => x = v ∨ (FirstIn vs x ∧ ordV v x ≠ 0)

theorem mem_foldD (vs : List VerD) {acc : List VerD} (hs : SortedV acc) (x : VerD) : x ∈ vs.foldl (fun acc v => insD v acc) acc ↔ x ∈ acc ∨ (FirstIn vs x ∧ ∀ u ∈ acc, ordV u x ≠ 0) := by
  induction vs generalizing acc with
  | nil => simp [FirstIn]
  | cons v vs ih =>
    rw [List.foldl_cons, ih (sorted_insD hs)]
    by_cases h : ∃ u ∈ acc, ordV v u = 0
    · rw [insD_old hs h]
      obtain ⟨u, hu, e⟩ := h
      constructor
      · rintro (h1 | ⟨h1, h2⟩)
        · exact .inl h1
        · exact .inr ⟨.inr ⟨h1, by rw [ordV_congr_left e]; exact h2 u hu⟩, h2⟩
      · rintro (h1 | ⟨h1 | h1, h2⟩)
        · exact .inl h1
        · subst h1; exact absurd (ordV_symm e) (h2 u hu)
        · exact .inr ⟨h1.1, h2⟩
    · have hn : ∀ u ∈ acc, ordV v u ≠ 0 := fun u hu e => h ⟨u, hu, e⟩
      have p := insD_new hn
      have hm : ∀ u, u ∈ insD v acc ↔ u = v ∨ u ∈ acc := fun u => by rw [p.mem_iff]; simp
      constructor
      · rintro (h1 | ⟨h1, h2⟩)
        · rcases (hm x).1 h1 with h1 | h1
          · subst h1; exact .inr ⟨.inl rfl, fun u hu => ordV_ne_symm (hn u hu)⟩
          · exact .inl h1
        · exact .inr ⟨.inr ⟨h1, h2 v ((hm v).2 (.inl rfl))⟩, fun u hu => h2 u ((hm u).2 (.inr hu))⟩
      · rintro (h1 | ⟨h1 | h1, h2⟩)
        · exact .inl ((hm x).2 (.inr h1))
        · exact .inl ((hm x).2 (.inl h1))
        · refine .inr ⟨h1.1, fun u hu => ?_⟩
          rcases (hm u).1 hu with h3 | h3
          · subst h3; exact h1.2
          · exact h2 u h3

theorem mem_ordD (vs : List VerD) (x : VerD) : x ∈ ordD vs ↔ FirstIn vs x := by
  unfold ordD
  rw [mem_foldD vs List.Pairwise.nil]
  simp

theorem FirstIn.mem {vs : List VerD} {x : VerD} (h : FirstIn vs x) : x ∈ vs := by
  induction vs with
  | nil => cases h
  | cons v vs ih =>
    rcases h with h | ⟨h, _⟩
    · simp [h]
    · simp [ih h]

theorem mem_of_ordD {vs : List VerD} {x : VerD} (h : x ∈ ordD vs) : x ∈ vs := ((mem_ordD vs x).1 h).mem

theorem firstIn_at (vs : List VerD) (x : VerD) : FirstIn vs x ↔ ∃ i, i < vs.length ∧ vs.getD i default = x ∧ ∀ j, j < i → ordV (vs.getD j default) x ≠ 0 := by
  induction vs with
  | nil => simp [FirstIn]
  | cons v vs ih =>
    simp only [FirstIn, ih]
    constructor
    · rintro (rfl | ⟨⟨i, h1, h2, h3⟩, h4⟩)
      · exact ⟨0, by simp, by simp, fun j hj => by omega⟩
      · refine ⟨i + 1, by simpa using h1, by simpa using h2, fun j hj => ?_⟩
        cases j with
        | zero => simpa using h4
        | succ j => simpa using h3 j (by omega)
    · rintro ⟨i, h1, h2, h3⟩
      cases i with
      | zero => exact .inl (by simpa using h2.symm)
      | succ i => exact .inr ⟨⟨i, by simpa using h1, by simpa using h2, fun j hj => by simpa using h3 (j + 1) (by omega)⟩, by simpa using h3 0 (by omega)⟩

theorem inj_surj (n : Nat) : ∀ t : Nat → Nat, (∀ i, i < n → t i < n) → (∀ i j, i < n → j < n → t i = t j → i = j) → ∀ k, k < n → ∃ i, i < n ∧ t i = k := by
  induction n with
  | zero => intro t _ _ k hk; omega
  | succ n ih =>
    intro t h1 h2 k hk
    have hn := h1 n (by omega)
    have key : ∀ i, i < n → t i ≠ t n := fun i hi e => by have := h2 i n (by omega) (by omega) e; omega
    have ih' := ih (fun i => if t i = n then t n else t i)
      (fun i hi => by
        have := h1 i (by omega)
        split
        · rename_i e; have := key i hi; omega
        · omega)
      (fun i j hi hj e => by
        have ki := key i hi; have kj := key j hj
        split at e <;> split at e
        · exact h2 i j (by omega) (by omega) (by omega)
        · omega
        · omega
        · exact h2 i j (by omega) (by omega) e)
    by_cases c1 : k = t n
    · exact ⟨n, by omega, c1.symm⟩
    · by_cases c2 : k = n
      · obtain ⟨i, hi, e⟩ := ih' (t n) (by omega)
        split at e
        · rename_i e'; exact ⟨i, by omega, by omega⟩
        · exact absurd e (key i hi)
      · obtain ⟨i, hi, e⟩ := ih' k (by omega)
        split at e
        · omega
        · exact ⟨i, by omega, e⟩

theorem PermOn.surj {n : Nat} {s : Nat → Nat} (h : PermOn 0 n (fun i => i) s) : ∀ k, k < n → ∃ i, i < n ∧ s i = k := by
  obtain ⟨t, h1, h2, _, h4⟩ := h
  intro k hk
  obtain ⟨i, hi, e⟩ := inj_surj n t (fun i hi => (h1 i (by omega) hi).2) (fun i j _ _ e => h2 i j e) k hk
  exact ⟨i, hi, by rw [h4, e]⟩

theorem keepL_in {q : Nat → Bool} {n j : Nat} : j ∈ keepL q n ↔ j < n ∧ (j = 0 ∨ q j = false) := by
  unfold keepL
  rw [List.mem_filter, List.mem_range]
  simp

/-- What fold.Order hands back is the order. -/
theorem OrderedBy.eq {vs rs : List VerD} (h : OrderedBy vs rs) : rs = ordD vs := by
  obtain ⟨s, hp, hs, rfl⟩ := h
  have hsur := hp.surj
  have hlt : ∀ i, i < vs.length → s i < vs.length := hp.lt (Nat.le_refl _) fun i hi => hi
  generalize hd : (fun i => vs.getD i default) = d at hs
  have hd' : ∀ i, vs.getD i default = d i := fun i => by rw [← hd]
  simp only [hd']
  have hle : ∀ i j, i < j → j < vs.length → ordV (d (s i)) (d (s j)) ≤ 0 := fun i j hij hj => by
    rcases hs i j (Nat.zero_le _) hij hj with h | ⟨h, _⟩ <;> omega
  have hkept : ∀ i j, i < j → j < vs.length → cmpSame (d (s j)) (d (s (j - 1))) = false → ordV (d (s i)) (d (s j)) < 0 := fun i j hij hj hk => by
    have h1 : ordV (d (s j)) (d (s (j - 1))) ≠ 0 := by simpa [cmpSame] using hk
    have h2 := hle (j - 1) j (by omega) hj
    have h3 : ordV (d (s (j - 1))) (d (s j)) < 0 := by have := ordV_ne_symm h1; omega
    by_cases e : i = j - 1
    · subst e; exact h3
    · have h4 := hle i (j - 1) (by omega) (by omega)
      by_cases h5 : ordV (d (s i)) (d (s (j - 1))) = 0
      · rw [ordV_congr_left h5]; exact h3
      · exact ordV_lt_trans (by omega) h3
  have hfirst : ∀ i, i < vs.length → (i = 0 ∨ cmpSame (d (s i)) (d (s (i - 1))) = false) → FirstIn vs (d (s i)) := fun i hi hk => by
    rw [firstIn_at]
    refine ⟨s i, hlt i hi, hd' _, fun j hj => ?_⟩
    rw [hd']
    obtain ⟨p, hpn, rfl⟩ := hsur j (by have := hlt i hi; omega)
    intro e
    rcases Nat.lt_trichotomy p i with h | h | h
    · rcases hk with hk | hk
      · omega
      · have := hkept p i h hi hk; omega
    · subst h; omega
    · rcases hs i p (Nat.zero_le _) h hpn with h | ⟨_, h⟩
      · have := ordV_symm e; omega
      · omega
  have hall : ∀ p, p < vs.length → ∃ i, i < vs.length ∧ (i = 0 ∨ cmpSame (d (s i)) (d (s (i - 1))) = false) ∧ ordV (d (s p)) (d (s i)) = 0 := fun p => by
    induction p with
    | zero => exact fun h => ⟨0, h, .inl rfl, ordV_self _⟩
    | succ p ih =>
      intro h
      cases hc : cmpSame (d (s (p + 1))) (d (s p)) with
      | false => exact ⟨p + 1, h, .inr (by simpa using hc), ordV_self _⟩
      | true =>
        obtain ⟨i, hi, hk, e⟩ := ih (by omega)
        have h1 : ordV (d (s (p + 1))) (d (s p)) = 0 := by simpa [cmpSame] using hc
        exact ⟨i, hi, hk, by rw [ordV_congr_left h1]; exact e⟩
  refine sorted_ext ?_ (sorted_ordD _) fun x => ?_
  · refine List.pairwise_map.2 ?_
    have hpw : (keepL (fun i => cmpSame (d (s i)) (d (s (i - 1)))) vs.length).Pairwise (· < ·) := by
      unfold keepL
      exact List.Pairwise.filter _ List.pairwise_lt_range
    refine hpw.imp_of_mem fun {i j} hi hj hij => ?_
    obtain ⟨_, _⟩ := keepL_in.1 hi
    obtain ⟨hj1, hj2⟩ := keepL_in.1 hj
    exact hkept i j hij hj1 (by rcases hj2 with h | h; omega; exact h)
  · rw [mem_ordD, List.mem_map]
    constructor
    · rintro ⟨i, hi, rfl⟩
      obtain ⟨h1, h2⟩ := keepL_in.1 hi
      exact hfirst i h1 h2
    · intro hx
      obtain ⟨q, hq, hqx, hqf⟩ := (firstIn_at vs x).1 hx
      obtain ⟨p, hpn, rfl⟩ := hsur q hq
      obtain ⟨i, hi, hk, e⟩ := hall p hpn
      refine ⟨i, keepL_in.2 ⟨hi, hk⟩, ?_⟩
      obtain ⟨q', hq', hqx', hqf'⟩ := (firstIn_at vs _).1 (hfirst i hi hk)
      rw [hd'] at hqx
      subst hqx
      rcases Nat.lt_trichotomy q' (s p) with h | h | h
      · exact absurd (by rw [hqx']; exact ordV_symm e) (hqf q' h)
      · rw [← hqx', h, hd']
      · exact absurd (by rw [hd']; exact e) (hqf' (s p) h)

end Go.Proofs.Ythicjpkomigacaa
