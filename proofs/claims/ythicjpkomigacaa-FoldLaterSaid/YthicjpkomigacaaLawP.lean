/- What the laws of fold ask of plain data. No program in sight. -/
import Derived.Test.YthicjpkomigacaaAlive
namespace Go.Proofs.Ythicjpkomigacaa
open Go.RowKit

def numD (v : VerD) : Prop := v.act.num < 18446744073709551616

theorem valueD_num {k : ByteArray} {us : List VerD} (h : ∀ v ∈ us, numD v) : (valueD k us).num < 18446744073709551616 := by
  have key : ∀ (us : List VerD) (st : ValD × Option VerD), (∀ v ∈ us, numD v) → st.1.num < 18446744073709551616 → (∀ u, st.2 = some u → numD u) →
      (us.foldl (stepV k) st).1.num < 18446744073709551616 ∧ ∀ u, (us.foldl (stepV k) st).2 = some u → numD u := by
    intro us
    induction us with
    | nil => exact fun st _ h1 h2 => ⟨h1, h2⟩
    | cons u us ih =>
      intro st h h1 h2
      rw [List.foldl_cons]
      refine ih _ (fun v hv => h v (by simp [hv])) ?_ ?_
      · unfold stepV
        split
        · split
          · split
            · exact h1
            · split <;> exact h1
          · exact afterD_num h1 (h u (by simp))
        · exact h1
      · intro x hx
        unfold stepV at hx
        split at hx
        · split at hx
          · split at hx
            · cases hx; exact h u (by simp)
            · split at hx
              · cases hx; exact h u (by simp)
              · exact h2 x hx
          · exact h2 x hx
        · exact h2 x hx
  obtain ⟨h1, h2⟩ := key us (zeroW, none) h (by show 0 < _; omega) (fun u hu => by cases hu)
  unfold valueD
  cases hs : (us.foldl (stepV k) (zeroW, none)).2 with
  | none => exact h1
  | some u => exact afterD_num (by show 0 < _; omega) (h2 u hs)

theorem readD_num {k : ByteArray} {us : List VerD} {ts : List Int} (h : ∀ v ∈ us, numD v) : (readD k us ts).num < 18446744073709551616 :=
  valueD_num fun v hv => h v (mem_of_ordD (List.mem_filter.1 hv).1)

theorem oneD_num {k : ByteArray} {es : List VerD} (h0 : es ≠ []) (h : ∀ v ∈ es, numD v) : numD (oneD k es) := by
  have key : ∀ (us : List VerD) (x : VerD), numD x → (∀ v ∈ us, numD v) → numD (us.foldl (oneStep k) x) := by
    intro us
    induction us with
    | nil => exact fun x h _ => h
    | cons u us ih => exact fun x h1 h2 => ih _ (bothD_num h1 (h2 u (by simp))) fun v hv => h2 v (by simp [hv])
  unfold oneD
  cases hr : es.reverse with
  | nil => exact absurd (by simpa using hr) h0
  | cons u us =>
    have hm : ∀ v, v ∈ u :: us → v ∈ es := fun v hv => by rw [← hr] at hv; simpa using hv
    exact key us _ (h u (hm u (by simp))) fun v hv => h v (hm v (by simp [hv]))

theorem drop_num {k : ByteArray} {vs : List VerD} {fs : List Int} {all : Bool} (h : ∀ v ∈ vs, numD v) : ∀ v ∈ dropD k vs fs all, numD v := by
  have ho : ∀ v ∈ ordD vs, numD v := fun v hv => h v (mem_of_ordD hv)
  have hs : ∀ v ∈ stayD fs (ordD vs), numD v := fun v hv => ho v (List.mem_filter.1 hv).1
  have he : ∀ v ∈ seenD k fs (ordD vs), numD v := fun v hv => ho v (List.mem_filter.1 hv).1
  intro v hv
  unfold dropD at hv
  split at hv
  · exact ho v hv
  · split at hv
    · exact hs v hv
    · rename_i h0
      have hne : seenD k fs (ordD vs) ≠ [] := fun e => h0 (by rw [e]; rfl)
      split at hv
      · have hv := mem_of_ordD hv
        rcases List.mem_append.1 hv with hv | hv
        · exact hs v hv
        · unfold keptD at hv
          split at hv
          · cases hv
          · rename_i hes
            split at hv
            · cases hv
            · obtain rfl : v = _ := by simpa using hv
              exact he _ (by rw [hes]; simp)
      · split at hv
        · rcases List.mem_append.1 hv with hv | hv
          · exact hs v hv
          · obtain rfl : v = _ := by simpa using hv
            exact oneD_num hne he
        · have hv := mem_of_ordD hv
          rcases List.mem_append.1 hv with hv | hv
          · exact hs v hv
          · exact he v hv

/-- What is asked of a list ahead of each law. -/
structure GoodL (k : ByteArray) (fs : List Int) (vs : List VerD) : Prop where
  len : vs.length ≤ 120
  fit : ∀ v ∈ vs, fitsD k v.act = true
  at_ : ∀ v ∈ vs, v.at_.length = fs.length
  num : ∀ v ∈ vs, numD v

theorem validL_len {fs : List Int} (h : validL fs = true) : 0 < fs.length ∧ fs.length ≤ 8 := by
  unfold validL at h
  simp only [Bool.and_eq_true, decide_eq_true_eq] at h
  omega

theorem good_of {k : ByteArray} {fs : List Int} {vs : List VerD} (hl : lightD vs = true) (hr : vs.all (rightV k fs.length) = true) (hn : ∀ v ∈ vs, numD v) : GoodL k fs vs := by
  unfold lightD at hl
  simp only [Bool.and_eq_true, decide_eq_true_eq] at hl
  refine ⟨by omega, fun v hv => ?_, fun v hv => ?_, hn⟩
  all_goals
    have h := List.all_eq_true.1 hr v hv
    unfold rightV at h
    simp only [Bool.and_eq_true, decide_eq_true_eq] at h
  · exact h.2.2.2.2
  · have := h.2.1; omega

theorem GoodL.drop {k : ByteArray} {fs : List Int} {vs : List VerD} (h : GoodL k fs vs) (all : Bool) : GoodL k fs (dropD k vs fs all) ∧ (dropD k vs fs all).length ≤ vs.length ∧ ∀ ts, leqL fs ts = true → sameVD (readD k vs ts) (readD k (dropD k vs fs all) ts) = true := by
  obtain ⟨h1, h2⟩ := drop_keeps (all := all) h.fit h.at_
  refine ⟨⟨by have := h.len; omega, fun v hv => (h1 v hv).1, fun v hv => (h1 v hv).2, drop_num h.num⟩, h2, fun ts hts => ?_⟩
  have hd := drop_read (k := k) (vs := vs) (L := []) (fs := fs) (all := all) h.fit (fun v hv => by cases hv) (by rw [List.append_nil]; exact (sorted_ordD vs).dist) (fun _ v hv => by cases hv)
  have := hd.2 ts hts
  rw [List.append_nil, List.append_nil] at this
  exact (sameVD_iff _ _).2 this

theorem GoodL.small {k : ByteArray} {fs : List Int} {vs : List VerD} (h : GoodL k fs vs) (hf : validL fs = true) : ∀ v ∈ vs, v.at_.length ≤ 1000000 := fun v hv => by
  have := h.at_ v hv
  have := validL_len hf
  omega

end Go.Proofs.Ythicjpkomigacaa
