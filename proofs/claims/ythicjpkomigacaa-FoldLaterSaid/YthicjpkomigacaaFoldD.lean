/- The plain law of fold: what is dropped nobody misses. No program in sight. -/
import Derived.Test.YthicjpkomigacaaFoldV
import Derived.Test.YthicjpkomigacaaLast
import Derived.Test.YthicjpkomigacaaVecW
namespace Go.Proofs.Ythicjpkomigacaa
open Go.RowKit

/-- What fold.Read answers. -/
def readD (k : ByteArray) (vs : List VerD) (ts : List Int) : ValD := valueD k ((ordD vs).filter fun v => leqL v.at_ ts)

def stayD (fs : List Int) (rs : List VerD) : List VerD := rs.filter fun v => !leqL v.at_ fs
def seenD (k : ByteArray) (fs : List Int) (rs : List VerD) : List VerD := rs.filter fun v => leqL v.at_ fs && fitsD k v.act
def oneStep (k : ByteArray) (o v : VerD) : VerD := ⟨o.key, joinL o.at_ v.at_, o.origin, mx o.tx v.tx, bothD k o.act v.act⟩
def oneD (k : ByteArray) (es : List VerD) : VerD :=
  match es.reverse with
  | [] => default
  | u :: us => us.foldl (oneStep k) ⟨k, u.at_, 254, u.tx, u.act⟩
def keptD (ss es : List VerD) (fs : List Int) (all : Bool) : List VerD :=
  match es with
  | [] => []
  | e :: _ => if goneD ss e fs all then [] else [e]
/-- What fold.Drop answers. -/
def dropD (k : ByteArray) (vs : List VerD) (fs : List Int) (all : Bool) : List VerD :=
  if !isK k || !validL fs then ordD vs
  else if (seenD k fs (ordD vs)).length = 0 then stayD fs (ordD vs)
  else if regK k then ordD (stayD fs (ordD vs) ++ keptD (stayD fs (ordD vs)) (seenD k fs (ordD vs)) fs all)
  else if all && decide (1 < (seenD k fs (ordD vs)).length) then stayD fs (ordD vs) ++ [oneD k (seenD k fs (ordD vs))]
  else ordD (stayD fs (ordD vs) ++ seenD k fs (ordD vs))

theorem leqL_trans {xs ys zs : List Int} (h : leqL xs ys = true) (h' : leqL ys zs = true) : leqL xs zs = true := by
  induction xs generalizing ys zs with
  | nil => cases ys with
    | nil => exact h'
    | cons y ys => simp [leqL] at h
  | cons x xs ih => cases ys with
    | nil => simp [leqL] at h
    | cons y ys => cases zs with
      | nil => simp [leqL] at h'
      | cons z zs =>
        simp only [leqL, Bool.and_eq_true, decide_eq_true_eq] at h h' ⊢
        exact ⟨by omega, ih h.2 h'.2⟩

theorem leqL_length {xs ys : List Int} (h : leqL xs ys = true) : xs.length = ys.length := by
  refine Decidable.byContradiction fun hn => ?_
  rw [leqL_len hn] at h
  cases h

theorem leqL_join {xs ys zs : List Int} (h : leqL xs zs = true) (h' : leqL ys zs = true) : leqL (joinL xs ys) zs = true := by
  have hl := (leqL_length h).trans (leqL_length h').symm
  unfold joinL
  rw [if_pos hl]
  induction xs generalizing ys zs with
  | nil => cases ys with
    | nil => exact h
    | cons y ys => simp at hl
  | cons x xs ih => cases ys with
    | nil => simp at hl
    | cons y ys => cases zs with
      | nil => simp [leqL] at h'
      | cons z zs =>
        simp only [List.zipWith_cons_cons, leqL, Bool.and_eq_true, decide_eq_true_eq] at h h' ⊢
        refine ⟨?_, ih h.2 h'.2 (by simpa using hl)⟩
        unfold mx
        split <;> omega

theorem leqL_joinL {xs ys : List Int} (hl : xs.length = ys.length) : leqL xs (joinL xs ys) = true := by
  unfold joinL
  rw [if_pos hl]
  induction xs generalizing ys with
  | nil => cases ys with
    | nil => rfl
    | cons y ys => simp at hl
  | cons x xs ih => cases ys with
    | nil => simp at hl
    | cons y ys =>
      simp only [List.zipWith_cons_cons, leqL, Bool.and_eq_true, decide_eq_true_eq]
      refine ⟨?_, ih (by simpa using hl)⟩
      unfold mx
      split <;> omega

theorem joinL_length {xs ys : List Int} (hl : xs.length = ys.length) : (joinL xs ys).length = xs.length := by
  unfold joinL
  rw [if_pos hl, List.length_zipWith]
  omega

theorem leqL_refl (xs : List Int) : leqL xs xs = true := by
  induction xs with
  | nil => rfl
  | cons x xs ih => simp [leqL, ih]

theorem filter_split {α : Type} (l : List α) (p : α → Bool) : l.Perm (l.filter (fun x => !p x) ++ l.filter p) := by
  induction l with
  | nil => exact List.Perm.refl _
  | cons x l ih =>
    cases h : p x with
    | false => simp only [List.filter_cons, h]; simpa using ih
    | true =>
      simp only [List.filter_cons, h]
      simp only [Bool.not_true, Bool.false_eq_true, if_false, if_true]
      exact (ih.cons x).trans (List.perm_middle.symm)

theorem filter_all {α : Type} {p : α → Bool} {l : List α} (h : ∀ a ∈ l, p a = true) : l.filter p = l := List.filter_eq_self.2 h
theorem filter_none {α : Type} {p : α → Bool} {l : List α} (h : ∀ a ∈ l, p a = false) : l.filter p = [] := List.filter_eq_nil_iff.2 fun a ha => by simp [h a ha]

theorem ordV_same_at {a b : VerD} (h : ordV a b = 0) : a.at_ = b.at_ := by
  have := ordV_zero h
  unfold keyV at this
  simp only [List.cons.injEq] at this
  exact this.2.2.2.2

theorem ordV_later {a b : VerD} (h : timeI b < timeI a) : ordV a b < 0 := by
  have h1 : (-timeI a < -timeI b) := by omega
  unfold ordV keyV
  simp only [cmpL]
  simp [h1]

theorem read_dist {k : ByteArray} {us : List VerD} (h : DistV us) (ts : List Int) : readD k us ts = valueD k (ordD (us.filter fun v => leqL v.at_ ts)) := by
  unfold readD
  rw [ordD_filter h]

theorem read_perm {k : ByteArray} {us us' : List VerD} (h : DistV us) (p : us.Perm us') (ts : List Int) : readD k us ts = readD k us' ts := by
  unfold readD
  rw [ordD_congr h p]

theorem read_append (k : ByteArray) (vs L : List VerD) (ts : List Int) : readD k (vs ++ L) ts = readD k (ordD vs ++ L) ts := by
  unfold readD
  rw [ordD_append]

/-- The first of all. -/
theorem head_least {us : List VerD} (h : DistV us) {x : VerD} : (ordD us).head? = some x ↔ x ∈ us ∧ ∀ v ∈ us, v = x ∨ ordV x v < 0 := by
  have p := ordD_perm h
  have hs := sorted_ordD us
  constructor
  · intro hx
    cases ho : ordD us with
    | nil => rw [ho] at hx; cases hx
    | cons y l =>
      rw [ho] at hx hs p
      obtain rfl : y = x := by simpa using hx
      refine ⟨p.mem_iff.1 (by simp), fun v hv => ?_⟩
      rcases List.mem_cons.1 (p.mem_iff.2 hv) with h1 | h1
      · exact .inl h1
      · exact .inr ((List.pairwise_cons.1 hs).1 v h1)
  · rintro ⟨hx, hl⟩
    cases ho : ordD us with
    | nil => rw [ho] at p; have := p.mem_iff.2 hx; cases this
    | cons y l =>
      rw [ho] at hs p
      rcases hl y (p.mem_iff.1 (by simp)) with h1 | h1
      · rw [h1]; rfl
      · rcases List.mem_cons.1 (p.mem_iff.2 hx) with h2 | h2
        · rw [h2]; rfl
        · have := ordV_lt_trans h1 ((List.pairwise_cons.1 hs).1 x h2)
          rw [ordV_self] at this; omega

/-- What stands behind others is not the first. -/
theorem head_drop {us es : List VerD} (h : DistV (us ++ es)) (hu : us ≠ []) (he : ∀ v ∈ es, ∃ u ∈ us, ordV u v < 0) : (ordD (us ++ es)).head? = (ordD us).head? := by
  have h1 : DistV us := (List.pairwise_append.1 h).1
  cases hh : (ordD us).head? with
  | none =>
    have : ordD us = [] := by simpa using hh
    have p := ordD_perm h1
    rw [this] at p
    exact absurd (p.symm.eq_nil) hu
  | some x =>
    obtain ⟨hx, hl⟩ := (head_least h1).1 hh
    refine (head_least h).2 ⟨by simp [hx], fun v hv => ?_⟩
    rcases List.mem_append.1 hv with hv | hv
    · exact hl v hv
    · obtain ⟨u, hu, hlt⟩ := he v hv
      rcases hl u hu with rfl | h2
      · exact .inr hlt
      · exact .inr (ordV_lt_trans h2 hlt)

theorem foldA_one (k : ByteArray) (l : List Int) : ∀ (o : Option Int) (x : Int), l.foldl (stepA k) (stepA k o x) = stepA k o (l.foldl (opA k) x) := by
  induction l with
  | nil => exact fun _ _ => rfl
  | cons y l ih =>
    intro o x
    have e : stepA k (stepA k o x) y = stepA k o (opA k x y) := by
      cases o with
      | none => rfl
      | some z => simp only [stepA]; rw [opA_assoc]
    simp only [List.foldl_cons]
    rw [e, ih]

/-- The one that stands for all. -/
theorem one_facts {k : ByteArray} (hr : regK k = false) {fs : List Int} {es : List VerD} (h0 : es ≠ []) (hf : ∀ v ∈ es, fitsD k v.act = true) (hl : ∀ v ∈ es, leqL v.at_ fs = true) :
    fitsD k (oneD k es).act = true ∧ leqL (oneD k es).at_ fs = true ∧ ∀ o, (es.map fun v => numA k v.act).foldl (stepA k) o = stepA k o (numA k (oneD k es).act) := by
  have key : ∀ (us : List VerD) (x : VerD), fitsD k x.act = true → leqL x.at_ fs = true → (∀ v ∈ us, fitsD k v.act = true) → (∀ v ∈ us, leqL v.at_ fs = true) →
      fitsD k (us.foldl (oneStep k) x).act = true ∧ leqL (us.foldl (oneStep k) x).at_ fs = true ∧ numA k (us.foldl (oneStep k) x).act = (us.map fun v => numA k v.act).foldl (opA k) (numA k x.act) := by
    intro us
    induction us with
    | nil => exact fun x h1 h2 _ _ => ⟨h1, h2, rfl⟩
    | cons u us ih =>
      intro x h1 h2 h3 h4
      have hb := both_non h1 (h3 u (by simp)) hr
      simp only [List.foldl_cons, List.map_cons]
      rw [← hb.2]
      exact ih (oneStep k x u) hb.1 (leqL_join h2 (h4 u (by simp))) (fun v hv => h3 v (by simp [hv])) (fun v hv => h4 v (by simp [hv]))
  cases hrev : es.reverse with
  | nil => exact absurd (by simpa using hrev) h0
  | cons u us =>
    have hm : ∀ v, v ∈ u :: us → v ∈ es := fun v hv => by rw [← hrev] at hv; simpa using hv
    have e : oneD k es = us.foldl (oneStep k) ⟨k, u.at_, 254, u.tx, u.act⟩ := by unfold oneD; rw [hrev]
    obtain ⟨a1, a2, a3⟩ := key us ⟨k, u.at_, 254, u.tx, u.act⟩ (hf u (hm u (by simp))) (hl u (hm u (by simp))) (fun v hv => hf v (hm v (by simp [hv]))) (fun v hv => hl v (hm v (by simp [hv])))
    rw [e]
    refine ⟨a1, a2, fun o => ?_⟩
    have p : (es.map fun v => numA k v.act).Perm ((u :: us).map fun v => numA k v.act) := by
      rw [← hrev]
      exact (List.reverse_perm es).symm.map _
    rw [foldA_perm k p o, List.map_cons, List.foldl_cons, foldA_one, a3]

theorem gone_facts {ss : List VerD} {e : VerD} {fs : List Int} {all : Bool} (h : goneD ss e fs all = true) : all = true ∧ e.act.kind = 4 ∧ timeI e ≤ minL fs ∧ ∀ v ∈ ss, ¬ ordV e v < 0 := by
  unfold goneD at h
  simp only [Bool.and_eq_true, decide_eq_true_eq, Bool.or_eq_true, Bool.not_eq_true'] at h
  obtain ⟨h1, h2, h3, h4⟩ := h
  refine ⟨h1, h2, h3, fun v hv => ?_⟩
  rcases h4 with h4 | h4
  · rw [List.eq_nil_of_length_eq_zero h4] at hv; cases hv
  · have := List.any_eq_false.1 h4 v hv
    simpa [beforeD] using this

theorem after_clear (k : ByteArray) {a : ActD} (h : a.kind = 4) : afterD k zeroW a = zeroW := by
  unfold afterD
  split
  · simp [zeroW, h]
  · rfl

theorem stay_seen {k : ByteArray} {fs : List Int} {rs : List VerD} (hf : ∀ v ∈ rs, fitsD k v.act = true) : rs.Perm (stayD fs rs ++ seenD k fs rs) := by
  have e : seenD k fs rs = rs.filter fun v => leqL v.at_ fs := by
    unfold seenD
    refine List.filter_congr fun v hv => ?_
    rw [hf v hv, Bool.and_true]
  rw [e]
  exact filter_split rs _

theorem perm_last {α : Type} (a e b : List α) : ((a ++ e) ++ b).Perm ((a ++ b) ++ e) := by
  rw [List.append_assoc, List.append_assoc]
  exact List.perm_append_comm.append_left a

/-- What is read of a list whose stamps differ, all of whose acts fit: of a register. -/
theorem read_reg {k : ByteArray} (hr : regK k = true) {us : List VerD} (hf : ∀ v ∈ us, fitsD k v.act = true) : valueD k (ordD us) = headV k (ordD us).head? :=
  value_reg (fun u hu => hf u (mem_of_ordD hu)) hr (sorted_ordD us)
/-- Of another key. -/
theorem read_non {k : ByteArray} (hr : regK k = false) {us : List VerD} (hd : DistV us) (hf : ∀ v ∈ us, fitsD k v.act = true) : RepV k (valueD k (ordD us)) ((us.map fun v => numA k v.act).foldl (stepA k) none) := by
  have h := value_non (us := ordD us) (fun u hu => hf u (mem_of_ordD hu)) hr
  rw [foldA_perm k ((ordD_perm hd).map _) none] at h
  exact h

/-- The case of a register: sf, lf: what is seen of what stays and of what comes later; e :: es: what is seen at the floor. -/
theorem reg_kept {k : ByteArray} (hr : regK k = true) {sf lf es : List VerD} {e : VerD} (hd : DistV ((sf ++ lf) ++ e :: es)) (hf : ∀ v ∈ (sf ++ lf) ++ e :: es, fitsD k v.act = true) (hs : ∀ v ∈ es, ordV e v < 0) :
    valueD k (ordD ((sf ++ lf) ++ e :: es)) = valueD k (ordD ((sf ++ [e]) ++ lf)) := by
  have p : ((sf ++ lf) ++ e :: es).Perm (((sf ++ [e]) ++ lf) ++ es) := by
    have h1 : ((sf ++ lf) ++ e :: es) = ((sf ++ lf) ++ [e]) ++ es := by simp
    rw [h1]
    exact (perm_last sf lf [e]).append_right es
  rw [ordD_congr hd p, read_reg hr (fun v hv => hf v (p.mem_iff.2 hv)), read_reg hr (fun v hv => hf v (p.mem_iff.2 (by simp only [List.mem_append] at hv ⊢; exact .inl hv)))]
  rw [head_drop (hd.perm p) (by simp) (fun v hv => ⟨e, by simp, hs v hv⟩)]

theorem reg_gone {k : ByteArray} (hr : regK k = true) {us es : List VerD} {e : VerD} (hd : DistV (us ++ e :: es)) (hf : ∀ v ∈ us ++ e :: es, fitsD k v.act = true) (hs : SortedV (e :: es)) (hk : e.act.kind = 4) (hl : ∀ u ∈ us, ordV u e < 0) :
    valueD k (ordD (us ++ e :: es)) = valueD k (ordD us) := by
  rw [read_reg hr hf, read_reg hr (fun v hv => hf v (by simp [hv]))]
  by_cases hn : us = []
  · subst hn
    rw [List.nil_append, ordD_of_sorted hs]
    exact after_clear k hk
  · rw [head_drop hd hn]
    intro v hv
    obtain ⟨u, hu⟩ := List.exists_mem_of_ne_nil us hn
    refine ⟨u, hu, ?_⟩
    rcases List.mem_cons.1 hv with rfl | hv
    · exact hl u hu
    · exact ordV_lt_trans (hl u hu) ((List.pairwise_cons.1 hs).1 v hv)

theorem non_one {k : ByteArray} (hr : regK k = false) {fs : List Int} {sf lf es : List VerD} (h0 : es ≠ []) (hd : DistV ((sf ++ lf) ++ es)) (hf : ∀ v ∈ (sf ++ lf) ++ es, fitsD k v.act = true) (hl : ∀ v ∈ es, leqL v.at_ fs = true) (hd' : DistV ((sf ++ [oneD k es]) ++ lf)) :
    EqV (valueD k (ordD ((sf ++ lf) ++ es))) (valueD k (ordD ((sf ++ [oneD k es]) ++ lf))) := by
  have ho := one_facts hr h0 (fun v hv => hf v (by simp [hv])) hl
  have h1 := read_non hr hd hf
  have h2 := read_non hr (us := (sf ++ lf) ++ [oneD k es]) (hd'.perm (perm_last _ _ _)) (fun v hv => by
    rcases List.mem_append.1 hv with hv | hv
    · exact hf v (by simp only [List.mem_append] at hv ⊢; exact .inl hv)
    · obtain rfl : v = oneD k es := by simpa using hv
      exact ho.1)
  rw [ordD_congr hd' (perm_last _ _ _)]
  rw [List.map_append, List.foldl_append] at h1 h2
  rw [ho.2.2] at h1
  exact h1.eqv h2

/-- What is dropped nobody misses, whatever comes later. -/
theorem drop_read {k : ByteArray} {vs L : List VerD} {fs : List Int} {all : Bool} (hf : ∀ v ∈ vs, fitsD k v.act = true) (hfL : ∀ v ∈ L, fitsD k v.act = true) (hd : DistV (ordD vs ++ L))
    (hL : all = true → ∀ v ∈ L, leqL v.at_ fs = false ∧ minL fs < timeI v) :
    DistV (dropD k vs fs all ++ L) ∧ ∀ ts, leqL fs ts = true → EqV (readD k (vs ++ L) ts) (readD k (dropD k vs fs all ++ L) ts) := by
  have hfr : ∀ v ∈ ordD vs, fitsD k v.act = true := fun v hv => hf v (mem_of_ordD hv)
  have hsr := sorted_ordD vs
  have hra : ∀ ts, readD k (vs ++ L) ts = readD k (ordD vs ++ L) ts := fun ts => read_append k vs L ts
  unfold dropD
  generalize ordD vs = rs at *
  have perm_case : ∀ m, rs.Perm m → DistV (m ++ L) ∧ ∀ ts, leqL fs ts = true → EqV (readD k (vs ++ L) ts) (readD k (m ++ L) ts) := fun m p =>
    ⟨hd.perm (p.append_right L), fun ts _ => by rw [hra, read_perm hd (p.append_right L)]; exact EqV.refl _⟩
  split
  · exact perm_case rs (List.Perm.refl _)
  · have p := stay_seen (fs := fs) hfr
    have hss : SortedV (stayD fs rs) := hsr.filter _
    have hes : SortedV (seenD k fs rs) := hsr.filter _
    have hsf : ∀ v ∈ stayD fs rs, fitsD k v.act = true ∧ leqL v.at_ fs = false := fun v hv => by
      have := List.mem_filter.1 hv
      exact ⟨hfr v this.1, by simpa using this.2⟩
    have hef : ∀ v ∈ seenD k fs rs, fitsD k v.act = true ∧ leqL v.at_ fs = true := fun v hv => by
      have := List.mem_filter.1 hv
      simp only [Bool.and_eq_true] at this
      exact ⟨this.2.2, this.2.1⟩
    generalize stayD fs rs = ss at *
    generalize seenD k fs rs = es at *
    split
    · rename_i h0
      rw [List.eq_nil_of_length_eq_zero h0, List.append_nil] at p
      exact perm_case ss p
    · rename_i h0
      have hd2 : DistV ((ss ++ es) ++ L) := hd.perm (p.append_right L)
      have hdl : DistV ((ss ++ L) ++ es) := hd2.perm (perm_last _ _ _)
      -- what is seen at ts
      have hleft : ∀ ts, leqL fs ts = true → readD k (vs ++ L) ts = valueD k (ordD ((ss.filter (fun v => leqL v.at_ ts) ++ L.filter (fun v => leqL v.at_ ts)) ++ es)) := fun ts hts => by
        rw [hra, read_perm hd ((p.append_right L).trans (perm_last _ _ _)), read_dist hdl, List.filter_append, List.filter_append, filter_all fun v hv => leqL_trans (hef v hv).2 hts]
      have hdts : ∀ ts, DistV ((ss.filter (fun v => leqL v.at_ ts) ++ L.filter (fun v => leqL v.at_ ts)) ++ es) := fun ts =>
        hdl.sublist (((List.filter_sublist).append (List.filter_sublist)).append (List.Sublist.refl _))
      have hfts : ∀ ts, ∀ v ∈ (ss.filter (fun v => leqL v.at_ ts) ++ L.filter (fun v => leqL v.at_ ts)) ++ es, fitsD k v.act = true := fun ts v hv => by
        simp only [List.mem_append, List.mem_filter] at hv
        rcases hv with (hv | hv) | hv
        · exact (hsf v hv.1).1
        · exact hfL v hv.1
        · exact (hef v hv).1
      split
      · rename_i hreg
        cases es with
        | nil => exact absurd rfl h0
        | cons e es =>
          have hlate := (List.pairwise_cons.1 hes).1
          rw [show keptD ss (e :: es) fs all = if goneD ss e fs all then [] else [e] from rfl]
          cases hg : goneD ss e fs all with
          | false =>
            simp only [Bool.false_eq_true, if_false]
            have hsub : DistV ((ss ++ [e]) ++ L) := hd2.sublist (((List.Sublist.refl ss).append ((List.nil_sublist es).cons_cons e)).append (List.Sublist.refl L))
            have hse : DistV (ss ++ [e]) := (List.pairwise_append.1 hsub).1
            refine ⟨hsub.perm ((ordD_perm hse).symm.append_right L), fun ts hts => ?_⟩
            rw [← read_append, read_dist hsub, hleft ts hts, List.filter_append, List.filter_append, filter_all (l := [e]) fun v hv => leqL_trans (hef v (by simp at hv; simp [hv])).2 hts]
            rw [reg_kept hreg (hdts ts) (hfts ts) hlate]
            exact EqV.refl _
          | true =>
            obtain ⟨g1, g2, g3, g4⟩ := gone_facts hg
            simp only [if_true]
            rw [List.append_nil, ordD_of_sorted hss]
            have hsl : DistV (ss ++ L) := (List.pairwise_append.1 hdl).1
            refine ⟨hsl, fun ts hts => ?_⟩
            rw [read_dist hsl, hleft ts hts, List.filter_append]
            rw [reg_gone hreg (hdts ts) (hfts ts) hes g2 fun u hu => ?_]
            · exact EqV.refl _
            · rcases List.mem_append.1 hu with hu | hu
              · have hu := (List.mem_filter.1 hu).1
                have h1 := g4 u hu
                have h2 : ordV u e ≠ 0 := (List.pairwise_append.1 (List.pairwise_append.1 hd2).1).2.2 u hu e (by simp)
                exact ordV_gt h1 (ordV_ne_symm h2)
              · have hu := (List.mem_filter.1 hu).1
                exact ordV_later (by have := (hL g1 u hu).2; omega)
      · rename_i hreg
        have hreg : regK k = false := by simpa using hreg
        have hne : es ≠ [] := fun h => h0 (by rw [h]; rfl)
        split
        · rename_i hall
          simp only [Bool.and_eq_true] at hall
          have ho := one_facts hreg hne (fun v hv => (hef v hv).1) (fun v hv => (hef v hv).2)
          have hsl : DistV (ss ++ L) := (List.pairwise_append.1 hdl).1
          have hso : ∀ v ∈ ss ++ L, ordV v (oneD k es) ≠ 0 := fun v hv e => by
            have h1 := ordV_same_at e
            have h2 : leqL v.at_ fs = false := by
              rcases List.mem_append.1 hv with hv | hv
              · exact (hsf v hv).2
              · exact (hL hall.1 v hv).1
            rw [h1, ho.2.1] at h2
            cases h2
          have hdo : DistV ((ss ++ L) ++ [oneD k es]) := List.pairwise_append.2 ⟨hsl, by simp, fun v hv u hu => by
            obtain rfl : u = oneD k es := by simpa using hu
            exact hso v hv⟩
          have hdo2 : DistV ((ss ++ [oneD k es]) ++ L) := hdo.perm (perm_last _ _ _)
          refine ⟨hdo2, fun ts hts => ?_⟩
          rw [read_dist hdo2, hleft ts hts, List.filter_append, List.filter_append, filter_all (l := [oneD k es]) fun v hv => by
            obtain rfl : v = oneD k es := by simpa using hv
            exact leqL_trans ho.2.1 hts]
          exact non_one hreg hne (hdts ts) (hfts ts) (fun v hv => (hef v hv).2) (hdo2.sublist (((List.filter_sublist).append (List.Sublist.refl _)).append (List.filter_sublist)))
        · have hse : DistV (ss ++ es) := (List.pairwise_append.1 hd2).1
          exact perm_case _ (p.trans (ordD_perm hse).symm)

/-- What is dropped fits, and is no longer. -/
theorem drop_keeps {k : ByteArray} {vs : List VerD} {fs : List Int} {all : Bool} (hf : ∀ v ∈ vs, fitsD k v.act = true) (hl : ∀ v ∈ vs, v.at_.length = fs.length) :
    (∀ v ∈ dropD k vs fs all, fitsD k v.act = true ∧ v.at_.length = fs.length) ∧ (dropD k vs fs all).length ≤ vs.length := by
  have hv : ∀ v ∈ ordD vs, fitsD k v.act = true ∧ v.at_.length = fs.length := fun v hv => ⟨hf v (mem_of_ordD hv), hl v (mem_of_ordD hv)⟩
  have hlen : (ordD vs).length ≤ vs.length := by
    have key : ∀ (us acc : List VerD), (us.foldl (fun acc v => insD v acc) acc).length ≤ acc.length + us.length := by
      intro us
      induction us with
      | nil => intro acc; simp
      | cons u us ih =>
        intro acc
        have h1 := ih (insD u acc)
        have h2 : (insD u acc).length ≤ acc.length + 1 := by
          clear h1 ih
          induction acc with
          | nil => simp [insD]
          | cons a acc ih =>
            simp only [insD]
            split
            · simp
            · split
              · simp
              · simp only [List.length_cons]; omega
        simp only [List.foldl_cons, List.length_cons]
        omega
    have := key vs []
    simpa [ordD] using this
  have hsr := sorted_ordD vs
  unfold dropD
  generalize ordD vs = rs at *
  have hfr : ∀ v ∈ rs, fitsD k v.act = true := fun v h => (hv v h).1
  have perm_case : ∀ m : List VerD, (∀ v ∈ m, v ∈ rs) → m.length ≤ rs.length → (∀ v ∈ m, fitsD k v.act = true ∧ v.at_.length = fs.length) ∧ m.length ≤ vs.length := fun m h1 h2 =>
    ⟨fun v h => hv v (h1 v h), Nat.le_trans h2 hlen⟩
  split
  · exact perm_case rs (fun _ h => h) (Nat.le_refl _)
  · have p := stay_seen (fs := fs) hfr
    have hd2 : DistV (stayD fs rs ++ seenD k fs rs) := hsr.dist.perm p
    have hef : ∀ v ∈ seenD k fs rs, fitsD k v.act = true ∧ leqL v.at_ fs = true := fun v hv => by
      have := List.mem_filter.1 hv
      simp only [Bool.and_eq_true] at this
      exact ⟨this.2.2, this.2.1⟩
    have hpl := p.length_eq
    rw [List.length_append] at hpl
    have hin : ∀ v, v ∈ stayD fs rs ++ seenD k fs rs → v ∈ rs := fun v h => p.mem_iff.2 h
    generalize stayD fs rs = ss at *
    generalize seenD k fs rs = es at *
    split
    · exact perm_case ss (fun v h => hin v (by simp [h])) (by omega)
    · rename_i h0
      split
      · cases es with
        | nil => exact absurd rfl h0
        | cons e es =>
          rw [show keptD ss (e :: es) fs all = if goneD ss e fs all then [] else [e] from rfl]
          have hse : DistV (ss ++ [e]) := hd2.sublist ((List.Sublist.refl ss).append ((List.nil_sublist es).cons_cons e))
          cases goneD ss e fs all with
          | false =>
            simp only [Bool.false_eq_true, if_false]
            refine perm_case _ (fun v h => hin v ?_) ?_
            · have := mem_of_ordD h
              simp only [List.mem_append, List.mem_cons, List.not_mem_nil, or_false] at this ⊢
              rcases this with h | h
              · exact .inl h
              · exact .inr (.inl h)
            · rw [(ordD_perm hse).length_eq]
              simp only [List.length_append, List.length_cons, List.length_nil] at hpl ⊢
              omega
          | true =>
            simp only [if_true, List.append_nil]
            have hss : DistV ss := (List.pairwise_append.1 hd2).1
            refine perm_case _ (fun v h => hin v (by simp [mem_of_ordD h])) ?_
            rw [(ordD_perm hss).length_eq]
            omega
      · rename_i hreg
        have hreg : regK k = false := by simpa using hreg
        have hne : es ≠ [] := fun h => h0 (by rw [h]; rfl)
        split
        · rename_i hall
          simp only [Bool.and_eq_true, decide_eq_true_eq] at hall
          have ho := one_facts hreg hne (fun v hv => (hef v hv).1) (fun v hv => (hef v hv).2)
          refine ⟨fun v h => ?_, ?_⟩
          · rcases List.mem_append.1 h with h | h
            · exact hv v (hin v (by simp [h]))
            · obtain rfl : v = oneD k es := by simpa using h
              exact ⟨ho.1, leqL_length ho.2.1⟩
          · simp only [List.length_append, List.length_cons, List.length_nil]
            omega
        · refine perm_case _ (fun v h => hin v (mem_of_ordD h)) ?_
          rw [(ordD_perm hd2).length_eq, List.length_append]
          omega

/-- What was dropped once drops nothing more. -/
theorem drop_twice {k : ByteArray} {vs : List VerD} {fs : List Int} (hf : ∀ v ∈ vs, fitsD k v.act = true) : (dropD k (dropD k vs fs true) fs true).length = (dropD k vs fs true).length := by
  have hfr : ∀ v ∈ ordD vs, fitsD k v.act = true := fun v hv => hf v (mem_of_ordD hv)
  have hsr := sorted_ordD vs
  by_cases hk : (!isK k || !validL fs) = true
  · have e : ∀ vs, dropD k vs fs true = ordD vs := fun vs => by unfold dropD; rw [if_pos hk]
    rw [e, e, ordD_of_sorted hsr]
  have p := stay_seen (fs := fs) hfr
  have hss : SortedV (stayD fs (ordD vs)) := hsr.filter _
  have hes : SortedV (seenD k fs (ordD vs)) := hsr.filter _
  have hsf : ∀ v ∈ stayD fs (ordD vs), leqL v.at_ fs = false := fun v hv => by
    have := List.mem_filter.1 hv
    simpa using this.2
  have hef : ∀ v ∈ seenD k fs (ordD vs), fitsD k v.act = true ∧ leqL v.at_ fs = true := fun v hv => by
    have := List.mem_filter.1 hv
    simp only [Bool.and_eq_true] at this
    exact ⟨this.2.2, this.2.1⟩
  have hd2 : DistV (stayD fs (ordD vs) ++ seenD k fs (ordD vs)) := hsr.dist.perm p
  have unf : ∀ us, dropD k us fs true = if (seenD k fs (ordD us)).length = 0 then stayD fs (ordD us)
    else if regK k then ordD (stayD fs (ordD us) ++ keptD (stayD fs (ordD us)) (seenD k fs (ordD us)) fs true)
    else if true && decide (1 < (seenD k fs (ordD us)).length) then stayD fs (ordD us) ++ [oneD k (seenD k fs (ordD us))]
    else ordD (stayD fs (ordD us) ++ seenD k fs (ordD us)) := fun us => by unfold dropD; rw [if_neg hk]
  -- a second time over what stays and some that are seen
  have second : ∀ us ts : List VerD, SortedV us → SortedV ts → DistV (us ++ ts) → (∀ v ∈ us, leqL v.at_ fs = false) → (∀ v ∈ ts, fitsD k v.act = true ∧ leqL v.at_ fs = true) → stayD fs (ordD (us ++ ts)) = us ∧ seenD k fs (ordD (us ++ ts)) = ts := fun us ts h1 h2 h3 h4 h5 => by
    unfold stayD seenD
    rw [ordD_filter h3, ordD_filter h3, List.filter_append, List.filter_append]
    rw [filter_all (l := us) (fun v hv => by rw [h4 v hv]; rfl), filter_none (l := ts) (fun v hv => by rw [(h5 v hv).2]; rfl),
      filter_none (l := us) (fun v hv => by rw [h4 v hv]; rfl), filter_all (l := ts) (fun v hv => by rw [(h5 v hv).1, (h5 v hv).2]; rfl)]
    rw [List.append_nil, List.nil_append]
    exact ⟨ordD_of_sorted h1, ordD_of_sorted h2⟩
  have stays : ∀ us, SortedV us → (∀ v ∈ us, leqL v.at_ fs = false) → dropD k us fs true = us := fun us h1 h2 => by
    obtain ⟨e1, e2⟩ := second us [] h1 List.Pairwise.nil (by simpa using h1.dist) h2 (fun v hv => by cases hv)
    rw [List.append_nil] at e1 e2
    rw [unf, e1, e2]
    simp
  have u0 := unf vs
  generalize stayD fs (ordD vs) = ss at *
  generalize seenD k fs (ordD vs) = es at *
  rw [u0]
  split
  · rw [stays ss hss hsf]
  · rename_i h0
    split
    · rename_i hreg
      cases es with
      | nil => exact absurd rfl h0
      | cons e es =>
        rw [show keptD ss (e :: es) fs true = if goneD ss e fs true then [] else [e] from rfl]
        have hse : DistV (ss ++ [e]) := hd2.sublist ((List.Sublist.refl ss).append ((List.nil_sublist es).cons_cons e))
        cases hg : goneD ss e fs true with
        | true =>
          simp only [if_true, List.append_nil]
          rw [ordD_of_sorted hss, stays ss hss hsf]
        | false =>
          simp only [Bool.false_eq_true, if_false]
          obtain ⟨e1, e2⟩ := second ss [e] hss (List.pairwise_singleton _ _) hse hsf (fun v hv => hef v (by simp at hv; simp [hv]))
          have e3 : ordD (ordD (ss ++ [e])) = ordD (ss ++ [e]) := ordD_of_sorted (sorted_ordD _)
          rw [unf (ordD (ss ++ [e])), e3, e1, e2, if_neg (by simp), if_pos hreg, show keptD ss [e] fs true = if goneD ss e fs true then [] else [e] from rfl, hg]
          simp
    · rename_i hreg
      have hregf : regK k = false := by simpa using hreg
      have hne : es ≠ [] := fun h => h0 (by rw [h]; rfl)
      split
      · have ho := one_facts hregf hne (fun v hv => (hef v hv).1) (fun v hv => (hef v hv).2)
        have hdo : DistV (ss ++ [oneD k es]) := List.pairwise_append.2 ⟨hss.dist, by simp, fun v hv u hu e => by
          obtain rfl : u = oneD k es := by simpa using hu
          have h1 := ordV_same_at e
          have h2 := hsf v hv
          rw [h1, ho.2.1] at h2
          cases h2⟩
        obtain ⟨e1, e2⟩ := second ss [oneD k es] hss (List.pairwise_singleton _ _) hdo hsf (fun v hv => by
          obtain rfl : v = oneD k es := by simpa using hv
          exact ⟨ho.1, ho.2.1⟩)
        rw [unf (ss ++ [oneD k es]), e1, e2, if_neg (by simp), if_neg hreg, if_neg (by simp), (ordD_perm hdo).length_eq]
      · rename_i hall
        obtain ⟨e1, e2⟩ := second ss es hss hes hd2 hsf hef
        have e3 : ordD (ordD (ss ++ es)) = ordD (ss ++ es) := ordD_of_sorted (sorted_ordD _)
        rw [unf (ordD (ss ++ es)), e3, e1, e2, if_neg h0, if_neg hreg, if_neg hall]

end Go.Proofs.Ythicjpkomigacaa
