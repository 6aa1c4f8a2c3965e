/- Lists of versions: a part of one, one behind another one. -/
import Derived.Test.YthicjpkomigacaaLawP
import Derived.Laws.AppendOwnNone
import Derived.Outline
namespace Go.Proofs.Ythicjpkomigacaa
open Go.RowKit

theorem addr_add8 (b o j : Nat) : (⟨b, o, none⟩ : Addr).add j = ⟨b, o + j, none⟩ := by unfold Addr.add; split <;> simp_all

/-- What stands behind the first k. -/
theorem VersR.behind {w : World} {A : Option Addr} {n c : Nat} {vs : List VerD} (h : VersR w (.slice A n c) vs) (k : Nat) (hk : k ≤ n) {A' : Option Addr} (hA : k < n → ∃ b o, A = some ⟨b, o, none⟩ ∧ A' = some ⟨b, o + k * 8, none⟩) : VersR w (.slice A' (n - k) (c - k)) (vs.drop k) := by
  obtain ⟨A0, c0, f, hv, h1, h2, h3, h4⟩ := h
  simp only [Value.slice.injEq] at hv
  obtain ⟨rfl, rfl, rfl⟩ := hv
  refine ⟨A', c - k, fun i => f (k + i), by rw [List.length_drop], by rw [List.length_drop]; omega, by omega, fun j hj => ?_, fun j v hj => ?_⟩
  · rw [List.length_drop] at hj
    obtain ⟨b, o, rfl, rfl⟩ := hA (by omega)
    obtain ⟨b', o', he, hc⟩ := h3 (k + j) (by omega)
    cases he
    refine ⟨b, o + k * 8, rfl, fun i u hu => ?_⟩
    have := hc i u hu
    rw [show o + k * 8 + j * 8 + i = o + (k + j) * 8 + i by omega]
    exact this
  · rw [List.getElem?_drop] at hj
    exact h4 (k + j) v hj

/-- A list to be appended: nothing, or cells that lie there. -/
def Src (w : World) (sv : Value) (m : Nat) (news : List Value) : Prop :=
  (sv = .slice none 0 0 ∧ m = 0 ∧ news = []) ∨ ∃ ad c, sv = .slice (some ad) m c ∧ ∀ j u, news[j]? = some u → w.cell? (ad.add j) = some u

theorem wpList_append_src {P : Program} {w : World} {ops : Array Oper} {rest : List Oper} {o : Oper} {a : Act} {Q : Exit → Act → World → Prop} (hgd : o.guard = none) (s x : Operand) (t : TypeId)
    (ho : o.op = .call { callee := .builtin .append, args := #[s, x], argTypes := #[t, t] })
    (base : Nat) (e : TypeId) (i : TypeInfo) (z : Value) (size bytes : Nat) (ht : P.underlying t = some (.slice e)) (hi : P.info? e = some i) (hz : i.zero = some z)
    (hsize : i.size = size) (hby : i.bytes = bytes) (hzs : z.cells.size = size) (hsz : 0 < size)
    (v : Value) (n : Nat) (xs : List Value) (hs : a.eval s = v) (hown : w.ownsRow base e size v n xs)
    (sv : Value) (m : Nat) (news : List Value) (hx : a.eval x = sv) (hsrc : Src w sv m news) (hl : news.length = m * size) (h1 : ∀ u ∈ news, u.oneCell' = true)
    (h63 : n + m ≤ maxLen) (hbytes : (n + m) * bytes ≤ 140737488355328) (hbase : base ≤ w.heap.size)
    (h : ∀ v' w', w'.ownsRow base e size v' (n + m) (xs ++ news) → w.grownBy w' v.ownBlock → wpList P ops Q rest (a.put o.dst v') w') :
    wpList P ops Q (o :: rest) a w := by
  rcases hsrc with ⟨rfl, rfl, rfl⟩ | ⟨ad, c, rfl, hnews⟩
  · refine wpList_append_own_none hgd s x t ho base e i size ht hi v n xs hs hown hx (h v w ?_ (World.grownBy.refl _ _))
    simpa using hown
  · exact wpList_append_own w hgd s x t ho base e i z size bytes ht hi hz hsize hby hzs hsz v n xs hs hown ad m c news hx hl hnews h1 h63 hbytes hbase fun v' w' h2 h3 _ => h v' w' h2 h3

/-- A list that reads so can be appended. -/
theorem ReadsV.src {w : World} {sv : Value} {us : List VerD} (h : ReadsV w sv us) : ∃ f : Nat → VerV, Src w sv us.length (rowCells f us.length) ∧ ∀ j v, us[j]? = some v → Means w (f j) v := by
  obtain ⟨⟨A, c, f, rfl, h1, h2, h3, h4⟩, hp⟩ := h
  refine ⟨f, ?_, h4⟩
  rcases A with _ | ad
  · obtain ⟨h0, rfl⟩ := hp _ _ rfl
    exact .inl ⟨by rw [h0], h0, by rw [h0]; rfl⟩
  · refine .inr ⟨ad, c, rfl, fun t u hu => ?_⟩
    obtain ⟨q1, q2⟩ := rowCells_get hu
    obtain ⟨b, o, hA2, hc⟩ := h3 _ q1
    cases hA2
    rw [addr_add8, show o + t = o + t / 8 * 8 + t % 8 by omega]
    exact hc _ _ q2

theorem Src.below {w w' : World} {sv : Value} {m : Nat} {news : List Value} (h : Src w sv m news) (hb : Below w.heap.size w w') : Src w' sv m news := by
  rcases h with h | ⟨ad, c, rfl, hn⟩
  · exact .inl h
  · exact .inr ⟨ad, c, rfl, fun j u hu => (hb.cell (World.block_lt_of_cell? w _ (hn j u hu))).trans (hn j u hu)⟩

theorem Src.form {w : World} {sv : Value} {m : Nat} {news : List Value} (h : Src w sv m news) : ∃ A c, sv = .slice A m c := by
  rcases h with ⟨rfl, rfl, _⟩ | ⟨ad, c, rfl, _⟩
  · exact ⟨_, _, rfl⟩
  · exact ⟨_, _, rfl⟩

/-- Two versions of one stamp have one place and one number. -/
theorem ordV_same_stamp {a b : VerD} (h : ordV a b = 0) : a.origin = b.origin ∧ a.tx = b.tx ∧ a.at_ = b.at_ := by
  have := ordV_zero h
  unfold keyV at this
  simp only [List.cons.injEq] at this
  exact ⟨by omega, by omega, this.2.2.2.2⟩

/-- Lists that are dropped one by one are read together as all were. -/
theorem parts_read {k : ByteArray} {fs : List Int} {l1 l2 : List VerD} (h : GoodL k fs (l1 ++ l2)) (hd : DistV (l1 ++ l2)) :
    GoodL k fs (dropD k l1 fs false ++ dropD k l2 fs false) ∧ (dropD k l1 fs false ++ dropD k l2 fs false).length ≤ (l1 ++ l2).length ∧
    ∀ ts, leqL fs ts = true → sameVD (readD k (dropD k l1 fs false ++ dropD k l2 fs false) ts) (readD k (l1 ++ l2) ts) = true := by
  have g1 : GoodL k fs l1 := ⟨by have := h.len; simp at this; omega, fun v hv => h.fit v (by simp [hv]), fun v hv => h.at_ v (by simp [hv]), fun v hv => h.num v (by simp [hv])⟩
  have g2 : GoodL k fs l2 := ⟨by have := h.len; simp at this; omega, fun v hv => h.fit v (by simp [hv]), fun v hv => h.at_ v (by simp [hv]), fun v hv => h.num v (by simp [hv])⟩
  obtain ⟨d1, n1, _⟩ := g1.drop false
  obtain ⟨d2, n2, _⟩ := g2.drop false
  have hd1 := (List.pairwise_append.1 hd).1
  have hd2 := (List.pairwise_append.1 hd).2.1
  obtain ⟨e1, r1⟩ := drop_read (k := k) (vs := l1) (L := l2) (fs := fs) (all := false) g1.fit g2.fit (hd.perm ((ordD_perm hd1).symm.append_right l2)) (fun h => by cases h)
  obtain ⟨e2, r2⟩ := drop_read (k := k) (vs := l2) (L := dropD k l1 fs false) (fs := fs) (all := false) g2.fit d1.fit
    ((e1.perm List.perm_append_comm).perm ((ordD_perm hd2).symm.append_right _)) (fun h => by cases h)
  refine ⟨⟨by have := h.len; simp only [List.length_append] at this ⊢; omega, fun v hv => ?_, fun v hv => ?_, fun v hv => ?_⟩, by simp only [List.length_append]; omega, fun ts hts => ?_⟩
  · rcases List.mem_append.1 hv with hv | hv
    · exact d1.fit v hv
    · exact d2.fit v hv
  · rcases List.mem_append.1 hv with hv | hv
    · exact d1.at_ v hv
    · exact d2.at_ v hv
  · rcases List.mem_append.1 hv with hv | hv
    · exact d1.num v hv
    · exact d2.num v hv
  · have q1 := r1 ts hts
    have q2 := r2 ts hts
    rw [read_perm e1 List.perm_append_comm] at q1
    rw [read_perm e2 List.perm_append_comm] at q2
    exact (sameVD_iff _ _).2 (q1.trans q2).symm

theorem minL_le {fs : List Int} {i : Nat} (h : i < fs.length) : minL fs ≤ fs.getD i 0 := by
  have key : ∀ (xs : List Int) (x : Int), xs.foldl mn x ≤ x ∧ ∀ y ∈ xs, xs.foldl mn x ≤ y := by
    intro xs
    induction xs with
    | nil => exact fun x => ⟨Int.le_refl _, fun y hy => by cases hy⟩
    | cons a xs ih =>
      intro x
      obtain ⟨h1, h2⟩ := ih (mn x a)
      have h3 : mn x a ≤ x ∧ mn x a ≤ a := by unfold mn; split <;> omega
      simp only [List.foldl_cons]
      refine ⟨by omega, fun y hy => ?_⟩
      rcases List.mem_cons.1 hy with rfl | hy
      · omega
      · exact h2 y hy
  cases fs with
  | nil => simp at h
  | cons x xs =>
    obtain ⟨h1, h2⟩ := key xs x
    cases i with
    | zero => exact h1
    | succ i => rw [getD_lt _ _ h]; exact h2 _ (by simp)

/-- What comes later: not seen at the floor, its time above the floor's at its place. -/
def lateV (fs : List Int) (v : VerD) : Prop := v.origin ≠ 254 ∧ leqL v.at_ fs = false ∧ ∀ i : Nat, v.origin = i → fs.getD i 0 < v.at_.getD i 0

theorem late_time {k : ByteArray} {fs : List Int} {v : VerD} (hr : rightV k fs.length v = true) (h : lateV fs v) : minL fs < timeI v := by
  obtain ⟨h1, _, h3⟩ := h
  unfold rightV at hr
  simp only [Bool.and_eq_true, decide_eq_true_eq, Bool.not_eq_true', Bool.and_eq_false_iff, Bool.or_eq_false_iff, decide_eq_false_iff_not, Bool.not_eq_false'] at hr
  obtain ⟨_, hlen, horg, _⟩ := hr
  have ho : ¬ v.origin < 0 ∧ ¬ (fs.length : Int) ≤ v.origin := by
    rcases horg with h | h
    · exact h
    · exact absurd h h1
  obtain ⟨i, hi⟩ := Int.eq_ofNat_of_zero_le (show 0 ≤ v.origin by omega)
  have h4 := h3 i hi
  have h5 : minL fs ≤ fs.getD i 0 := minL_le (by omega)
  have h6 : timeI v = v.at_.getD i 0 := by
    unfold timeI timeO
    rw [if_neg (fun h => h1 h.1), if_pos ⟨by omega, by omega⟩, hi]
    rfl
  omega

/-- Also when versions come later. -/
theorem later_read {k : ByteArray} {fs : List Int} {vs ls : List VerD} (h : GoodL k fs vs) (h' : GoodL k fs ls) (hr : ls.all (rightV k fs.length) = true) (hl : ∀ v ∈ ls, lateV fs v) (hd : DistV (vs ++ ls)) :
    ∀ ts, leqL fs ts = true → sameVD (readD k (vs ++ ls) ts) (readD k (dropD k vs fs true ++ ls) ts) = true := by
  have hd1 := (List.pairwise_append.1 hd).1
  obtain ⟨_, r1⟩ := drop_read (k := k) (vs := vs) (L := ls) (fs := fs) (all := true) h.fit h'.fit (hd.perm ((ordD_perm hd1).symm.append_right ls)) (fun _ v hv => ⟨(hl v hv).2.1, late_time (List.all_eq_true.1 hr v hv) (hl v hv)⟩)
  exact fun ts hts => (sameVD_iff _ _).2 (r1 ts hts)

end Go.Proofs.Ythicjpkomigacaa
