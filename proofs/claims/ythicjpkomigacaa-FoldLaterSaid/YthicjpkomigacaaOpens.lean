/- The laws' arguments, as they are read: vectors, lists of versions. -/
import Derived.Test.YthicjpkomigacaaRows
import Derived.Test.YthicjpkomigacaaLawP
import Derived.WalkKit
import Derived.ProofKit
import Derived.OpenShut
import Derived.JoinedCond
import Derived.Deep.Slices
import Derived.ChangeSlices
import Derived.ChangeArms
import Derived.WideKeyArgs
import Derived.Below
import Derived.ChangeSame
namespace Go.Proofs.Ythicjpkomigacaa
open Go.ChangeShapes Go.WideShapes Go.ChangeAt Go.RowKit Go.Deep

theorem Try.own : ownKnob Try.prog.godebug = none := by kernel_rfl
theorem Try.laidOut : laidOutB Try.prog = true := by kernel_rfl
theorem Try.cells_string : Try.prog.cellsOf 9 = 1 := by kernel_rfl
theorem Try.cells_int : Try.prog.cellsOf 3 = 1 := by kernel_rfl
theorem Try.cells_float : Try.prog.cellsOf 31 = 1 := by kernel_rfl
theorem Try.cells_vec : Try.prog.cellsOf 24 = 1 := by kernel_rfl
theorem Try.cells_act : Try.prog.cellsOf 33 = 4 := by kernel_rfl
theorem Try.cells_ver : Try.prog.cellsOf 35 = 8 := by kernel_rfl

section
variable {H : Type} {enc : TypeId × Value → H}

theorem DataW.trod_float {P : Program} {w : World} {base : Nat} {spare : Nat → Bool} {held : Bool} {t : TypeId} {fuel : Nat} {cs : List Value} {x : DataW H × List MemPlace} {k : FloatKind} (ht : P.underlying t = some (.float k)) (h : DataW.trod enc P w base spare held fuel t cs = some x) : ∃ n, cs = [.float k n] ∧ x = (.lit (.float k n), []) ∧ (Lit.float k n).wf = true := by
  cases fuel with
  | zero => simp [DataW.trod] at h
  | succ n =>
    unfold DataW.trod at h
    rw [ht] at h
    split at h <;> simp_all

variable {W : World} {sp : Nat → Bool} {fuel : Nat} {cs : List Value} {x : DataW H × List MemPlace}

/-- The arguments, read again in whatever world has only grown. -/
theorem trodAll_same {P : Program} (hl : laidOutB P = true) {W W' : World} {sp' : Nat → Bool} (ts : List TypeId) : ∀ (vs : List Value) (ds : List (DataW H)) (ps : List MemPlace), (∀ t ∈ ts, P.readableRec t = true ∧ t < P.types.size) →
    DataW.TrodAll enc P W 0 (fun _ => true) true ts vs ds ps → (∀ p ∈ ps, W.sameAt W' p) → (∀ p ∈ ps, sp' p.block = true) → DataW.TrodAll enc P W' 0 sp' true ts vs ds ps := by
  induction ts with
  | nil =>
    intro vs ds ps _ h _ _
    obtain ⟨rfl, rfl, rfl⟩ := trodAll_nil h
    exact trodAll_mk0
  | cons t ts ih =>
    intro vs ds ps ht h h1 h2
    obtain ⟨v, vs', d, ds', p, q, rfl, rfl, rfl, hd, hr⟩ := trodAll_cons h
    exact trodAll_cons_mk (WideElems.Trod_stays hl (ht t (by simp)).1 (ht t (by simp)).2 hd (fun x hx => h1 x (by simp [hx])) (fun x hx => h2 x (by simp [hx])))
      (ih _ _ _ (fun u hu => ht u (by simp [hu])) hr (fun x hx => h1 x (by simp [hx])) (fun x hx => h2 x (by simp [hx])))

/-- A law's end: true was answered, and the world has only grown. -/
theorem law_post {P : Program} (hl : laidOutB P = true) {f : Func} {s : ChangeSpec} {b : TypeId} {apart fresh handsOn again : Bool} {W W' : World} {args : Array Value} {ds gs : List (DataW H)} {before : List MemPlace}
    (hb0 : P.underlying b = some .bool) (hres : f.resultTypes = #[b]) (hpar : ∀ t ∈ f.params.toList, P.readableRec t = true ∧ t < P.types.size) (hvars : s.vars = [])
    (hfn : s.fn H (ds ++ gs) = { results := [.lit (.bool true)], args := ds })
    (hW : DataW.Whole enc P f.params.toList s.vars apart W args.toList ds gs before) (hb : Below W.heap.size W W') :
    s.post enc P f apart fresh handsOn again W args (.bool true) W' := by
  have hW' := hW
  obtain ⟨p, q, hA, hV, hbe, hfz, hnd⟩ := hW
  rw [hvars] at hV
  obtain ⟨rfl, rfl⟩ := trodVars_none hV
  have hlt : ∀ x ∈ before, x.block < W.heap.size := fun x hx => hW'.lt x hx
  rw [List.append_nil] at hbe
  obtain rfl := hbe.symm
  have hargs : ∀ sp : Nat → Bool, (∀ x ∈ p, sp x.block = true) → DataW.TrodAll enc P W' 0 sp true f.params.toList args.toList ds p := fun sp hsp =>
    trodAll_same hl _ _ _ _ hpar hA (fun x hx => hb.same (hlt x hx)) hsp
  have hres1 : ∀ (b' : Nat) (sp : Nat → Bool) (hd : Bool), DataW.TrodAll enc P W' b' sp hd f.resultTypes.toList ((Value.bool true).resultList f.resultTypes.size) [.lit (.bool true)] [] := fun b' sp hd => by
    rw [hres]
    exact trodAll_mk1 (shut_bool hb0 true)
  have hvar1 : ∀ sp : Nat → Bool, DataW.TrodVars enc P W' sp s.vars [] [] := fun sp => by rw [hvars]; exact rfl
  have hold : ∀ x ∈ p, (fun b => decide (b < W.heap.size)) x.block = true := fun x hx => by simpa using hlt x hx
  refine ⟨ds, [], p, [], p, [], hW', by rw [hfn]; exact hres1 _ _ _, by rw [hfn]; exact hargs _ hold, by rw [hfn]; exact hvar1 _, World.keptBut_mono (fun x hx => ⟨hx, .inr (.inl hx)⟩) (hb.frame (· ∈ p)), fun _ => ?_⟩
  refine ⟨ok_one hres rfl (okWide_bool_mk hb0 true), _, _, ([] ++ p) ++ [], ⟨[] ++ p, [], trodAll_append (hargs _ (fun _ _ => rfl)) (hres1 _ _ _), hvar1 _, rfl, ?_, ?_⟩, ?_⟩
  · intro b off hx
    have hin : MemPlace.cell b off ∈ p := by simpa using hx
    rw [hb.frozen (hlt _ (by simpa using hin))]
    exact hfz b off (by simpa using hin)
  · intro ha
    simpa using hnd ha
  · intro x hx _
    simpa using hx

theorem addr_none {w : World} {a : Addr} {v : Value} (h : w.cell? a = some v) : a = ⟨a.block, a.off, none⟩ := by
  obtain ⟨b, o, s⟩ := a
  cases s with
  | none => rfl
  | some s => unfold World.cell? at h; split at h <;> simp at h

theorem addr_add (b o j : Nat) : (⟨b, o, none⟩ : Addr).add j = ⟨b, o + j, none⟩ := by unfold Addr.add; split <;> simp_all

/-- A vector that came in. -/
theorem open_vec (h : DataW.trod enc Try.prog W 0 sp true fuel 24 cs = some x) : ∃ v xs, cs = [v] ∧ VecR W v xs := by
  rcases open_ints Try.underlying24 Try.underlying3 Try.cells_int h with ⟨rfl, _⟩ | ⟨a, len, cap, zs, rfl, _, hl, hm, hz, _, hc, _⟩
  · exact ⟨_, [], rfl, none, 0, rfl, Nat.le_refl _, by simp [maxLen], fun j hj => by simp at hj⟩
  · have hlz : len ≤ zs.length := by rw [hz]; split <;> omega
    have htl : (zs.take len).length = len := by rw [List.length_take]; omega
    refine ⟨_, zs.take len, rfl, some a, cap, by rw [htl], by omega, hm, fun j hj => ?_⟩
    rw [htl] at hj
    have h0 := hc 0 (by omega)
    have hj' := hc j (by omega)
    have ha : a = ⟨a.block, a.off, none⟩ := by
      have := addr_none h0
      obtain ⟨b, o, s⟩ := a
      cases s with
      | none => rfl
      | some s => unfold Addr.add at this; simp at this
    rw [ha, addr_add] at hj'
    refine ⟨a.block, a.off, by rw [← ha], ?_⟩
    rw [hj']
    congr 2
    simp [List.getD, hj]

/-- A version that came in. -/
theorem open_ver (h : DataW.trod enc Try.prog W 0 sp true fuel 35 cs = some x) : ∃ (y : VerV) (v : VerD), cs = y.cells ∧ Means W y v ∧ numD v := by
  obtain ⟨xs, n, rfl, _, hcs, hxl, hf⟩ := DataW.trod_struct Try.underlying35 h
  rw [Try.cells_ver] at hcs
  match cs, hcs with
  | [c0, c1, c2, c3, c4, c5, c6, c7], _ =>
    match xs, hxl with
    | [x0, x1, x2, x3, x4], _ =>
      have f0 : DataW.trod enc Try.prog W 0 sp true n 9 (([c0, c1, c2, c3, c4, c5, c6, c7].drop 0).take (Try.prog.cellsOf 9)) = some x0 := hf 0 _ rfl
      have f1 : DataW.trod enc Try.prog W 0 sp true n 24 (([c0, c1, c2, c3, c4, c5, c6, c7].drop 1).take (Try.prog.cellsOf 24)) = some x1 := hf 1 _ rfl
      have f2 : DataW.trod enc Try.prog W 0 sp true n 3 (([c0, c1, c2, c3, c4, c5, c6, c7].drop 2).take (Try.prog.cellsOf 3)) = some x2 := hf 2 _ rfl
      have f3 : DataW.trod enc Try.prog W 0 sp true n 3 (([c0, c1, c2, c3, c4, c5, c6, c7].drop 3).take (Try.prog.cellsOf 3)) = some x3 := hf 3 _ rfl
      have f4 : DataW.trod enc Try.prog W 0 sp true n 33 (([c0, c1, c2, c3, c4, c5, c6, c7].drop 4).take (Try.prog.cellsOf 33)) = some x4 := hf 4 _ rfl
      rw [Try.cells_string] at f0
      rw [Try.cells_vec] at f1
      rw [Try.cells_int] at f2 f3
      rw [Try.cells_act] at f4
      simp only [List.drop, List.take] at f0 f1 f2 f3 f4
      obtain ⟨s, e0, _, _⟩ := DataW.trod_string Try.underlying9 f0
      obtain ⟨va, vs, e1, hv⟩ := open_vec f1
      obtain ⟨o, e2, _, _⟩ := DataW.trod_int Try.underlying3 f2
      obtain ⟨t, e3, _, _⟩ := DataW.trod_int Try.underlying3 f3
      obtain ⟨ys, m, rfl, _, _, hyl, hg⟩ := DataW.trod_struct Try.underlying33 f4
      match ys, hyl with
      | [y0, y1, y2, y3], _ =>
        have g0 : DataW.trod enc Try.prog W 0 sp true m 3 (([c4, c5, c6, c7].drop 0).take (Try.prog.cellsOf 3)) = some y0 := hg 0 _ rfl
        have g1 : DataW.trod enc Try.prog W 0 sp true m 31 (([c4, c5, c6, c7].drop 1).take (Try.prog.cellsOf 31)) = some y1 := hg 1 _ rfl
        have g2 : DataW.trod enc Try.prog W 0 sp true m 3 (([c4, c5, c6, c7].drop 2).take (Try.prog.cellsOf 3)) = some y2 := hg 2 _ rfl
        have g3 : DataW.trod enc Try.prog W 0 sp true m 9 (([c4, c5, c6, c7].drop 3).take (Try.prog.cellsOf 9)) = some y3 := hg 3 _ rfl
        rw [Try.cells_int] at g0 g2
        rw [Try.cells_float] at g1
        rw [Try.cells_string] at g3
        simp only [List.drop, List.take] at g0 g1 g2 g3
        obtain ⟨kd, e4, _, _⟩ := DataW.trod_int Try.underlying3 g0
        obtain ⟨nm, e5, _, hnm⟩ := DataW.trod_float Try.underlying31 g1
        obtain ⟨it, e6, _, _⟩ := DataW.trod_int Try.underlying3 g2
        obtain ⟨tx, e7, _, _⟩ := DataW.trod_string Try.underlying9 g3
        simp only [List.cons.injEq, and_true] at e0 e1 e2 e3 e4 e5 e6 e7
        obtain ⟨A, c, hva, _⟩ := id hv
        subst e0 e1 e2 e3 e4 e5 e6 e7
        refine ⟨⟨s, A, vs.length, c, o, t, kd, nm, it, tx⟩, ⟨s, vs, o, t, ⟨kd, nm, it, tx⟩⟩, by rw [hva]; rfl, ⟨by rw [hva] at hv; exact hv, rfl⟩, ?_⟩
        simpa [Lit.wf, numD] using hnm

/-- A list of versions that came in. -/
theorem open_vers (h : DataW.trod enc Try.prog W 0 sp true fuel 22 cs = some x) : ∃ v vs, cs = [v] ∧ VersR W v vs ∧ Proper v ∧ ∀ u ∈ vs, numD u := by
  rcases open_slice Try.underlying22 h with ⟨rfl, _⟩ | ⟨a, len, cap, m, n, D, Pl, rfl, _, hl, hm, hmm, _, hx⟩
  · exact ⟨_, [], rfl, ⟨none, 0, fun _ => ⟨ByteArray.empty, none, 0, 0, 0, 0, 0, 0, 0, ByteArray.empty⟩, rfl, Nat.le_refl _, by simp [maxLen], fun j hj => by simp at hj, fun j v hj => by simp at hj⟩, proper_nil, fun u hu => by cases hu⟩
  · have hlm : len ≤ m := by rw [hmm]; split <;> omega
    have each : ∀ i, i < len → ∃ q : VerV × VerD, (∀ j u, q.1.cells[j]? = some u → W.cell? (a.add (i * 8 + j)) = some u) ∧ Means W q.1 q.2 ∧ numD q.2 := fun i hi => by
      obtain ⟨cs', h1, h2⟩ := hx i (by omega)
      rw [Try.cells_ver] at h1
      obtain ⟨_, hlen, hcell⟩ := World.cells?_some h1
      obtain ⟨y, v, rfl, hmv, hnv⟩ := open_ver h2
      refine ⟨(y, v), fun j u hu => ?_, hmv, hnv⟩
      have hj : j < 8 := (List.getElem?_eq_some_iff.1 hu).1
      have := hcell j hj
      rw [add_add, hu] at this
      exact this
    haveI : Inhabited (VerV × VerD) := ⟨(⟨ByteArray.empty, none, 0, 0, 0, 0, 0, 0, 0, ByteArray.empty⟩, default)⟩
    obtain ⟨q, hq⟩ := choose_lt each
    have hlenv : ((List.range len).map fun i => (q i).2).length = len := by simp
    refine ⟨_, (List.range len).map fun i => (q i).2, rfl, ⟨some a, cap, fun i => (q i).1, by rw [hlenv], by omega, hm, fun j hj => ?_, fun j v hj => ?_⟩, proper_some _ _ _, fun u hu => ?_⟩
    · rw [hlenv] at hj
      obtain ⟨h1, _, _⟩ := hq j hj
      have h0 := (hq 0 (by omega)).1 0 _ rfl
      have ha : a = ⟨a.block, a.off, none⟩ := by
        have := addr_none h0
        obtain ⟨b, o, s⟩ := a
        cases s with
        | none => rfl
        | some s => unfold Addr.add at this; simp at this
      refine ⟨a.block, a.off, by rw [← ha], fun i u hu => ?_⟩
      have := h1 i u hu
      rw [ha, addr_add, ← Nat.add_assoc] at this
      exact this
    · have hlt : j < len := by have := (List.getElem?_eq_some_iff.1 hj).1; simpa using this
      rw [List.getElem?_map, List.getElem?_range hlt] at hj
      cases hj
      exact (hq j hlt).2.1
    · obtain ⟨i, hi, rfl⟩ := List.mem_map.1 hu
      exact (hq i (List.mem_range.1 hi)).2.2
end

end Go.Proofs.Ythicjpkomigacaa
