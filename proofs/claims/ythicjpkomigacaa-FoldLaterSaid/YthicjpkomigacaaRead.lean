/- fold.Read. -/
import Derived.Test.YthicjpkomigacaaList
import Derived.Test.YthicjpkomigacaaVal
import Derived.Test.YthicjpkomigacaaVecW
import Derived.Deep.AppendLies
namespace Go.Proofs.Ythicjpkomigacaa
open Go.RowKit

theorem OrderedBy.len {vs rs : List VerD} (h : OrderedBy vs rs) : rs.length ≤ vs.length := by
  obtain ⟨s, _, _, rfl⟩ := h
  rw [List.length_map]
  exact keepL_len _ _

theorem OrderedBy.mem {vs rs : List VerD} (h : OrderedBy vs rs) {v : VerD} (hv : v ∈ rs) : v ∈ vs := by
  obtain ⟨s, hp, _, rfl⟩ := h
  obtain ⟨j, hj, rfl⟩ := List.mem_map.1 hv
  have h1 : s j < vs.length := hp.lt (Nat.le_refl _) (fun i hi => hi) j (keepL_mem hj)
  rw [getD_lt _ _ h1]
  exact List.getElem_mem h1

/-- What fold.Read answers: the value of what is seen, in the order that fold.Order gives. -/
def ReadP (k : ByteArray) (vs : List VerD) (at' : List Int) (w : World) (e : Ending) (w' : World) : Prop :=
  ∃ rs, OrderedBy vs rs ∧ e = .returned (.agg (encW (valueD k (rs.filter fun v => leqL v.at_ at'))).toArray) ∧ Below w.heap.size w w'

set_option maxRecDepth 100000 in
set_option maxHeartbeats 6400000 in
theorem read_walk (k : ByteArray) (va vt : Value) (vs : List VerD) (ts : List Int) (w : World) (hv : VersR w va vs) (ht : VecR w vt ts) (hn : vs.length ≤ 100000) (hl : ∀ v ∈ vs, v.at_.length ≤ 1000000) (hx : ∀ v ∈ vs, v.act.num < 18446744073709551616) :
    Calls Try.prog 14 #[.string k, va, vt] w (ReadP k vs ts w) := by
  have hsf := run_store_float Try.prog
  obtain ⟨i0, hi, hz0, hz1, hz2⟩ := info_parts Try.info_ver
  have hord := fun W (hW : Below w.heap.size w W) => order_walk va vs W (hv.below hW) hn hl
  have HORD := Lib.hid hord; have HT := Lib.hid ht; have HX := Lib.hid hx
  clear hord hv ht hx
  go_enter Try.func14, Try.ntmps14
  go_wp2_with fail
  refine (HORD.out _ ((Below.refl _ _).alloc (Nat.le_refl _) _)).mono ?_
  rintro e W0 ⟨vr, rfl, hb0, rs, hrs, hown⟩
  obtain ⟨g, hg⟩ : ∃ g, g = w.heap.size := ⟨_, rfl⟩
  have hbx : BoxW W0 g zeroW := by
    refine BoxW.below (w := w.alloc (.cells #[.bool false, .float .f64 0, .int .i64 0, .string ⟨#[]⟩] 38)) ?_ hb0 (by rw [hg]; simp)
    subst hg
    simp [BoxW, zeroW, go_sem]; rfl
  have hbw : Below g w W0 := by rw [hg]; exact ((Below.refl _ _).alloc (Nat.le_refl _) _).trans (hb0.mono (by simp))
  have hgz : g + 1 ≤ W0.heap.size := by have := hb0.size; simp at this; omega
  rw [← hg]
  have hread := hown.reads
  obtain ⟨A, c, f, rfl, h1, h2, h3, h4⟩ := hread
  unfold maxLen at h2
  have HT0 := Lib.hid (HT.out.below (by rw [← hg]; exact hbw))
  have HG := Lib.hid hg; have HBX := Lib.hid hbx; have HBW := Lib.hid hbw; have HGZ := Lib.hid hgz
  have HRS := Lib.hid hrs; have H3 := Lib.hid h3; have H4 := Lib.hid h4
  obtain ⟨n, hnn⟩ : ∃ n, n = rs.length := ⟨_, rfl⟩
  rw [← hnn] at h1 H3 ⊢
  have HN := Lib.hid hnn
  have hnle : n ≤ 100000 := by have := HRS.out.len; omega
  clear hb0 hrs h3 h4 hown HORD HT hg hbx hbw hgz hnn
  obtain ⟨q, hq⟩ : ∃ q : VerD → Bool, q = fun v => leqL v.at_ ts := ⟨_, rfl⟩
  obtain ⟨B, hB⟩ : ∃ B, B = W0.heap.size := ⟨_, rfl⟩
  have HQ := Lib.hid hq; have HB := Lib.hid hB; clear hq hB
  go_wp2
  go_loopw [7, 13] (fun vo vj wr => ∃ j : Nat, j ≤ n ∧ vj = .int .i64 j ∧ Hid (ListB W0 B wr vo ((rs.take j).filter q)) ∧ Hid (Below B W0 wr)) (fun _ vj _ => n - (intOf vj).toNat)
  case atStart => exact ⟨0, Nat.zero_le _, rfl, ListB.nil _ _ _, Below.refl _ _⟩
  case round =>
    obtain ⟨j, hj, rfl, HL, HBR⟩ := hrel
    by_cases hlt : j < n
    · have hltz : (j : Int) < (n : Int) := by omega
      have hvk : rs[j]? = some (rs.getD j default) := by rw [getD_lt _ _ (by rw [← HN.out]; exact hlt)]; exact List.getElem?_eq_getElem _
      have hbw : Below W0.heap.size W0 wr := by rw [← HB.out]; exact HBR.out
      obtain ⟨b, o, rfl, hcells⟩ := (H3.out.below hbw) j hlt
      have hx := elem_facts hcells
      have hmean := H4.out j _ hvk
      have htake : (rs.take (j + 1)).filter q = (rs.take j).filter q ++ (if q (rs.getD j default) then [rs.getD j default] else []) := by
        have hj' : j < rs.length := by rw [← HN.out]; exact hlt
        rw [List.take_succ_eq_append_getElem hj', List.filter_append, getD_lt _ _ hj']
        congr 1
        by_cases c : q rs[j] = true <;> simp [c]
      have hq1 : q (rs.getD j default) = leqL (rs.getD j default).at_ ts := by rw [HQ.out]
      generalize rs.getD j default = v at hvk hmean htake hq1
      generalize f j = x at hx hmean
      have hleq := fun W (hW : Below W0.heap.size W0 W) => leq_any x.slice vt v.at_ ts W (hmean.below hW).1 (HT0.out.below hW)
      rw [← hq1] at hleq
      generalize q v = qb at hleq htake
      have HLEQ := Lib.hid hleq; have HBW0 := Lib.hid hbw; have HTK := Lib.hid htake; have HMEAN := Lib.hid hmean
      clear hvk hcells hmean htake hq1 hleq hbw
      simp only [VerV.slice] at HLEQ
      obtain ⟨x0, x1, x2, x3, x4, x5, x6, x7⟩ := hx
      have HBX1 : Hid (Below B W0 (wr.alloc (.cells #[.string x.key, .slice x.A x.n x.c, .int .i64 x.origin, .int .i64 x.tx, .int .i64 x.kind, .float .f64 x.num, .int .i64 x.int, .string x.text] 35))) := Lib.hid (HBR.out.alloc (by have := HBR.out.size; rw [HB.out]; exact this) _)
      go_wp2_with fail
      refine (HLEQ.out _ (by rw [← HB.out]; exact HBX1.out)).mono ?_
      rintro e w' ⟨rfl, rfl⟩
      have hbB : B ≤ wr.heap.size := by have := HBR.out.size; rw [HB.out]; exact this
      have HBZ := Lib.hid hbB; clear hbB
      cases qb with
      | false =>
        have htk : (rs.take (j + 1)).filter q = (rs.take j).filter q := by rw [HTK.out]; simp
        have HTK2 := Lib.hid htk; clear htk
        go_wp2
        go_roundw
        case rel => exact ⟨j + 1, by omega, by go_num, by rw [HTK2.out]; exact HL.out.below ((Below.refl _ _).alloc (Nat.le_refl _) _), HBX1⟩
        case measure => simp [intOf]; omega
      | true =>
        have htk : (rs.take (j + 1)).filter q = (rs.take j).filter q ++ [v] := by rw [HTK.out]; simp
        have hlen : ((rs.take j).filter q).length ≤ j := Nat.le_trans (List.length_filter_le _ _) (by simp; omega)
        obtain ⟨f', how, hme⟩ := HL.out
        have hlt2 := HL.out.lt
        have HTK2 := Lib.hid htk; clear htk
        generalize (rs.take j).filter q = us at how hme hlen HTK2
        have hown1 := (how.alloc (.cells #[.string x.key, .slice x.A x.n x.c, .int .i64 x.origin, .int .i64 x.tx, .int .i64 x.kind, .float .f64 x.num, .int .i64 x.int, .string x.text] 35)).alloc (.cells #[.string x.key, .slice x.A x.n x.c, .int .i64 x.origin, .int .i64 x.tx, .int .i64 x.kind, .float .f64 x.num, .int .i64 x.int, .string x.text] 35)
        have HOWN1 := Lib.hid hown1; have HME := Lib.hid hme; have HLT2 := Lib.hid hlt2; clear hown1 how hme hlt2
        go_wp2_with (at_builtin; go_must (refine wpList_append_own _ rfl (.tmp 21) (.tmp 23) 22 rfl B 35 i0 _ 8 96 Try.underlying22 hi hz0 hz1 hz2 rfl (by decide) _ _ _ rfl HOWN1.out ⟨wr.heap.size + 1, 0, none⟩ 1 1 [.string x.key, .slice x.A x.n x.c, .int .i64 x.origin, .int .i64 x.tx, .int .i64 x.kind, .float .f64 x.num, .int .i64 x.int, .string x.text] rfl rfl (World.news_of_block (by simpa using heap_alloc_new (wr.alloc _) _)) (by simp [Value.oneCell']) (by unfold maxLen; omega) (by omega) (by have := HBZ.out; simp; omega) ?_); intro v' w2 hown2 hgrow2 _)
        have hg3 : Below B W0 w2 := ((HBR.out.alloc HBZ.out _).alloc (by have := HBZ.out; simp; omega) _).grown hgrow2 (by have := HBZ.out; simp; omega) (fun p hp => HLT2.out p hp)
        exact ⟨⟨j + 1, by omega, by go_num, by rw [HTK2.out]; exact ListB.push HME.out HMEAN.out hown2, hg3⟩, by simp [intOf]; omega⟩
    · obtain rfl : j = n := by omega
      have hltz : ¬ (j : Int) < (j : Int) := by omega
      have htk : (rs.take j).filter q = rs.filter q := by rw [HN.out, List.take_length]
      rw [htk] at HL
      have hval := value_walk k u7 (rs.filter q) wr (HL.out.reads HB.out HBR.out) (Nat.le_trans (List.length_filter_le _ _) (by rw [← HN.out]; exact hnle)) (fun v hv => HX.out v (HRS.out.mem (List.mem_filter.1 hv).1))
      have hres : valueD k (rs.filter fun v => leqL v.at_ ts) = valueD k (rs.filter q) := by rw [HQ.out]
      generalize valueD k (rs.filter q) = r at hval hres
      have HVAL := Lib.hid hval; have HRES := Lib.hid hres; clear hval hres htk
      have hgB : g + 1 ≤ B := by rw [HB.out]; exact HGZ.out
      have hwr : Below g w wr := HBW.out.trans (HBR.out.mono (by omega))
      have hbxr := HBX.out.below HBR.out (by omega)
      have hBr : B ≤ wr.heap.size := by have := HBR.out.size; rw [HB.out]; exact this
      have HWR := Lib.hid hwr; have HBXR := Lib.hid hbxr; clear hwr hbxr
      go_wp2_with fail
      refine HVAL.out.mono ?_
      rintro e w2 ⟨rfl, hb2⟩
      have hbw2 : Below g w w2 := HWR.out.trans (hb2.mono (by omega))
      obtain ⟨⟨s0, s1, s2, s3⟩, v0, v1, v2, v3⟩ := HBXR.out.below hb2 (by omega)
      have HBW2 := Lib.hid hbw2; clear hb2 hbw2
      simp only [encW]
      go_wp2
      refine bodyPost_ret (v := .agg #[.bool r.there, .float .f64 r.num, .int .i64 r.int, .string r.text]) (by simp [results, Try.results14, go_sem, s0, s1, s2, s3]) rfl ?_
      exact ⟨rs, HRS.out, by rw [HRES.out]; rfl, by rw [← HG.out]; exact putW_below HBW2.out (Nat.le_refl _) r⟩

end Go.Proofs.Ythicjpkomigacaa
