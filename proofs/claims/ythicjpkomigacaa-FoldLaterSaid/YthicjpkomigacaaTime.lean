/- fold.time: the deferred closure, and the function. -/
import Derived.Test.YthicjpkomigacaaVer
import Derived.Defers
import Derived.Recover
namespace Go.Proofs.Ythicjpkomigacaa
open Go.RowKit

theorem time_catch (p : Addr) (x : Int) (older : List PanicEntry) (w : World) (hc : w.cell? p = some (.int .i64 x)) (hz : w.frozen? p = false) :
    CallsD Try.prog 57 #[.pointer (some p)] (.panicking ({ v := .iface 82 (.agg #[]), recovered := false } :: older)) w fun e u' w' =>
      e = .returned (.tuple #[]) ∧ u' = .panicking ({ v := .iface 82 (.agg #[]), recovered := true } :: older) ∧ w' = ((w.alloc (.cells #[] 82)).setCell p (.int .i64 0)) := by
  have hc' := cell_new hc
  have hz' := frozen_new hc hz
  have hta : ∀ w, (Instr.typeAssert (.iface 82 (.agg #[])) 20 82 true).run Try.prog w = .ok (.tuple #[.agg #[], .bool true]) w := fun w => by kernel_rfl
  refine callsD_of_wpS Try.func57 rfl fun c₀ cs hu => ?_
  apply wpS_seq
  apply wpS_region
  simp [wpOpsS, go_sem, recoverD, hu, Try.ntmps57, Exit.thenS]
  simp only [Array.replicate, List.replicate, List.append_toArray, List.cons_append, List.nil_append, List.setIfInBounds_toArray, List.set_cons_succ, List.set_cons_zero]
  refine wpS_of_wp ?_
  go_wp2
  cases c₀
  simp_all [bodyPostS, results, Try.results57, go_sem]

theorem time_idle (p : Addr) (w : World) :
    CallsD Try.prog 57 #[.pointer (some p)] .returning w fun e u' w' => e = .returned (.tuple #[]) ∧ u' = .returning ∧ w' = w := by
  refine callsD_of_wpS Try.func57 rfl fun c₀ cs hu => ?_
  apply wpS_seq
  apply wpS_region
  simp [wpOpsS, go_sem, recoverD, hu, Try.ntmps57, Exit.thenS]
  simp only [Array.replicate, List.replicate, List.append_toArray, List.cons_append, List.nil_append, List.setIfInBounds_toArray, List.set_cons_succ, List.set_cons_zero]
  refine wpS_of_wp ?_
  go_wp2
  cases c₀
  simp_all [bodyPostS, results, Try.results57, go_sem]

set_option maxHeartbeats 400000 in
theorem time_some (va : Value) (v : VerD) (w : World) (t : Int) (hat : ∀ W, Below w.heap.size w W → Calls Try.prog 58 #[.agg (encV va v).toArray] W fun e w' => e = .returned (.int .i64 t) ∧ Below W.heap.size W w') :
    Calls Try.prog 42 #[.agg (encV va v).toArray] w fun e w' => e = .returned (.int .i64 t) ∧ Below w.heap.size w w' := by
  have hmf : ∀ (fn : Fn) (first cap : Array Value) (w : World), (Instr.makeFunc fn first cap).run Try.prog w = .ok (.func fn first cap) w := fun _ _ _ _ => rfl
  have HAT := Lib.hid hat; clear hat
  obtain ⟨key, xs, o, tx, act⟩ := v
  simp only [encV] at HAT ⊢
  go_enter_defers Try.func42, Try.ntmps42
  go_wp2_with fail
  refine (HAT.out _ (((Below.refl _ _).alloc (Nat.le_refl _) _).alloc (by simp) _)).mono ?_
  rintro e w1 ⟨rfl, hb⟩
  have hcell : w1.cell? ⟨w.heap.size + 1, 0, none⟩ = some (.int .i64 0) := by rw [hb.cell (by simp)]; simp
  have hfroz : w1.frozen? ⟨w.heap.size + 1, 0, none⟩ = false := by rw [hb.frozen (by simp)]; simp
  have hB : Below w.heap.size w w1 := (((Below.refl _ _).alloc (Nat.le_refl _) _).alloc (by simp) _).trans (hb.mono (by simp; omega))
  have HB := Lib.hid hB; clear hB hb
  go_wp2
  refine leaves_cons (f := 57) (args := #[.pointer (some ⟨w.heap.size + 1, 0, none⟩)]) (by simp) (by simp [go_sem]) ?_
  refine (time_idle ⟨w.heap.size + 1, 0, none⟩ _).mono ?_
  rintro e u' w'' ⟨rfl, rfl, rfl⟩
  simp [Leaves, settle, results, Try.results42, go_sem, hcell]
  exact HB.out.setCell (by simp) _

set_option maxHeartbeats 400000 in
theorem time_none (va : Value) (v : VerD) (w : World) (hat : ∀ W, Below w.heap.size w W → Calls Try.prog 58 #[.agg (encV va v).toArray] W fun e w' => e = .panicked [{ v := .iface 82 (.agg #[]), recovered := false }] ∧ Below W.heap.size W w') :
    Calls Try.prog 42 #[.agg (encV va v).toArray] w fun e w' => e = .returned (.int .i64 0) ∧ Below w.heap.size w w' := by
  have hmf : ∀ (fn : Fn) (first cap : Array Value) (w : World), (Instr.makeFunc fn first cap).run Try.prog w = .ok (.func fn first cap) w := fun _ _ _ _ => rfl
  have HAT := Lib.hid hat; clear hat
  obtain ⟨key, xs, o, tx, act⟩ := v
  simp only [encV] at HAT ⊢
  go_enter_defers Try.func42, Try.ntmps42
  go_wp2_with fail
  refine (HAT.out _ (((Below.refl _ _).alloc (Nat.le_refl _) _).alloc (by simp) _)).mono ?_
  rintro e w1 ⟨rfl, hb⟩
  have hcell : w1.cell? ⟨w.heap.size + 1, 0, none⟩ = some (.int .i64 0) := by rw [hb.cell (by simp)]; simp
  have hfroz : w1.frozen? ⟨w.heap.size + 1, 0, none⟩ = false := by rw [hb.frozen (by simp)]; simp
  have hlt : w.heap.size + 1 < w1.heap.size := by have := hb.size; simp at this; omega
  have hB : Below w.heap.size w w1 := (((Below.refl _ _).alloc (Nat.le_refl _) _).alloc (by simp) _).trans (hb.mono (by simp; omega))
  have HB := Lib.hid hB; clear hB hb
  go_wp2
  refine leaves_cons (f := 57) (args := #[.pointer (some ⟨w.heap.size + 1, 0, none⟩)]) (by simp) (by simp [go_sem]) ?_
  refine (time_catch ⟨w.heap.size + 1, 0, none⟩ 0 [] _ hcell hfroz).mono ?_
  rintro e u' w'' ⟨rfl, rfl, rfl⟩
  have hc2 := cell_new hcell (.cells #[] 82)
  simp [Leaves, settle, results, Try.results42, go_sem, hc2]
  exact (HB.out.alloc HB.out.size _).setCell (by simp) _

theorem time_any (va : Value) (v : VerD) (w : World) (ha : VecR w va v.at_) :
    Calls Try.prog 42 #[.agg (encV va v).toArray] w fun e w' => e = .returned (.int .i64 (timeI v)) ∧ Below w.heap.size w w' := by
  unfold timeI timeO
  by_cases h1 : v.origin = 254 ∧ 0 < v.at_.length
  · rw [if_pos h1]
    exact time_some va v w _ fun W hb => at_max va v W (ha.below hb) h1.1 h1.2
  · rw [if_neg h1]
    by_cases h2 : 0 ≤ v.origin ∧ v.origin < v.at_.length
    · rw [if_pos h2]
      exact time_some va v w _ fun W hb => at_place va v W (ha.below hb) h1 h2.1 h2.2
    · rw [if_neg h2]
      exact time_none va v w fun W hb => at_none va v W (ha.below hb) h1 h2

end Go.Proofs.Ythicjpkomigacaa
