/- guarded. -/
import Derived.Test.YtjiccpacpcongaaUi
set_option linter.unusedVariables false
set_option linter.unusedSimpArgs false
namespace Go.Proofs.Tb
open Go.RowKit Go.Lib
attribute [local go_sem] cell_set_same

abbrev TER : TypeId := 26
theorem catch_idle (p : Addr) (w : World) :
    CallsD Try.prog 22 #[.pointer (some p)] .returning w fun e u' w' => e = .returned (.tuple #[]) ∧ u' = .returning ∧ w' = w := by
  refine callsD_of_wpS Try.func22 rfl fun c₀ cs hu => ?_
  apply wpS_seq
  apply wpS_region
  simp [wpOpsS, go_sem, recoverD, hu, Try.ntmps22, Exit.thenS]
  apply wpS_seq
  apply wpS_region
  simp [wpOpsS, go_sem, Exit.thenS]
  refine wpS_cond (t := false) (by simp [Act.eval, Array.replicate]) ?_
  simp only [Bool.false_eq_true, if_false]
  refine wpS_of_wp (wp_skip ?_)
  cases c₀
  simp_all [bodyPostS, results, Try.results22]
set_option maxHeartbeats 1600000 in
theorem rguarded_any (FN : FuncId) (caps : Array Value) (hcf : ∀ (args : Array Value) (W : World), (callFunc FN args).run Try.prog W = .ok (.enter FN args) W) {w : World} {Phi : World → Prop}
    (h : Calls Try.prog FN caps (w.alloc (.cells #[.int .i64 0] TER)) fun e w' => e = .returned (.tuple #[]) ∧ Phi w' ∧ Blk w' w.heap.size TER #[.int .i64 0]) :
    Calls Try.prog 12 #[.func (.func FN) #[] caps] w fun e w' => e = .returned (.int .i64 0) ∧ ∃ w1, Phi w1 ∧ Blk w1 w.heap.size TER #[.int .i64 0] ∧ w' = w1.setCell ⟨w.heap.size, 0, none⟩ (.int .i64 0) := by
  have hmf : ∀ (fn : Fn) (first cap : Array Value) (w : World), (Instr.makeFunc fn first cap).run Try.prog w = .ok (.func fn first cap) w := fun _ _ _ _ => rfl
  go_enter_defers Try.func12, Try.ntmps12
  go_wp2_with fail
  refine h.mono ?_
  rintro e w1 ⟨rfl, hphi, hb⟩
  have kc := hb.cells
  have kf := hb.free
  simp only [cellsAre, Nat.zero_add, Nat.reduceAdd, and_true] at kc
  have HPHI := Lib.hid hphi
  have HB := Lib.hid hb
  clear hphi hb h
  go_wp2
  refine leaves_cons (f := 22) (args := #[.pointer (some ⟨w.heap.size, 0, none⟩)]) (by simp) (by simp [go_sem]) ?_
  refine (catch_idle ⟨w.heap.size, 0, none⟩ _).mono ?_
  rintro e u' w'' ⟨rfl, rfl, rfl⟩
  simp [Leaves, settle, results, Try.results12, go_sem, kc]
  exact ⟨w1, HPHI.out, HB.out, rfl⟩
end Go.Proofs.Tb
