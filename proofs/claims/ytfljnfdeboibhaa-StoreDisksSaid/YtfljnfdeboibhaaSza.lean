/- The reference's disk: act, Arm. -/
import Derived.Test.YtfljnfdeboibhaaRqu
set_option linter.unusedVariables false
set_option linter.unusedSimpArgs false
namespace Go.Proofs.Tb
open Go.Maps Go.RowKit Go.Lib
attribute [local go_sem] cell_set_same neqMapL
def rdk (A : Option Addr) (n c : Nat) (down armed : Bool) (left : Int) : Value := .agg #[.slice A n c, .bool down, .bool armed, .int .i64 left]
set_option maxHeartbeats 1600000 in
set_option maxRecDepth 100000 in
theorem zact_off (A : Option Addr) (n c : Nat) (down : Bool) (left : Int) (w : World) : Calls Try.prog 72 #[rdk A n c down false left] w (Ret (fun z _ => z = .tuple #[rdk A n c down false left, .bool false]) w) := by
  unfold rdk
  go_enter Try.func72, Try.ntmps72
  go_wp2
  (try simp only [Exit.inBlock, Exit.then])
  refine bodyPost_ret (v := (.tuple #[.agg #[.slice A n c, .bool down, .bool false, .int .i64 left], .bool false])) (by simp [results, Try.results72, go_sem, *]) rfl ?_
  refine ⟨_, rfl, rfl, ?_⟩
  repeat (refine Below.setCell ?_ (by simp) _)
  exact bt (Ext.allocR _ _) (Ext.allocR _ _)
set_option maxHeartbeats 1600000 in
set_option maxRecDepth 100000 in
theorem zact_on (A : Option Addr) (n c : Nat) (down : Bool) (m : Nat) (hm : m + 2 ≤ 9223372036854775807) (w : World) : Calls Try.prog 72 #[rdk A n c down true ((m + 2 : Nat) : Int)] w (Ret (fun z _ => z = .tuple #[rdk A n c down true ((m + 1 : Nat) : Int), .bool false]) w) := by
  have w1 : IntKind.i64.wrap (((m + 2 : Nat) : Int) - 1) = ((m + 1 : Nat) : Int) := by rw [IntWalk.i64_in _ (by omega)]; omega
  have p1 : 0 < ((m + 1 : Nat) : Int) := by omega
  obtain ⟨x, hx⟩ : ∃ x : Int, ((m + 2 : Nat) : Int) = x := ⟨_, rfl⟩
  obtain ⟨y, hy⟩ : ∃ y : Int, ((m + 1 : Nat) : Int) = y := ⟨_, rfl⟩
  rw [hx, hy] at w1
  rw [hy] at p1
  rw [hx, hy]
  clear hx hy
  unfold rdk
  go_enter Try.func72, Try.ntmps72
  go_wp2
  (try simp only [Exit.inBlock, Exit.then])
  refine bodyPost_ret (v := (.tuple #[.agg #[.slice A n c, .bool down, .bool true, .int .i64 y], .bool false])) (by simp [results, Try.results72, go_sem, *]) rfl ?_
  refine ⟨_, rfl, rfl, ?_⟩
  repeat (refine Below.setCell ?_ (by simp) _)
  exact bt (Ext.allocR _ _) (Ext.allocR _ _)
set_option maxHeartbeats 1600000 in
set_option maxRecDepth 100000 in
theorem zact_dn (A : Option Addr) (n c : Nat) (down : Bool) (w : World) : Calls Try.prog 72 #[rdk A n c down true 1] w (Ret (fun z _ => z = .tuple #[rdk A n c true true 0, .bool true]) w) := by
  unfold rdk
  go_enter Try.func72, Try.ntmps72
  go_wp2
  (try simp only [Exit.inBlock, Exit.then])
  refine bodyPost_ret (v := (.tuple #[.agg #[.slice A n c, .bool true, .bool true, .int .i64 0], .bool true])) (by simp [results, Try.results72, go_sem, *]) rfl ?_
  refine ⟨_, rfl, rfl, ?_⟩
  repeat (refine Below.setCell ?_ (by simp) _)
  exact bt (Ext.allocR _ _) (Ext.allocR _ _)
set_option maxHeartbeats 1600000 in
set_option maxRecDepth 100000 in
theorem zarm_dn (A : Option Addr) (n c : Nat) (armed : Bool) (left k : Int) (w : World) : Calls Try.prog 38 #[rdk A n c true armed left, .int .i64 k] w (Ret (fun z _ => z = rdk A n c true armed left) w) := by
  unfold rdk
  go_enter Try.func38, Try.ntmps38
  go_wp2
  (try simp only [Exit.inBlock, Exit.then])
  refine bodyPost_ret (v := (.agg #[.slice A n c, .bool true, .bool armed, .int .i64 left])) (by simp [results, Try.results38, go_sem, *]) rfl ?_
  refine ⟨_, rfl, rfl, ?_⟩
  repeat (refine Below.setCell ?_ (by simp) _)
  exact bt (Ext.allocR _ _) (Ext.allocR _ _)
set_option maxHeartbeats 1600000 in
set_option maxRecDepth 100000 in
theorem zarm_up (A : Option Addr) (n c : Nat) (armed : Bool) (left k : Int) (w : World) : Calls Try.prog 38 #[rdk A n c false armed left, .int .i64 k] w (Ret (fun z _ => z = rdk A n c false (decide (1 ≤ k)) k) w) := by
  unfold rdk
  go_enter Try.func38, Try.ntmps38
  go_wp2
  (try simp only [Exit.inBlock, Exit.then])
  refine bodyPost_ret (v := (.agg #[.slice A n c, .bool false, .bool (decide (1 ≤ k)), .int .i64 k])) (by simp [results, Try.results38, go_sem, *]) rfl ?_
  refine ⟨_, rfl, rfl, ?_⟩
  repeat (refine Below.setCell ?_ (by simp) _)
  exact bt (Ext.allocR _ _) (Ext.allocR _ _)
set_option maxHeartbeats 1600000 in
set_option maxRecDepth 100000 in
theorem zzeros_any (w : World) : Calls Try.prog 70 #[] w (Ret (fun z _ => z = .string (strOfNums (List.replicate 64 0))) w) := by
  have hmk := make_64 w
  have hr := OwB.rv (make_64_own w 0 (Nat.zero_le _))
  have x1 : Ext w (w.alloc (.cells (bc z64).toArray TU8)) := Ext.allocR _ _
  obtain ⟨b, o, e, hc⟩ := z64_at hr
  injection e with e
  injection e with e1 e2 _
  subst e1 e2
  have hcv := run_convert_bytes_arg (P := Try.prog) (w.alloc (.cells (bc z64).toArray TU8)) TBY TU8 Try.underlying44 Try.underlying5 w.heap.size 0 64 64 (List.replicate 64 0) (by simp) hc 9 Try.underlying9
  obtain ⟨w1, hw1⟩ : ∃ w1, w.alloc (.cells (bc z64).toArray TU8) = w1 := ⟨_, rfl⟩
  obtain ⟨s, hs⟩ : ∃ s, strOfNums (List.replicate 64 0) = s := ⟨_, rfl⟩
  rw [hw1] at hmk hcv x1
  rw [hs] at hcv ⊢
  have X1 := Lib.hid x1
  clear hr hc hw1 hs x1
  go_enter Try.func70, Try.ntmps70
  go_wp2
  (try simp only [Exit.inBlock, Exit.then])
  refine bodyPost_ret (v := (.string s)) (by simp [results, Try.results70, go_sem, *]) rfl ?_
  exact ⟨_, rfl, rfl, X1.out⟩
end Go.Proofs.Tb
