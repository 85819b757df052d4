/- Disks that are nil, or that no function returned. -/
import Derived.Test.YtfljnfdeboibhaaGreatSya
set_option linter.unusedVariables false
set_option linter.unusedSimpArgs false
namespace Go.Proofs.Tb
open Go.Maps Go.RowKit Go.Lib
attribute [local go_sem] cell_set_same neqMapL
/-- A nil disk, or one of zeros. -/
def NoD (w : World) (p : Option Addr) : Prop := p = none ∨ ∃ s, p = some ⟨s, 0, none⟩ ∧ Blk w s TDK #[.slice none 0 0, .map none, .bool false, .int .i64 ((0 : Nat) : Int)]
theorem NoD.ext {w w' : World} {p : Option Addr} (h : NoD w p) (x : Ext w w') : NoD w' p := by
  rcases h with h | ⟨s, h1, h2⟩
  · exact .inl h
  · exact .inr ⟨s, h1, h2.below x⟩
theorem nod_made {w : World} {p : Option Addr} (h : NoD w p) : Calls Tryz.prog 58 #[.pointer p] w (Ret (fun z _ => z = .bool false) w) := by
  rcases h with rfl | ⟨s, rfl, hb⟩
  · exact rmade_nil w
  · exact rmade_none s _ false 0 w hb
set_option maxHeartbeats 1600000 in
set_option maxRecDepth 100000 in
theorem nod_ready {w : World} {p : Option Addr} (h : NoD w p) : Calls Tryz.prog 73 #[.pointer p] w (Ret (fun z _ => z = .int .i64 7) w) := by
  have HC := Lib.hid (nod_made h)
  clear h
  go_enter Tryz.func73, Tryz.ntmps73
  go_wp2_with fail
  refine HC.out.mono ?_
  rintro e w1 ⟨v1, rfl, rfl, b1⟩
  go_wp2_with fail
  (try simp only [Exit.inBlock, Exit.then])
  refine bodyPost_ret (v := (.int .i64 7)) (by simp [results, Tryz.results73, go_sem, *]) rfl ?_
  exact ⟨_, rfl, rfl, b1⟩
set_option maxHeartbeats 1600000 in
set_option maxRecDepth 100000 in
theorem nod_sync {w : World} {p : Option Addr} (h : NoD w p) : Calls Tryz.prog 50 #[.pointer p] w (Ret (fun z _ => z = .int .i64 7) w) := by
  have HC := Lib.hid (nod_ready h)
  clear h
  go_enter Tryz.func50, Tryz.ntmps50
  go_wp2_with fail
  refine HC.out.mono ?_
  rintro e w1 ⟨v1, rfl, rfl, b1⟩
  go_wp2_with fail
  (try simp only [Exit.inBlock, Exit.then])
  refine bodyPost_ret (v := (.int .i64 7)) (by simp [results, Tryz.results50, go_sem, *]) rfl ?_
  exact ⟨_, rfl, rfl, b1⟩
set_option maxHeartbeats 1600000 in
set_option maxRecDepth 100000 in
theorem nod_write {w : World} {p : Option Addr} (h : NoD w p) (k : Int) (A : Option Addr) (n c : Nat) : Calls Tryz.prog 49 #[.pointer p, .int .i64 k, .slice A n c] w (Ret (fun z _ => z = .int .i64 7) w) := by
  have HC := Lib.hid (nod_ready h)
  clear h
  go_enter Tryz.func49, Tryz.ntmps49
  go_wp2_with fail
  refine HC.out.mono ?_
  rintro e w1 ⟨v1, rfl, rfl, b1⟩
  go_wp2_with fail
  (try simp only [Exit.inBlock, Exit.then])
  refine bodyPost_ret (v := (.int .i64 7)) (by simp [results, Tryz.results49, go_sem, *]) rfl ?_
  exact ⟨_, rfl, rfl, b1⟩
set_option maxHeartbeats 1600000 in
set_option maxRecDepth 100000 in
theorem nod_blocks {w : World} {p : Option Addr} (h : NoD w p) : Calls Tryz.prog 51 #[.pointer p] w (Ret (fun z _ => z = .int .i64 0) w) := by
  have HC := Lib.hid (nod_made h)
  clear h
  go_enter Tryz.func51, Tryz.ntmps51
  go_wp2_with fail
  refine HC.out.mono ?_
  rintro e w1 ⟨v1, rfl, rfl, b1⟩
  go_wp2_with fail
  (try simp only [Exit.inBlock, Exit.then])
  refine bodyPost_ret (v := (.int .i64 0)) (by simp [results, Tryz.results51, go_sem, *]) rfl ?_
  exact ⟨_, rfl, rfl, b1⟩
set_option maxHeartbeats 1600000 in
set_option maxRecDepth 100000 in
theorem nod_down {w : World} {p : Option Addr} (h : NoD w p) : Calls Tryz.prog 27 #[.pointer p] w (Ret (fun z _ => z = .bool false) w) := by
  have HC := Lib.hid (nod_made h)
  clear h
  go_enter Tryz.func27, Tryz.ntmps27
  go_wp2_with fail
  refine HC.out.mono ?_
  rintro e w1 ⟨v1, rfl, rfl, b1⟩
  go_wp2_with fail
  (try simp only [Exit.inBlock, Exit.then])
  refine bodyPost_ret (v := (.bool false)) (by simp [results, Tryz.results27, go_sem, *]) rfl ?_
  exact ⟨_, rfl, rfl, b1⟩
set_option maxHeartbeats 1600000 in
set_option maxRecDepth 100000 in
theorem nod_arm {w : World} {p : Option Addr} (h : NoD w p) (k : Int) : Calls Tryz.prog 25 #[.pointer p, .int .i64 k] w (Ret (fun z _ => True) w) := by
  have HC := Lib.hid (nod_ready h)
  clear h
  go_enter Tryz.func25, Tryz.ntmps25
  go_wp2_with fail
  refine HC.out.mono ?_
  rintro e w1 ⟨v1, rfl, rfl, b1⟩
  go_wp2
  go_returns
  exact ⟨_, rfl, trivial, b1⟩
set_option maxHeartbeats 1600000 in
set_option maxRecDepth 100000 in
theorem nod_read {w : World} {p : Option Addr} (h : NoD w p) (k : Int) : Calls Tryz.prog 44 #[.pointer p, .int .i64 k] w (Ret (fun z _ => z = .tuple #[.slice none 0 0, .int .i64 7]) w) := by
  have HC := Lib.hid (nod_ready h)
  clear h
  go_enter Tryz.func44, Tryz.ntmps44
  go_wp2_with fail
  refine HC.out.mono ?_
  rintro e w1 ⟨v1, rfl, rfl, b1⟩
  go_wp2_with fail
  (try simp only [Exit.inBlock, Exit.then])
  refine bodyPost_ret (v := (.tuple #[.slice none 0 0, .int .i64 7])) (by simp [results, Tryz.results44, go_sem, *]) rfl ?_
  exact ⟨_, rfl, rfl, b1⟩
set_option maxHeartbeats 1600000 in
set_option maxRecDepth 100000 in
theorem nod_loose {w : World} {p : Option Addr} (h : NoD w p) : Calls Tryz.prog 45 #[.pointer p] w (Ret (fun z _ => z = .int .i64 0) w) := by
  have HC := Lib.hid (nod_made h)
  clear h
  go_enter Tryz.func45, Tryz.ntmps45
  go_wp2_with fail
  refine HC.out.mono ?_
  rintro e w1 ⟨v1, rfl, rfl, b1⟩
  go_wp2_with fail
  (try simp only [Exit.inBlock, Exit.then])
  refine bodyPost_ret (v := (.int .i64 0)) (by simp [results, Tryz.results45, go_sem, *]) rfl ?_
  exact ⟨_, rfl, rfl, b1⟩
set_option maxHeartbeats 1600000 in
set_option maxRecDepth 100000 in
theorem nod_clone {w : World} {p : Option Addr} (h : NoD w p) : Calls Tryz.prog 15 #[.pointer p] w (Ret (fun z _ => z = .pointer none) w) := by
  have HC := Lib.hid (nod_made h)
  clear h
  go_enter Tryz.func15, Tryz.ntmps15
  go_wp2_with fail
  refine HC.out.mono ?_
  rintro e w1 ⟨v1, rfl, rfl, b1⟩
  go_wp2_with fail
  (try simp only [Exit.inBlock, Exit.then])
  refine bodyPost_ret (v := (.pointer none)) (by simp [results, Tryz.results15, go_sem, *]) rfl ?_
  exact ⟨_, rfl, rfl, b1⟩
set_option maxHeartbeats 1600000 in
set_option maxRecDepth 100000 in
theorem nod_restart {w : World} {p : Option Addr} (h : NoD w p) (A : Option Addr) (n c : Nat) : Calls Tryz.prog 48 #[.pointer p, .slice A n c] w (Ret (fun z _ => True) w) := by
  have HC := Lib.hid (nod_made h)
  clear h
  go_enter Tryz.func48, Tryz.ntmps48
  go_wp2_with fail
  refine HC.out.mono ?_
  rintro e w1 ⟨v1, rfl, rfl, b1⟩
  go_wp2
  go_returns
  exact ⟨_, rfl, trivial, b1⟩
end Go.Proofs.Tb
