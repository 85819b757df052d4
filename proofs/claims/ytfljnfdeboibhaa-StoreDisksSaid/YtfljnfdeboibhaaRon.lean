/- Contracts of Clone: rows, the disk. -/
import Derived.Test.YtfljnfdeboibhaaRoi
import Derived.Maps.RangeWalk
import Derived.Maps.Ext
set_option linter.unusedVariables false
set_option linter.unusedSimpArgs false
namespace Go.Proofs.Tb
open Go.Maps Go.RowKit Go.Lib
attribute [local go_sem] cell_set_same neqMapL

set_option maxHeartbeats 6400000 in
set_option maxRecDepth 100000 in
theorem rcloneBB_any (A : Option Addr) (n c : Nat) (vs : List Value) (w : World) (h : Rv w 1 A n c vs) (hn : 1 ≤ n) (hn2 : n ≤ 1000000) (h1 : ∀ u ∈ vs, u.oneCell' = true) :
    Calls Try.prog 71 #[.slice A n c] w (Ret (fun v w' => ∃ A' c', v = .slice A' n c' ∧ w'.ownsRow w.heap.size TBY 1 (.slice A' n c') n vs) w) := by
  have hle := h.le
  have hcp := h.cap
  obtain ⟨b, o, rfl, _⟩ := h.at_ (by omega)
  have hq := fun wq => _root_.Go.run_eql_slice_nil (P := Try.prog) wq TBB TBY (some ⟨b, o, none⟩) n c Try.underlying66
  have x1 : Ext w (w.alloc (.cells #[] TBY)) := Ext.allocR _ _
  have hr := h.below x1
  obtain ⟨hn1, hn2', hn3⟩ := hr.news (by omega)
  obtain ⟨v3, w3, hrun, hrow, hgr, hbel⟩ := run_appA (P := Try.prog) TBB TBY _ 1 24 TBB by_info Try.underlying66 rfl (by omega) (by omega) w.heap.size (.slice (some ⟨w.heap.size, 0, none⟩) 0 0) 0 [] (own_lit (w := w) TBY 1 #[] 0 (Nat.le_refl _) (by omega) (by simp)) (some ⟨b, o, none⟩) n c vs hn1 hn2' hn3 h1 (by omega) (by omega) x1.size
  rw [Nat.zero_add, List.nil_append] at hrow
  have x3 : Ext w w3 := (Below.mono (Ext.allocR w (.cells #[] TBY)) (Nat.le_refl _)).trans hbel
  obtain ⟨A3, c3, rfl, _⟩ := own_rv hrow
  have HO := Lib.hid (And.intro hrow x3)
  clear hr hn1 hn2' hn3 hrow hgr hbel x1 x3 h h1
  go_enter Try.func71, Try.ntmps71
  go_wp2_with (at_builtin; refine Go.Lib.wpList_append_run _ rfl _ _ _ _ rfl (.slice (some ⟨w.heap.size, 0, none⟩) 0 0) (.slice (some ⟨b, o, none⟩) n c) rfl rfl _ _ hrun ?_)
  (try simp only [Exit.inBlock, Exit.then])
  refine bodyPost_ret (v := (.slice A3 n c3)) (by simp [results, Try.results71, go_sem, *]) rfl ?_
  exact ⟨_, rfl, ⟨_, _, rfl, HO.out.1⟩, HO.out.2⟩
end Go.Proofs.Tb
