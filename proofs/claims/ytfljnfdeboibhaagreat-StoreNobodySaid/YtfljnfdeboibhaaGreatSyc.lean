/- Stores that are nil, or that no function returned: Diff, Clone, All. -/
import Derived.Test.YtfljnfdeboibhaaGreatSyb
set_option linter.unusedVariables false
set_option linter.unusedSimpArgs false
namespace Go.Proofs.Tb
open Go.Maps Go.RowKit Go.Lib
attribute [local go_sem] cell_set_same neqMapL
set_option maxHeartbeats 1600000 in
set_option maxRecDepth 100000 in
theorem nos_clone {w : World} {p : Option Addr} (h : NoS w p) : Calls Tryz.prog 29 #[.pointer p] w (Ret (fun z _ => z = .tuple #[.pointer none, .pointer none]) w) := by
  have HC := Lib.hid (nos_made h)
  clear h
  go_enter Tryz.func29, Tryz.ntmps29
  go_wp2_with fail
  refine HC.out.mono ?_
  rintro e w1 ⟨v1, rfl, rfl, b1⟩
  go_wp2_with fail
  (try simp only [Exit.inBlock, Exit.then])
  refine bodyPost_ret (v := (.tuple #[.pointer none, .pointer none])) (by simp [results, Tryz.results29, go_sem, *]) rfl ?_
  exact ⟨_, rfl, rfl, b1⟩
set_option maxHeartbeats 1600000 in
set_option maxRecDepth 100000 in
theorem nos_diff {w : World} {p : Option Addr} (h : NoS w p) (a b : Int) : Calls Tryz.prog 35 #[.pointer p, .int .i64 a, .int .i64 b] w (Ret (fun z _ => z = .tuple #[.slice none 0 0, .int .i64 1]) w) := by
  have HN := Lib.hid h
  clear h
  go_enter Tryz.func35, Tryz.ntmps35
  go_wp2_with fail
  refine (nos_tree HN.out a).mono ?_
  rintro e w1 ⟨v1, rfl, rfl, b1⟩
  unfold ansT
  have X1 := Lib.hid b1
  clear b1
  go_wp2_with fail
  refine (nos_tree (HN.out.ext X1.out) b).mono ?_
  rintro e w2 ⟨v2, rfl, rfl, b2⟩
  unfold ansT
  have X2 := Lib.hid (bt X1.out b2)
  clear b2
  go_wp2_with fail
  (try simp only [Exit.inBlock, Exit.then])
  refine bodyPost_ret (v := (.tuple #[.slice none 0 0, .int .i64 1])) (by simp [results, Tryz.results35, go_sem, *]) rfl ?_
  exact ⟨_, rfl, rfl, X2.out⟩
set_option maxHeartbeats 1600000 in
set_option maxRecDepth 100000 in
theorem nos_all {w : World} {p : Option Addr} (h : NoS w p) (a : Int) : Calls Tryz.prog 43 #[.pointer p, .int .i64 a] w (Ret (fun z w' => ∃ b1 b2, z = .func (.func 100) #[] #[.pointer (some ⟨b1, 0, none⟩), .pointer (some ⟨b2, 0, none⟩)] ∧ Blk w' b1 TNP #[.pointer none] ∧ Blk w' b2 TST #[.string ⟨#[]⟩]) w) := by
  have HC := Lib.hid (nos_tree h a)
  clear h
  go_enter Tryz.func43, Tryz.ntmps43
  go_wp2_with fail
  refine HC.out.mono ?_
  rintro e w1 ⟨v1, rfl, rfl, b1⟩
  unfold ansT
  have X1 := Lib.hid b1
  clear b1
  go_wp2_with fail
  refine (rpairs_any none ⟨#[]⟩ w1).mono ?_
  rintro e w2 ⟨rfl, rfl⟩
  have g1 : Blk ((w1.alloc (.cells #[.pointer none] TNP)).alloc (.cells #[.string ⟨#[]⟩] TST)) w1.heap.size TNP #[.pointer none] := (Blk.new_ (w := w1) TNP #[.pointer none] rfl).alloc _
  have g2 : Blk ((w1.alloc (.cells #[.pointer none] TNP)).alloc (.cells #[.string ⟨#[]⟩] TST)) (w1.heap.size + 1) TST #[.string ⟨#[]⟩] := Blk.new_ _ _ (by simp)
  have x2 : Ext w ((w1.alloc (.cells #[.pointer none] TNP)).alloc (.cells #[.string ⟨#[]⟩] TST)) := bt (bt X1.out (Ext.allocR _ _)) (Ext.allocR _ _)
  have G := Lib.hid (And.intro g1 (And.intro g2 x2))
  clear g1 g2 x2
  go_wp2
  go_returns
  exact ⟨_, rfl, ⟨_, _, rfl, G.out.1, G.out.2.1⟩, G.out.2.2⟩
end Go.Proofs.Tb
