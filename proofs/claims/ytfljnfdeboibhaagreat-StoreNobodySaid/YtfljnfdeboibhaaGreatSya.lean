/- Stores that are nil, or that no function returned. -/
import Derived.Test.YtfljnfdeboibhaaGreatTwf
set_option linter.unusedVariables false
set_option linter.unusedSimpArgs false
namespace Go.Proofs.Tb
open Go.Maps Go.RowKit Go.Lib
attribute [local go_sem] cell_set_same neqMapL
/-- A nil store, or one of zeros. -/
def NoS (w : World) (p : Option Addr) : Prop := p = none ∨ ∃ s, p = some ⟨s, 0, none⟩ ∧ Blk w s TSE #[.pointer none, .int .i64 0, .slice none 0 0, .bool false]
theorem NoS.ext {w w' : World} {p : Option Addr} (h : NoS w p) (x : Ext w w') : NoS w' p := by
  rcases h with h | ⟨s, h1, h2⟩
  · exact .inl h
  · exact .inr ⟨s, h1, h2.below x⟩
set_option maxHeartbeats 1600000 in
set_option maxRecDepth 100000 in
theorem nos_made {w : World} {p : Option Addr} (h : NoS w p) : Calls Tryz.prog 74 #[.pointer p] w (Ret (fun z _ => z = .bool false) w) := by
  rcases h with rfl | ⟨s, rfl, hb⟩
  · go_enter Tryz.func74, Tryz.ntmps74
    go_wp2
    go_returns
    exact ⟨_, rfl, rfl, Below.refl _ _⟩
  · have kd := hb.cells
    simp only [cellsAre, Nat.zero_add, Nat.reduceAdd, and_true] at kd
    clear hb
    go_enter Tryz.func74, Tryz.ntmps74
    go_wp2
    go_returns
    exact ⟨_, rfl, rfl, Below.refl _ _⟩
set_option maxHeartbeats 1600000 in
set_option maxRecDepth 100000 in
theorem nos_broken {w : World} {p : Option Addr} (h : NoS w p) : Calls Tryz.prog 17 #[.pointer p] w (Ret (fun z _ => z = .bool true) w) := by
  rcases h with rfl | ⟨s, rfl, hb⟩
  · go_enter Tryz.func17, Tryz.ntmps17
    go_wp2
    go_returns
    exact ⟨_, rfl, rfl, Below.refl _ _⟩
  · have kd := hb.cells
    simp only [cellsAre, Nat.zero_add, Nat.reduceAdd, and_true] at kd
    clear hb
    go_enter Tryz.func17, Tryz.ntmps17
    go_wp2
    go_returns
    exact ⟨_, rfl, rfl, Below.refl _ _⟩
set_option maxHeartbeats 1600000 in
set_option maxRecDepth 100000 in
theorem nos_newest {w : World} {p : Option Addr} (h : NoS w p) : Calls Tryz.prog 46 #[.pointer p] w (Ret (fun z _ => z = .int .i64 0) w) := by
  have HC := Lib.hid (nos_made h)
  clear h
  go_enter Tryz.func46, Tryz.ntmps46
  go_wp2_with fail
  refine HC.out.mono ?_
  rintro e w1 ⟨v1, rfl, rfl, b1⟩
  go_wp2
  go_returns
  exact ⟨_, rfl, rfl, b1⟩
set_option maxHeartbeats 1600000 in
set_option maxRecDepth 100000 in
theorem nos_oldest {w : World} {p : Option Addr} (h : NoS w p) : Calls Tryz.prog 47 #[.pointer p] w (Ret (fun z _ => z = .int .i64 0) w) := by
  have HC := Lib.hid (nos_made h)
  clear h
  go_enter Tryz.func47, Tryz.ntmps47
  go_wp2_with fail
  refine HC.out.mono ?_
  rintro e w1 ⟨v1, rfl, rfl, b1⟩
  go_wp2
  go_returns
  exact ⟨_, rfl, rfl, b1⟩
set_option maxHeartbeats 1600000 in
set_option maxRecDepth 100000 in
theorem nos_tree {w : World} {p : Option Addr} (h : NoS w p) (v : Int) : Calls Tryz.prog 76 #[.pointer p, .int .i64 v] w (Ret (fun z _ => z = ansT none 1) w) := by
  unfold ansT
  have HC := Lib.hid (nos_made h)
  clear h
  go_enter Tryz.func76, Tryz.ntmps76
  go_wp2_with fail
  refine HC.out.mono ?_
  rintro e w1 ⟨v1, rfl, rfl, b1⟩
  go_wp2_with fail
  (try simp only [Exit.inBlock, Exit.then])
  refine bodyPost_ret (v := (.tuple #[.pointer none, .int .i64 1])) (by simp [results, Tryz.results76, go_sem, *]) rfl ?_
  exact ⟨_, rfl, rfl, b1⟩
set_option maxHeartbeats 1600000 in
set_option maxRecDepth 100000 in
theorem nos_commit {w : World} {p : Option Addr} (h : NoS w p) (A : Option Addr) (n c : Nat) : Calls Tryz.prog 22 #[.pointer p, .slice A n c] w (Ret (fun z _ => z = .tuple #[.int .i64 0, .int .i64 7]) w) := by
  have HC := Lib.hid (nos_broken h)
  clear h
  go_enter Tryz.func22, Tryz.ntmps22
  go_wp2_with fail
  refine HC.out.mono ?_
  rintro e w1 ⟨v1, rfl, rfl, b1⟩
  go_wp2_with fail
  (try simp only [Exit.inBlock, Exit.then])
  refine bodyPost_ret (v := (.tuple #[.int .i64 0, .int .i64 7])) (by simp [results, Tryz.results22, go_sem, *]) rfl ?_
  exact ⟨_, rfl, rfl, b1⟩
set_option maxHeartbeats 1600000 in
set_option maxRecDepth 100000 in
theorem nos_get {w : World} {p : Option Addr} (h : NoS w p) (v : Int) (k : Str) : Calls Tryz.prog 37 #[.pointer p, .int .i64 v, .string k] w (Ret (fun z _ => z = .tuple #[.string ⟨#[]⟩, .bool false, .int .i64 1]) w) := by
  have HC := Lib.hid (nos_tree h v)
  clear h
  go_enter Tryz.func37, Tryz.ntmps37
  go_wp2_with fail
  refine HC.out.mono ?_
  rintro e w1 ⟨v1, rfl, rfl, b1⟩
  unfold ansT
  go_wp2_with fail
  (try simp only [Exit.inBlock, Exit.then])
  refine bodyPost_ret (v := (.tuple #[.string ⟨#[]⟩, .bool false, .int .i64 1])) (by simp [results, Tryz.results37, go_sem, *]) rfl ?_
  exact ⟨_, rfl, rfl, b1⟩
set_option maxHeartbeats 1600000 in
set_option maxRecDepth 100000 in
theorem nos_range {w : World} {p : Option Addr} (h : NoS w p) (v : Int) (low high : Str) (most : Int) : Calls Tryz.prog 31 #[.pointer p, .int .i64 v, .string low, .string high, .int .i64 most] w (Ret (fun z _ => z = ansR (.slice none 0 0) 1) w) := by
  unfold ansR
  have HN := Lib.hid h
  clear h
  go_enter Tryz.func31, Tryz.ntmps31
  go_upto_region 1 with fail
  have x1 : Ext w ((w.alloc (.cells #[.string high] TST)).alloc (.cells #[.int .i64 most] TIN)) := bt (Ext.allocR _ _) (Ext.allocR _ _)
  refine wp_world (fun W => Ext w W) x1 ?_
  clear x1
  rintro W1 hx1
  have X1 := Lib.hid hx1
  clear hx1
  go_wp2_with fail
  refine (nos_tree (HN.out.ext X1.out) v).mono ?_
  rintro e w2 ⟨z2, rfl, rfl, b2⟩
  have X2 := Lib.hid (bt X1.out b2)
  clear b2
  unfold ansT
  go_wp2_with fail
  (try simp only [Exit.inBlock, Exit.then])
  refine bodyPost_ret (v := (.tuple #[.slice none 0 0, .int .i64 1])) (by simp [results, Tryz.results31, go_sem, *]) rfl ?_
  exact ⟨_, rfl, rfl, X2.out⟩
end Go.Proofs.Tb
