/- Contract of the reference for rates: Of. -/
import Derived.Test.YtcbffkkcldnegaaRefP
set_option linter.unusedVariables false
set_option linter.unusedSimpArgs false
namespace Go.Proofs.Tb
open Go.RowKit
attribute [local go_sem] cell_set_same
set_option maxHeartbeats 1600000 in
set_option maxRecDepth 100000 in
theorem zlof_any (a b c d : Int) (w : World) (h1 : rngI a) (h2 : 0 < b ∧ b ≤ 9223372036854775807) (h3 : rngI c) (h4 : 0 < d ∧ d ≤ 9223372036854775807) :
    Calls Try.prog 21 #[.agg #[.int .i64 a, .int .i64 b, .int .i64 c, .int .i64 d]] w (Ret (fun v w' => ZL w' v (qv a b) (qv c d) 5) w) := by
  have H1 := Lib.hid h1
  have H2 := Lib.hid h2
  have H3 := Lib.hid h3
  have H4 := Lib.hid h4
  clear h1 h2 h3 h4
  go_enter Try.func21, Try.ntmps21
  go_wp2
  refine wp_world (fun W0 => Blk W0 w.heap.size TAL #[.int .i64 a, .int .i64 b, .int .i64 c, .int .i64 d] ∧ Blk W0 (w.heap.size + 1) TQL #[.bool false, .slice none 0 0, .bool false, .slice none 0 0, .bool false, .slice none 0 0, .bool false, .slice none 0 0] ∧ Below w.heap.size w W0) (by exact ⟨(Blk.new_ _ _ rfl).alloc _, Blk.new_ _ _ (by simp), by go_grown⟩) ?_
  rintro W0 ⟨b0, b1, hbw⟩
  have bw0 : Below w.heap.size w W0.drew := hbw.drew
  have k0 := fun w' (hh : Held (w.heap.size + 1) 8 TQL W0 w') => (b0.held hh (by omega)).cells
  have hst : Held (w.heap.size + 1) 8 TQL W0 W0.drew := b1.heldS.drew
  simp only [cellsAre, Nat.zero_add, Nat.reduceAdd, and_true] at k0
  have r1 := (rules (w.heap.size + 1) 8 TQL W0).some
  have r2 := (rules (w.heap.size + 1) 8 TQL W0).free
  clear b0 b1
  go_region_held3 (fun w' => Held (w.heap.size + 1) 8 TQL W0 w') (first | with_reducible assumption | ((repeat with_reducible refine Held.set_ ?_ _ _); with_reducible assumption) | exact Held.trans_ (by with_reducible assumption) (by with_reducible assumption))
    (first | (go_at_call 39; have tk := hb1; refine (xof_any c d _ H3.out.1 H3.out.2 H4.out.1 H4.out.2).mono ?_; rintro e w2 ⟨v2, rfl, hx2, hb2⟩; obtain ⟨d2, A2, n2, c2, d2', A2', n2', c2', rfl⟩ := hx2.form; have hh2 : Held (w.heap.size + 1) 8 TQL W0 w2 := hh1.trans_ hb2; have bw2 := bt bw1 hb2) | (go_at_call 39; refine (xof_any a b _ H1.out.1 H1.out.2 H2.out.1 H2.out.2).mono ?_; rintro e w1 ⟨v1, rfl, hx1, hb1⟩; obtain ⟨d1, A1, n1, c1, d1', A1', n1', c1', rfl⟩ := hx1.form; have hh1 : Held (w.heap.size + 1) 8 TQL W0 w1 := hst.trans_ hb1; have bw1 := bt bw0 hb1))
  go_wp2
  (try simp only [Exit.inBlock, Exit.then])
  refine bodyPost_ret (v := .agg #[.bool d1, .slice A1 n1 c1, .bool d1', .slice A1' n1' c1', .bool d2, .slice A2 n2 c2, .bool d2', .slice A2' n2' c2']) (by simp [results, Try.results21, go_sem, r1 _ hh2]) rfl ?_
  have hst2 := Held.set_ (Held.set_ (Held.set_ (Held.set_ (Held.set_ (Held.set_ (Held.set_ (Held.set_ (hh2.here) 0 (.bool d1)) 1 (.slice A1 n1 c1)) 2 (.bool d1')) 3 (.slice A1' n1' c1')) 4 (.bool d2)) 5 (.slice A2 n2 c2)) 6 (.bool d2')) 7 (.slice A2' n2' c2')
  exact ⟨_, rfl, ⟨_, _, _, _, _, _, _, _, _, _, _, _, _, _, _, _, rfl, (hx1.below hb2).held hst2 (by decide), hx2.held hst2 (by decide)⟩, (hh2.trans2 hst2).below hbw (by omega)⟩
end Go.Proofs.Tb
