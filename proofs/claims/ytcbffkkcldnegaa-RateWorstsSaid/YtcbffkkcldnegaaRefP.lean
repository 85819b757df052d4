/- Contracts of the reference for rates: Error, Of. -/
import Derived.Test.YtcbffkkcldnegaaRefO
import Derived.Test.YtcbffkkcldnegaaLawB
set_option linter.unusedVariables false
set_option linter.unusedSimpArgs false
namespace Go.Proofs.Tb
open Go.RowKit
attribute [local go_sem] cell_set_same
abbrev TQL : TypeId := 41

/-- v reads as a line of the reference. -/
def ZL (w : World) (v : Value) (x y : Rat) (s : Nat) : Prop := ∃ b0 A0 n0 c0 b1 A1 n1 c1 b2 A2 n2 c2 b3 A3 n3 c3,
  v = .agg #[.bool b0, .slice A0 n0 c0, .bool b1, .slice A1 n1 c1, .bool b2, .slice A2 n2 c2, .bool b3, .slice A3 n3 c3] ∧
  ZX w (.agg #[.bool b0, .slice A0 n0 c0, .bool b1, .slice A1 n1 c1]) x s ∧ ZX w (.agg #[.bool b2, .slice A2 n2 c2, .bool b3, .slice A3 n3 c3]) y s
theorem ZL.below {w w' : World} {v : Value} {x y : Rat} {s : Nat} (h : ZL w v x y s) (hb : Below w.heap.size w w') : ZL w' v x y s := by
  obtain ⟨b0, A0, n0, c0, b1, A1, n1, c1, b2, A2, n2, c2, b3, A3, n3, c3, hv, h1, h2⟩ := h
  exact ⟨b0, A0, n0, c0, b1, A1, n1, c1, b2, A2, n2, c2, b3, A3, n3, c3, hv, h1.below hb, h2.below hb⟩
/-- The error of a line at a reading. -/
def erQ (x y : Rat) (t o : Int) : Rat := (o : Rat) - (x * (t : Rat) + y)

set_option maxHeartbeats 1600000 in
set_option maxRecDepth 100000 in
theorem zerror_any (l : Value) (x y : Rat) (s : Nat) (t o : Int) (w : World) (h : ZL w l x y s) (hs : s ≤ 10000000000) (h1 : rngI t) (h2 : rngI o) :
    Calls Try.prog 20 #[l, .agg #[.int .i64 t, .int .i64 o]] w (Ret (fun v w' => ZR w' v (erQ x y t o) (2 * s + 12)) w) := by
  obtain ⟨b0, A0, n0, c0, b1, A1, n1, c1, b2, A2, n2, c2, b3, A3, n3, c3, rfl, hl1, hl2⟩ := h
  have HX := Lib.hid hl1
  have HY := Lib.hid hl2
  have H1 := Lib.hid h1
  have H2 := Lib.hid h2
  clear hl1 hl2 h1 h2
  go_enter Try.func20, Try.ntmps20
  go_wp2
  refine wp_world (fun W0 => Blk W0 w.heap.size TQL #[.bool b0, .slice A0 n0 c0, .bool b1, .slice A1 n1 c1, .bool b2, .slice A2 n2 c2, .bool b3, .slice A3 n3 c3] ∧ Blk W0 (w.heap.size + 1) TRD #[.int .i64 t, .int .i64 o] ∧ Blk W0 (w.heap.size + 1 + 1) TQ #[.bool false, .slice none 0 0, .bool false, .slice none 0 0] ∧ Below w.heap.size w W0) (by exact ⟨((Blk.new_ _ _ rfl).alloc _).alloc _, (Blk.new_ _ _ (by simp)).alloc _, Blk.new_ _ _ (by simp), by go_grown⟩) ?_
  rintro W0 ⟨b0, b1, b2, hbw⟩
  have bw0 : Below w.heap.size w W0.drew := hbw.drew
  have k0 := fun w' (hh : Held (w.heap.size + 1 + 1) 4 TQ W0 w') => (b0.held hh (by omega)).cells
  have k1 := fun w' (hh : Held (w.heap.size + 1 + 1) 4 TQ W0 w') => (b1.held hh (by omega)).cells
  have hst : Held (w.heap.size + 1 + 1) 4 TQ W0 W0.drew := b2.heldS.drew
  simp only [cellsAre, Nat.zero_add, Nat.reduceAdd, and_true] at k0 k1
  have r1 := (rules (w.heap.size + 1 + 1) 4 TQ W0).some
  have r2 := (rules (w.heap.size + 1 + 1) 4 TQ W0).free
  clear b0 b1 b2
  go_region_held3 (fun w' => Held (w.heap.size + 1 + 1) 4 TQ W0 w') (first | assumption | exact Held.trans_ (by assumption) (by assumption) | exact Held.set_ (Held.set_ (Held.set_ (Held.set_ ((by assumption)) _ _) _ _) _ _) _ _)
    (first | (go_at_call 24; have tk := hb5; refine (xlowest_any hx5 (by omega)).mono ?_; rintro e w6 ⟨v6, rfl, hx6, hb6⟩; obtain ⟨d6, A6, n6, c6, d6', A6', n6', c6', rfl⟩ := hx6.zx.form; have hh6 : Held (w.heap.size + 1 + 1) 4 TQ W0 w6 := hh5.trans_ hb6; have bw6 := bt bw5 hb6) | (go_at_call 67; have tk := hb4; refine (xsub_any (((hx1.below hb2).below hb3).below hb4) hx4 (by omega)).mono ?_; rintro e w5 ⟨v5, rfl, hx5, hb5⟩; obtain ⟨d5, A5, n5, c5, d5', A5', n5', c5', rfl⟩ := hx5.form; have hh5 : Held (w.heap.size + 1 + 1) 4 TQ W0 w5 := hh4.trans_ hb5; have bw5 := bt bw4 hb5) | (go_at_call 22; have tk := hb3; refine (xadd_any hx3 (HY.out.below bw3) (by omega)).mono ?_; rintro e w4 ⟨v4, rfl, hx4, hb4⟩; obtain ⟨d4, A4, n4, c4, d4', A4', n4', c4', rfl⟩ := hx4.form; have hh4 : Held (w.heap.size + 1 + 1) 4 TQ W0 w4 := hh3.trans_ hb4; have bw4 := bt bw3 hb4) | (go_at_call 23; have tk := hb2; refine (xmul_any (HX.out.below bw2) hx2 (by omega)).mono ?_; rintro e w3 ⟨v3, rfl, hx3, hb3⟩; obtain ⟨d3, A3, n3, c3, d3', A3', n3', c3', rfl⟩ := hx3.form; have hh3 : Held (w.heap.size + 1 + 1) 4 TQ W0 w3 := hh2.trans_ hb3; have bw3 := bt bw2 hb3) | (go_at_call 68; have tk := hb1; refine (xwh_any t _ H1.out.1 H1.out.2).mono ?_; rintro e w2 ⟨v2, rfl, hx2, hb2⟩; obtain ⟨d2, A2, n2, c2, d2', A2', n2', c2', rfl⟩ := hx2.form; have hh2 : Held (w.heap.size + 1 + 1) 4 TQ W0 w2 := hh1.trans_ hb2; have bw2 := bt bw1 hb2) | (go_at_call 68; refine (xwh_any o _ H2.out.1 H2.out.2).mono ?_; rintro e w1 ⟨v1, rfl, hx1, hb1⟩; obtain ⟨d1, A1, n1, c1, d1', A1', n1', c1', rfl⟩ := hx1.form; have hh1 : Held (w.heap.size + 1 + 1) 4 TQ W0 w1 := hst.trans_ hb1; have bw1 := bt bw0 hb1))
  go_wp2
  (try simp only [Exit.inBlock, Exit.then])
  refine bodyPost_ret (v := .agg #[.bool d6, .slice A6 n6 c6, .bool d6', .slice A6' n6' c6']) (by simp [results, Try.results20, go_sem, r1 _ hh6]) rfl ?_
  have hst2 := Held.set_ (Held.set_ (Held.set_ (Held.set_ (hh6.here) 0 (.bool d6)) 1 (.slice A6 n6 c6)) 2 (.bool d6')) 3 (.slice A6' n6' c6')
  exact ⟨_, rfl, ⟨hx6.1.held hst2 (by decide), Nat.le_trans hx6.2.1 (by omega), Nat.le_trans hx6.2.2 (by omega)⟩, (hh6.trans2 hst2).below hbw (by omega)⟩

end Go.Proofs.Tb
