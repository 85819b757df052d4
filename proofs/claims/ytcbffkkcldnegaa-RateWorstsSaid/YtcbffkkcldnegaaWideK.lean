/- Contracts of package wide: the straight-line functions on whole numbers and fractions (printed by a program of ours). -/
import Derived.Test.YtcbffkkcldnegaaWideJ
set_option linter.unusedVariables false
set_option linter.unusedSimpArgs false
namespace Go.Proofs.Tb
open Go.RowKit
attribute [local go_sem] cell_set_same
abbrev TF : TypeId := 24

set_option maxHeartbeats 800000 in
theorem wsub_any (a b : Value) (az : Int) (bz : Int) (w : World) (ha : WI w a az) (hb : WI w b bz) (hs : sz az ≤ 1000000000000) (hs2 : sz bz ≤ 1000000000000) :
    Calls Try.prog 130 #[a, b] w (Ret (fun v w' => WI w' v (az + -bz)) w) := by
  obtain ⟨aA0, an0, ac0, rfl, ah0⟩ := ha
  obtain ⟨bA0, bn0, bc0, rfl, bh0⟩ := hb
  have aH0 := Lib.hid ah0
  clear ah0
  have bH0 := Lib.hid bh0
  clear bh0
  go_enter Try.func130, Try.ntmps130
  go_wp2
  refine wp_world (fun W0 => Blk W0 (w.heap.size) TI #[.bool (ng az), .slice aA0 an0 ac0] ∧ Blk W0 (w.heap.size + 1) TI #[.bool (ng bz), .slice bA0 bn0 bc0] ∧ Blk W0 (w.heap.size + 1 + 1) TI #[.bool false, .slice none 0 0] ∧ Below w.heap.size w W0) (by exact ⟨((Blk.new_ _ _ rfl).alloc _).alloc _, (Blk.new_ _ _ (by simp)).alloc _, Blk.new_ _ _ (by simp), by go_grown⟩) ?_
  rintro W0 ⟨b0, b1, b2, hbw⟩
  have k0 := fun w' (hh : Held (w.heap.size + 1 + 1) 2 TI W0 w') => (b0.held hh (by omega)).cells
  have k1 := fun w' (hh : Held (w.heap.size + 1 + 1) 2 TI W0 w') => (b1.held hh (by omega)).cells
  have hst : Held (w.heap.size + 1 + 1) 2 TI W0 W0.drew := b2.heldS.drew
  have r1 := (rules (w.heap.size + 1 + 1) 2 TI W0).some
  have r2 := (rules (w.heap.size + 1 + 1) 2 TI W0).free
  simp only [cellsAre, Nat.zero_add, Nat.reduceAdd, and_true] at k0 k1
  clear b0 b1 b2
  have bw0 : Below w.heap.size w W0.drew := hbw.drew
  go_region_held3 (fun w' => Held (w.heap.size + 1 + 1) 2 TI W0 w') (first | assumption | exact Held.trans_ (by assumption) (by assumption) | exact Held.set_ (Held.set_ ((by assumption)) _ _) _ _)
    (first | (go_at_call 111; have tk := hb1; refine (wadd_any _ _ (az) (-bz) _ ⟨_, _, _, rfl, (aH0.out.below bw1)⟩ ⟨_, _, _, rfl, hx1_0⟩ (by have z0 := sz_neg (bz); omega) (by have z0 := sz_neg (bz); omega)).mono ?_; rintro e w2 ⟨v2, rfl, ⟨A2_0, n2_0, c2_0, rfl, hx2_0⟩, hb2⟩; have hh2 : Held (w.heap.size + 1 + 1) 2 TI W0 w2 := hh1.trans_ hb2; have bw2 := bt bw1 hb2) | (go_at_call 98; refine (wneg_any _ (bz) _ ⟨_, _, _, rfl, (bH0.out.below bw0)⟩).mono ?_; rintro e w1 ⟨v1, rfl, ⟨A1_0, n1_0, c1_0, rfl, hx1_0⟩, hb1⟩; have hh1 : Held (w.heap.size + 1 + 1) 2 TI W0 w1 := hst.trans_ hb1; have bw1 := bt bw0 hb1))
  go_wp2
  (try simp only [Exit.inBlock, Exit.then])
  refine bodyPost_ret (v := .agg #[.bool (ng (az + (-bz))), .slice A2_0 n2_0 c2_0]) (by simp [results, Try.results130, go_sem, r1 _ hh2]) rfl ?_
  have hst2 := Held.set_ (Held.set_ (hh2.here) 0 (.bool (ng (az + (-bz))))) 1 (.slice A2_0 n2_0 c2_0)
  exact ⟨_, rfl, ⟨_, _, _, rfl, (hx2_0).held hst2 (by decide)⟩, (hh2.trans2 hst2).below hbw (by omega)⟩

set_option maxHeartbeats 800000 in
theorem wcmp_any (a b : Value) (az : Int) (bz : Int) (w : World) (ha : WI w a az) (hb : WI w b bz) (hs : sz az ≤ 1000000000000) (hs2 : sz bz ≤ 1000000000000) :
    Calls Try.prog 117 #[a, b] w (Ret (fun v _ => v = .int .i64 (Int.sign (az + -bz))) w) := by
  obtain ⟨aA0, an0, ac0, rfl, ah0⟩ := ha
  obtain ⟨bA0, bn0, bc0, rfl, bh0⟩ := hb
  have aH0 := Lib.hid ah0
  clear ah0
  have bH0 := Lib.hid bh0
  clear bh0
  go_enter Try.func117, Try.ntmps117
  go_wp2_with fail
  obtain ⟨W0, hW0⟩ : ∃ W0, W0 = ((w).alloc (.cells #[.bool (ng az), .slice aA0 an0 ac0] TI)).alloc (.cells #[.bool (ng bz), .slice bA0 bn0 bc0] TI) := ⟨_, rfl⟩
  have b0 : Blk W0 (w.heap.size) TI #[.bool (ng az), .slice aA0 an0 ac0] := by rw [hW0]; exact (Blk.new_ _ _ rfl).alloc _
  have b1 : Blk W0 (w.heap.size + 1) TI #[.bool (ng bz), .slice bA0 bn0 bc0] := by rw [hW0]; exact Blk.new_ _ _ (by simp)
  have hbw : Below w.heap.size w W0 := by rw [hW0]; go_grown
  rw [← hW0]
  clear hW0
  have k0 := fun w' (hh : Ext W0 w') => (b0.below hh).cells
  have k1 := fun w' (hh : Ext W0 w') => (b1.below hh).cells
  have hst : Ext W0 W0 := Ext.refl _
  simp only [cellsAre, Nat.zero_add, Nat.reduceAdd, and_true] at k0 k1
  clear b0 b1
  have bw0 : Below w.heap.size w W0 := hbw
  refine (wsub_any _ _ (az) (bz) _ ⟨_, _, _, rfl, (aH0.out.below bw0)⟩ ⟨_, _, _, rfl, (bH0.out.below bw0)⟩ (by omega) (by omega)).mono ?_; rintro e w1 ⟨v1, rfl, ⟨A1_0, n1_0, c1_0, rfl, hx1_0⟩, hb1⟩; have hh1 : Ext W0 w1 := bt hst hb1; have bw1 := bt bw0 hb1
  go_wp2_with (first | (go_at_call 127; have tk := hb1; refine (wsign_any _ (az + -bz) _ ⟨_, _, _, rfl, hx1_0⟩).mono ?_; rintro e w2 ⟨v2, rfl, rfl, hb2⟩; have hh2 : Ext W0 w2 := bt hh1 hb2; have bw2 := bt bw1 hb2))
  go_returns
  exact ⟨_, rfl, rfl, bw2⟩

set_option maxHeartbeats 800000 in
theorem wqmul_any (a b : Value) (ap aq : Int) (bp bq : Int) (w : World) (ha : WQ w a ap aq) (hb : WQ w b bp bq) (hs : sz ap + sz aq + sz bp + sz bq ≤ 100000000000) :
    Calls Try.prog 62 #[a, b] w (Ret (fun v w' => WQ w' v (ap * bp) (aq * bq)) w) := by
  obtain ⟨aA0, an0, ac0, aA1, an1, ac1, rfl, ah0, ah1, apos0⟩ := ha
  obtain ⟨bA0, bn0, bc0, bA1, bn1, bc1, rfl, bh0, bh1, bpos0⟩ := hb
  have aH0 := Lib.hid ah0
  clear ah0
  have aH1 := Lib.hid ah1
  clear ah1
  have aP0 := Lib.hid apos0
  clear apos0
  have bH0 := Lib.hid bh0
  clear bh0
  have bH1 := Lib.hid bh1
  clear bh1
  have bP0 := Lib.hid bpos0
  clear bpos0
  go_enter Try.func62, Try.ntmps62
  go_wp2
  refine wp_world (fun W0 => Blk W0 (w.heap.size) TR #[.bool (ng ap), .slice aA0 an0 ac0, .bool (ng aq), .slice aA1 an1 ac1] ∧ Blk W0 (w.heap.size + 1) TR #[.bool (ng bp), .slice bA0 bn0 bc0, .bool (ng bq), .slice bA1 bn1 bc1] ∧ Blk W0 (w.heap.size + 1 + 1) TR #[.bool false, .slice none 0 0, .bool false, .slice none 0 0] ∧ Below w.heap.size w W0) (by exact ⟨((Blk.new_ _ _ rfl).alloc _).alloc _, (Blk.new_ _ _ (by simp)).alloc _, Blk.new_ _ _ (by simp), by go_grown⟩) ?_
  rintro W0 ⟨b0, b1, b2, hbw⟩
  have k0 := fun w' (hh : Held (w.heap.size + 1 + 1) 4 TR W0 w') => (b0.held hh (by omega)).cells
  have k1 := fun w' (hh : Held (w.heap.size + 1 + 1) 4 TR W0 w') => (b1.held hh (by omega)).cells
  have hst : Held (w.heap.size + 1 + 1) 4 TR W0 W0.drew := b2.heldS.drew
  have r1 := (rules (w.heap.size + 1 + 1) 4 TR W0).some
  have r2 := (rules (w.heap.size + 1 + 1) 4 TR W0).free
  simp only [cellsAre, Nat.zero_add, Nat.reduceAdd, and_true] at k0 k1
  clear b0 b1 b2
  have bw0 : Below w.heap.size w W0.drew := hbw.drew
  go_region_held3 (fun w' => Held (w.heap.size + 1 + 1) 4 TR W0 w') (first | assumption | exact Held.trans_ (by assumption) (by assumption) | exact Held.set_ (Held.set_ (Held.set_ (Held.set_ ((by assumption)) _ _) _ _) _ _) _ _)
    (first | (go_at_call 100; have tk := hb1; refine (wmul_any _ _ (aq) (bq) _ ⟨_, _, _, rfl, (aH1.out.below bw1)⟩ ⟨_, _, _, rfl, (bH1.out.below bw1)⟩ (by have z0 := sz_mul (ap) (bp); omega)).mono ?_; rintro e w2 ⟨v2, rfl, ⟨A2_0, n2_0, c2_0, rfl, hx2_0⟩, hb2⟩; have hh2 : Held (w.heap.size + 1 + 1) 4 TR W0 w2 := hh1.trans_ hb2; have bw2 := bt bw1 hb2) | (go_at_call 100; refine (wmul_any _ _ (ap) (bp) _ ⟨_, _, _, rfl, (aH0.out.below bw0)⟩ ⟨_, _, _, rfl, (bH0.out.below bw0)⟩ (by omega)).mono ?_; rintro e w1 ⟨v1, rfl, ⟨A1_0, n1_0, c1_0, rfl, hx1_0⟩, hb1⟩; have hh1 : Held (w.heap.size + 1 + 1) 4 TR W0 w1 := hst.trans_ hb1; have bw1 := bt bw0 hb1))
  go_wp2
  (try simp only [Exit.inBlock, Exit.then])
  refine bodyPost_ret (v := .agg #[.bool (ng (ap * bp)), .slice A1_0 n1_0 c1_0, .bool (ng (aq * bq)), .slice A2_0 n2_0 c2_0]) (by simp [results, Try.results62, go_sem, r1 _ hh2]) rfl ?_
  have hst2 := Held.set_ (Held.set_ (Held.set_ (Held.set_ (hh2.here) 0 (.bool (ng (ap * bp)))) 1 (.slice A1_0 n1_0 c1_0)) 2 (.bool (ng (aq * bq)))) 3 (.slice A2_0 n2_0 c2_0)
  exact ⟨_, rfl, ⟨_, _, _, _, _, _, rfl, ((hx1_0.below hb2)).held hst2 (by decide), (hx2_0).held hst2 (by decide), Int.mul_pos aP0.out bP0.out⟩, (hh2.trans2 hst2).below hbw (by omega)⟩

set_option maxHeartbeats 800000 in
theorem wqadd_any (a b : Value) (ap aq : Int) (bp bq : Int) (w : World) (ha : WQ w a ap aq) (hb : WQ w b bp bq) (hs : sz ap + sz aq + sz bp + sz bq ≤ 100000000000) :
    Calls Try.prog 75 #[a, b] w (Ret (fun v w' => WQ w' v (ap * bq + bp * aq) (aq * bq)) w) := by
  obtain ⟨aA0, an0, ac0, aA1, an1, ac1, rfl, ah0, ah1, apos0⟩ := ha
  obtain ⟨bA0, bn0, bc0, bA1, bn1, bc1, rfl, bh0, bh1, bpos0⟩ := hb
  have aH0 := Lib.hid ah0
  clear ah0
  have aH1 := Lib.hid ah1
  clear ah1
  have aP0 := Lib.hid apos0
  clear apos0
  have bH0 := Lib.hid bh0
  clear bh0
  have bH1 := Lib.hid bh1
  clear bh1
  have bP0 := Lib.hid bpos0
  clear bpos0
  go_enter Try.func75, Try.ntmps75
  go_wp2
  refine wp_world (fun W0 => Blk W0 (w.heap.size) TR #[.bool (ng ap), .slice aA0 an0 ac0, .bool (ng aq), .slice aA1 an1 ac1] ∧ Blk W0 (w.heap.size + 1) TR #[.bool (ng bp), .slice bA0 bn0 bc0, .bool (ng bq), .slice bA1 bn1 bc1] ∧ Blk W0 (w.heap.size + 1 + 1) TR #[.bool false, .slice none 0 0, .bool false, .slice none 0 0] ∧ Below w.heap.size w W0) (by exact ⟨((Blk.new_ _ _ rfl).alloc _).alloc _, (Blk.new_ _ _ (by simp)).alloc _, Blk.new_ _ _ (by simp), by go_grown⟩) ?_
  rintro W0 ⟨b0, b1, b2, hbw⟩
  have k0 := fun w' (hh : Held (w.heap.size + 1 + 1) 4 TR W0 w') => (b0.held hh (by omega)).cells
  have k1 := fun w' (hh : Held (w.heap.size + 1 + 1) 4 TR W0 w') => (b1.held hh (by omega)).cells
  have hst : Held (w.heap.size + 1 + 1) 4 TR W0 W0.drew := b2.heldS.drew
  have r1 := (rules (w.heap.size + 1 + 1) 4 TR W0).some
  have r2 := (rules (w.heap.size + 1 + 1) 4 TR W0).free
  simp only [cellsAre, Nat.zero_add, Nat.reduceAdd, and_true] at k0 k1
  clear b0 b1 b2
  have bw0 : Below w.heap.size w W0.drew := hbw.drew
  go_region_held3 (fun w' => Held (w.heap.size + 1 + 1) 4 TR W0 w') (first | assumption | exact Held.trans_ (by assumption) (by assumption) | exact Held.set_ (Held.set_ (Held.set_ (Held.set_ ((by assumption)) _ _) _ _) _ _) _ _)
    (first | (go_at_call 100; have tk := hb3; refine (wmul_any _ _ (aq) (bq) _ ⟨_, _, _, rfl, (aH1.out.below bw3)⟩ ⟨_, _, _, rfl, (bH1.out.below bw3)⟩ (by have z0 := sz_mul (ap) (bq); have z1 := sz_mul (bp) (aq); have z2 := sz_add (ap * bq) (bp * aq); omega)).mono ?_; rintro e w4 ⟨v4, rfl, ⟨A4_0, n4_0, c4_0, rfl, hx4_0⟩, hb4⟩; have hh4 : Held (w.heap.size + 1 + 1) 4 TR W0 w4 := hh3.trans_ hb4; have bw4 := bt bw3 hb4) | (go_at_call 111; have tk := hb2; refine (wadd_any _ _ (ap * bq) (bp * aq) _ ⟨_, _, _, rfl, (hx1_0.below hb2)⟩ ⟨_, _, _, rfl, hx2_0⟩ (by have z0 := sz_mul (ap) (bq); have z1 := sz_mul (bp) (aq); omega) (by have z0 := sz_mul (ap) (bq); have z1 := sz_mul (bp) (aq); omega)).mono ?_; rintro e w3 ⟨v3, rfl, ⟨A3_0, n3_0, c3_0, rfl, hx3_0⟩, hb3⟩; have hh3 : Held (w.heap.size + 1 + 1) 4 TR W0 w3 := hh2.trans_ hb3; have bw3 := bt bw2 hb3) | (go_at_call 100; have tk := hb1; refine (wmul_any _ _ (bp) (aq) _ ⟨_, _, _, rfl, (bH0.out.below bw1)⟩ ⟨_, _, _, rfl, (aH1.out.below bw1)⟩ (by have z0 := sz_mul (ap) (bq); omega)).mono ?_; rintro e w2 ⟨v2, rfl, ⟨A2_0, n2_0, c2_0, rfl, hx2_0⟩, hb2⟩; have hh2 : Held (w.heap.size + 1 + 1) 4 TR W0 w2 := hh1.trans_ hb2; have bw2 := bt bw1 hb2) | (go_at_call 100; refine (wmul_any _ _ (ap) (bq) _ ⟨_, _, _, rfl, (aH0.out.below bw0)⟩ ⟨_, _, _, rfl, (bH1.out.below bw0)⟩ (by omega)).mono ?_; rintro e w1 ⟨v1, rfl, ⟨A1_0, n1_0, c1_0, rfl, hx1_0⟩, hb1⟩; have hh1 : Held (w.heap.size + 1 + 1) 4 TR W0 w1 := hst.trans_ hb1; have bw1 := bt bw0 hb1))
  go_wp2
  (try simp only [Exit.inBlock, Exit.then])
  refine bodyPost_ret (v := .agg #[.bool (ng ((ap * bq) + (bp * aq))), .slice A3_0 n3_0 c3_0, .bool (ng (aq * bq)), .slice A4_0 n4_0 c4_0]) (by simp [results, Try.results75, go_sem, r1 _ hh4]) rfl ?_
  have hst2 := Held.set_ (Held.set_ (Held.set_ (Held.set_ (hh4.here) 0 (.bool (ng ((ap * bq) + (bp * aq))))) 1 (.slice A3_0 n3_0 c3_0)) 2 (.bool (ng (aq * bq)))) 3 (.slice A4_0 n4_0 c4_0)
  exact ⟨_, rfl, ⟨_, _, _, _, _, _, rfl, ((hx3_0.below hb4)).held hst2 (by decide), (hx4_0).held hst2 (by decide), Int.mul_pos aP0.out bP0.out⟩, (hh4.trans2 hst2).below hbw (by omega)⟩

set_option maxHeartbeats 800000 in
theorem wqsub_any (a b : Value) (ap aq : Int) (bp bq : Int) (w : World) (ha : WQ w a ap aq) (hb : WQ w b bp bq) (hs : sz ap + sz aq + sz bp + sz bq ≤ 100000000000) :
    Calls Try.prog 61 #[a, b] w (Ret (fun v w' => WQ w' v (ap * bq + -bp * aq) (aq * bq)) w) := by
  obtain ⟨aA0, an0, ac0, aA1, an1, ac1, rfl, ah0, ah1, apos0⟩ := ha
  obtain ⟨bA0, bn0, bc0, bA1, bn1, bc1, rfl, bh0, bh1, bpos0⟩ := hb
  have aH0 := Lib.hid ah0
  clear ah0
  have aH1 := Lib.hid ah1
  clear ah1
  have aP0 := Lib.hid apos0
  clear apos0
  have bH0 := Lib.hid bh0
  clear bh0
  have bH1 := Lib.hid bh1
  clear bh1
  have bP0 := Lib.hid bpos0
  clear bpos0
  go_enter Try.func61, Try.ntmps61
  go_wp2
  refine wp_world (fun W0 => Blk W0 (w.heap.size) TR #[.bool (ng ap), .slice aA0 an0 ac0, .bool (ng aq), .slice aA1 an1 ac1] ∧ Blk W0 (w.heap.size + 1) TR #[.bool (ng bp), .slice bA0 bn0 bc0, .bool (ng bq), .slice bA1 bn1 bc1] ∧ Blk W0 (w.heap.size + 1 + 1) TR #[.bool false, .slice none 0 0, .bool false, .slice none 0 0] ∧ Below w.heap.size w W0) (by exact ⟨((Blk.new_ _ _ rfl).alloc _).alloc _, (Blk.new_ _ _ (by simp)).alloc _, Blk.new_ _ _ (by simp), by go_grown⟩) ?_
  rintro W0 ⟨b0, b1, b2, hbw⟩
  have k0 := fun w' (hh : Held (w.heap.size + 1 + 1) 4 TR W0 w') => (b0.held hh (by omega)).cells
  have k1 := fun w' (hh : Held (w.heap.size + 1 + 1) 4 TR W0 w') => (b1.held hh (by omega)).cells
  have hst : Held (w.heap.size + 1 + 1) 4 TR W0 W0.drew := b2.heldS.drew
  have r1 := (rules (w.heap.size + 1 + 1) 4 TR W0).some
  have r2 := (rules (w.heap.size + 1 + 1) 4 TR W0).free
  simp only [cellsAre, Nat.zero_add, Nat.reduceAdd, and_true] at k0 k1
  clear b0 b1 b2
  have bw0 : Below w.heap.size w W0.drew := hbw.drew
  go_region_held3 (fun w' => Held (w.heap.size + 1 + 1) 4 TR W0 w') (first | assumption | exact Held.trans_ (by assumption) (by assumption) | exact Held.set_ (Held.set_ (Held.set_ (Held.set_ ((by assumption)) _ _) _ _) _ _) _ _)
    (first | (go_at_call 75; have tk := hb1; refine (wqadd_any _ _ (ap) (aq) (-bp) (bq) _ ⟨_, _, _, _, _, _, rfl, (aH0.out.below bw1), (aH1.out.below bw1), aP0.out⟩ ⟨_, _, _, _, _, _, rfl, hx1_0, (bH1.out.below bw1), bP0.out⟩ (by have z0 := sz_neg (bp); omega)).mono ?_; rintro e w2 ⟨v2, rfl, ⟨A2_0, n2_0, c2_0, A2_1, n2_1, c2_1, rfl, hx2_0, hx2_1, hp2_0⟩, hb2⟩; have hh2 : Held (w.heap.size + 1 + 1) 4 TR W0 w2 := hh1.trans_ hb2; have bw2 := bt bw1 hb2) | (go_at_call 98; refine (wneg_any _ (bp) _ ⟨_, _, _, rfl, (bH0.out.below bw0)⟩).mono ?_; rintro e w1 ⟨v1, rfl, ⟨A1_0, n1_0, c1_0, rfl, hx1_0⟩, hb1⟩; have hh1 : Held (w.heap.size + 1 + 1) 4 TR W0 w1 := hst.trans_ hb1; have bw1 := bt bw0 hb1))
  go_wp2
  (try simp only [Exit.inBlock, Exit.then])
  refine bodyPost_ret (v := .agg #[.bool (ng (ap * bq + (-bp) * aq)), .slice A2_0 n2_0 c2_0, .bool (ng (aq * bq)), .slice A2_1 n2_1 c2_1]) (by simp [results, Try.results61, go_sem, r1 _ hh2]) rfl ?_
  have hst2 := Held.set_ (Held.set_ (Held.set_ (Held.set_ (hh2.here) 0 (.bool (ng (ap * bq + (-bp) * aq)))) 1 (.slice A2_0 n2_0 c2_0)) 2 (.bool (ng (aq * bq)))) 3 (.slice A2_1 n2_1 c2_1)
  exact ⟨_, rfl, ⟨_, _, _, _, _, _, rfl, (hx2_0).held hst2 (by decide), (hx2_1).held hst2 (by decide), hp2_0⟩, (hh2.trans2 hst2).below hbw (by omega)⟩

set_option maxHeartbeats 800000 in
theorem wqdiv_any (a b : Value) (ap aq : Int) (bp bq : Int) (w : World) (ha : WQ w a ap aq) (hb : WQ w b bp bq) (hbp : bp ≠ 0) (hs : sz ap + sz aq + sz bp + sz bq ≤ 100000000000) :
    Calls Try.prog 63 #[a, b] w (Ret (fun v w' => WQ w' v (rn (ap * bq) (aq * bp)) (rd (aq * bp))) w) := by
  have HBP_ := Lib.hid hbp
  clear hbp
  obtain ⟨aA0, an0, ac0, aA1, an1, ac1, rfl, ah0, ah1, apos0⟩ := ha
  obtain ⟨bA0, bn0, bc0, bA1, bn1, bc1, rfl, bh0, bh1, bpos0⟩ := hb
  have aH0 := Lib.hid ah0
  clear ah0
  have aH1 := Lib.hid ah1
  clear ah1
  have aP0 := Lib.hid apos0
  clear apos0
  have bH0 := Lib.hid bh0
  clear bh0
  have bH1 := Lib.hid bh1
  clear bh1
  have bP0 := Lib.hid bpos0
  clear bpos0
  go_enter Try.func63, Try.ntmps63
  go_wp2
  refine wp_world (fun W0 => Blk W0 (w.heap.size) TR #[.bool (ng ap), .slice aA0 an0 ac0, .bool (ng aq), .slice aA1 an1 ac1] ∧ Blk W0 (w.heap.size + 1) TR #[.bool (ng bp), .slice bA0 bn0 bc0, .bool (ng bq), .slice bA1 bn1 bc1] ∧ Blk W0 (w.heap.size + 1 + 1) TR #[.bool false, .slice none 0 0, .bool false, .slice none 0 0] ∧ Below w.heap.size w W0) (by exact ⟨((Blk.new_ _ _ rfl).alloc _).alloc _, (Blk.new_ _ _ (by simp)).alloc _, Blk.new_ _ _ (by simp), by go_grown⟩) ?_
  rintro W0 ⟨b0, b1, b2, hbw⟩
  have k0 := fun w' (hh : Held (w.heap.size + 1 + 1) 4 TR W0 w') => (b0.held hh (by omega)).cells
  have k1 := fun w' (hh : Held (w.heap.size + 1 + 1) 4 TR W0 w') => (b1.held hh (by omega)).cells
  have hst : Held (w.heap.size + 1 + 1) 4 TR W0 W0.drew := b2.heldS.drew
  have r1 := (rules (w.heap.size + 1 + 1) 4 TR W0).some
  have r2 := (rules (w.heap.size + 1 + 1) 4 TR W0).free
  simp only [cellsAre, Nat.zero_add, Nat.reduceAdd, and_true] at k0 k1
  clear b0 b1 b2
  have bw0 : Below w.heap.size w W0.drew := hbw.drew
  go_region_held3 (fun w' => Held (w.heap.size + 1 + 1) 4 TR W0 w') (first | assumption | exact Held.trans_ (by assumption) (by assumption) | exact Held.set_ (Held.set_ (Held.set_ (Held.set_ ((by assumption)) _ _) _ _) _ _) _ _)
    (first | (go_at_call 57; have tk := hb2; refine (wratio_any _ _ (ap * bq) (aq * bp) _ ⟨_, _, _, rfl, (hx1_0.below hb2)⟩ ⟨_, _, _, rfl, hx2_0⟩ (Int.mul_ne_zero (Int.ne_of_gt aP0.out) HBP_.out)).mono ?_; rintro e w3 ⟨v3, rfl, ⟨A3_0, n3_0, c3_0, A3_1, n3_1, c3_1, rfl, hx3_0, hx3_1, hp3_0⟩, hb3⟩; have hh3 : Held (w.heap.size + 1 + 1) 4 TR W0 w3 := hh2.trans_ hb3; have bw3 := bt bw2 hb3) | (go_at_call 100; have tk := hb1; refine (wmul_any _ _ (aq) (bp) _ ⟨_, _, _, rfl, (aH1.out.below bw1)⟩ ⟨_, _, _, rfl, (bH0.out.below bw1)⟩ (by have z0 := sz_mul (ap) (bq); omega)).mono ?_; rintro e w2 ⟨v2, rfl, ⟨A2_0, n2_0, c2_0, rfl, hx2_0⟩, hb2⟩; have hh2 : Held (w.heap.size + 1 + 1) 4 TR W0 w2 := hh1.trans_ hb2; have bw2 := bt bw1 hb2) | (go_at_call 100; refine (wmul_any _ _ (ap) (bq) _ ⟨_, _, _, rfl, (aH0.out.below bw0)⟩ ⟨_, _, _, rfl, (bH1.out.below bw0)⟩ (by omega)).mono ?_; rintro e w1 ⟨v1, rfl, ⟨A1_0, n1_0, c1_0, rfl, hx1_0⟩, hb1⟩; have hh1 : Held (w.heap.size + 1 + 1) 4 TR W0 w1 := hst.trans_ hb1; have bw1 := bt bw0 hb1))
  go_wp2
  (try simp only [Exit.inBlock, Exit.then])
  refine bodyPost_ret (v := .agg #[.bool (ng (rn (ap * bq) (aq * bp))), .slice A3_0 n3_0 c3_0, .bool (ng (rd (aq * bp))), .slice A3_1 n3_1 c3_1]) (by simp [results, Try.results63, go_sem, r1 _ hh3]) rfl ?_
  have hst2 := Held.set_ (Held.set_ (Held.set_ (Held.set_ (hh3.here) 0 (.bool (ng (rn (ap * bq) (aq * bp))))) 1 (.slice A3_0 n3_0 c3_0)) 2 (.bool (ng (rd (aq * bp))))) 3 (.slice A3_1 n3_1 c3_1)
  exact ⟨_, rfl, ⟨_, _, _, _, _, _, rfl, (hx3_0).held hst2 (by decide), (hx3_1).held hst2 (by decide), hp3_0⟩, (hh3.trans2 hst2).below hbw (by omega)⟩

set_option maxHeartbeats 800000 in
theorem wqcmp_any (a b : Value) (ap aq : Int) (bp bq : Int) (w : World) (ha : WQ w a ap aq) (hb : WQ w b bp bq) (hs : sz ap + sz aq + sz bp + sz bq ≤ 100000000000) :
    Calls Try.prog 88 #[a, b] w (Ret (fun v _ => v = .int .i64 (Int.sign (ap * bq + -(bp * aq)))) w) := by
  obtain ⟨aA0, an0, ac0, aA1, an1, ac1, rfl, ah0, ah1, apos0⟩ := ha
  obtain ⟨bA0, bn0, bc0, bA1, bn1, bc1, rfl, bh0, bh1, bpos0⟩ := hb
  have aH0 := Lib.hid ah0
  clear ah0
  have aH1 := Lib.hid ah1
  clear ah1
  have aP0 := Lib.hid apos0
  clear apos0
  have bH0 := Lib.hid bh0
  clear bh0
  have bH1 := Lib.hid bh1
  clear bh1
  have bP0 := Lib.hid bpos0
  clear bpos0
  go_enter Try.func88, Try.ntmps88
  go_wp2
  refine wp_world (fun W0 => Blk W0 (w.heap.size) TR #[.bool (ng ap), .slice aA0 an0 ac0, .bool (ng aq), .slice aA1 an1 ac1] ∧ Blk W0 (w.heap.size + 1) TR #[.bool (ng bp), .slice bA0 bn0 bc0, .bool (ng bq), .slice bA1 bn1 bc1] ∧ Below w.heap.size w W0) (by exact ⟨(Blk.new_ _ _ rfl).alloc _, Blk.new_ _ _ (by simp), by go_grown⟩) ?_
  rintro W0 ⟨b0, b1, hbw⟩
  have k0 := fun w' (hh : Ext W0 w') => (b0.below hh).cells
  have k1 := fun w' (hh : Ext W0 w') => (b1.below hh).cells
  have hst : Ext W0 W0.drew := Ext.drew _
  simp only [cellsAre, Nat.zero_add, Nat.reduceAdd, and_true] at k0 k1
  clear b0 b1
  have bw0 : Below w.heap.size w W0.drew := hbw.drew
  go_region_held3 (fun w' => Ext W0 w') (first | assumption | exact bt (by assumption) (by assumption))
    (first | (go_at_call 117; have tk := hb2; refine (wcmp_any _ _ (ap * bq) (bp * aq) _ ⟨_, _, _, rfl, (hx1_0.below hb2)⟩ ⟨_, _, _, rfl, hx2_0⟩ (by have z0 := sz_mul (ap) (bq); have z1 := sz_mul (bp) (aq); omega) (by have z0 := sz_mul (ap) (bq); have z1 := sz_mul (bp) (aq); omega)).mono ?_; rintro e w3 ⟨v3, rfl, rfl, hb3⟩; have hh3 : Ext W0 w3 := bt hh2 hb3; have bw3 := bt bw2 hb3) | (go_at_call 100; have tk := hb1; refine (wmul_any _ _ (bp) (aq) _ ⟨_, _, _, rfl, (bH0.out.below bw1)⟩ ⟨_, _, _, rfl, (aH1.out.below bw1)⟩ (by have z0 := sz_mul (ap) (bq); omega)).mono ?_; rintro e w2 ⟨v2, rfl, ⟨A2_0, n2_0, c2_0, rfl, hx2_0⟩, hb2⟩; have hh2 : Ext W0 w2 := bt hh1 hb2; have bw2 := bt bw1 hb2) | (go_at_call 100; refine (wmul_any _ _ (ap) (bq) _ ⟨_, _, _, rfl, (aH0.out.below bw0)⟩ ⟨_, _, _, rfl, (bH1.out.below bw0)⟩ (by omega)).mono ?_; rintro e w1 ⟨v1, rfl, ⟨A1_0, n1_0, c1_0, rfl, hx1_0⟩, hb1⟩; have hh1 : Ext W0 w1 := bt hst hb1; have bw1 := bt bw0 hb1))
  go_wp2
  go_returns
  exact ⟨_, rfl, rfl, bw3⟩

set_option maxHeartbeats 800000 in
theorem wwhole_any (n : Int) (w : World)  (h1 : -9223372036854775808 ≤ n) (h2 : n ≤ 9223372036854775807) :
    Calls Try.prog 60 #[.int .i64 n] w (Ret (fun v w' => WQ w' v (n) (1)) w) := by
  go_enter Try.func60, Try.ntmps60
  go_wp2_with fail
  obtain ⟨W0, hW0⟩ : ∃ W0, W0 = (w).alloc (.cells #[.bool false, .slice none 0 0, .bool false, .slice none 0 0] TR) := ⟨_, rfl⟩
  have b0 : Blk W0 (w.heap.size) TR #[.bool false, .slice none 0 0, .bool false, .slice none 0 0] := by rw [hW0]; exact Blk.new_ _ _ rfl
  have hbw : Below w.heap.size w W0 := by rw [hW0]; go_grown
  rw [← hW0]
  clear hW0
  have hst : Held (w.heap.size) 4 TR W0 W0 := b0.heldS
  have r1 := (rules (w.heap.size) 4 TR W0).some
  have r2 := (rules (w.heap.size) 4 TR W0).free
  clear b0
  have bw0 : Below w.heap.size w W0 := hbw
  refine (wof_any (n) _ (by omega) (by omega)).mono ?_; rintro e w1 ⟨v1, rfl, ⟨A1_0, n1_0, c1_0, rfl, hx1_0⟩, hb1⟩; have hh1 : Held (w.heap.size) 4 TR W0 w1 := hst.trans_ hb1; have bw1 := bt bw0 hb1
  go_wp2_with (first | (go_at_call 58; have tk := hb1; refine (wof_any (1) _ (by omega) (by omega)).mono ?_; rintro e w2 ⟨v2, rfl, ⟨A2_0, n2_0, c2_0, rfl, hx2_0⟩, hb2⟩; have hh2 : Held (w.heap.size) 4 TR W0 w2 := hh1.trans_ hb2; have bw2 := bt bw1 hb2))
  (try simp only [Exit.inBlock, Exit.then])
  refine bodyPost_ret (v := .agg #[.bool (ng (n)), .slice A1_0 n1_0 c1_0, .bool (ng (1)), .slice A2_0 n2_0 c2_0]) (by simp [results, Try.results60, go_sem, r1 _ hh2]) rfl ?_
  have hst2 := Held.set_ (Held.set_ (Held.set_ (Held.set_ (hh2.here) 0 (.bool (ng (n)))) 1 (.slice A1_0 n1_0 c1_0)) 2 (.bool (ng (1)))) 3 (.slice A2_0 n2_0 c2_0)
  exact ⟨_, rfl, ⟨_, _, _, _, _, _, rfl, ((hx1_0.below hb2)).held hst2 (by decide), (hx2_0).held hst2 (by decide), (by decide)⟩, (hh2.trans2 hst2).below hbw (by omega)⟩

set_option maxHeartbeats 800000 in
theorem wfrom_any (xn xd : Int) (w : World)  (h1 : -9223372036854775808 ≤ xn) (h2 : xn ≤ 9223372036854775807) (h3 : 0 < xd) (h4 : xd ≤ 9223372036854775807) :
    Calls Try.prog 87 #[.agg #[.int .i64 xn, .int .i64 xd]] w (Ret (fun v w' => WQ w' v (xn) (xd)) w) := by
  go_enter Try.func87, Try.ntmps87
  go_wp2
  refine wp_world (fun W0 => Blk W0 (w.heap.size) TF #[.int .i64 xn, .int .i64 xd] ∧ Blk W0 (w.heap.size + 1) TR #[.bool false, .slice none 0 0, .bool false, .slice none 0 0] ∧ Below w.heap.size w W0) (by exact ⟨(Blk.new_ _ _ rfl).alloc _, Blk.new_ _ _ (by simp), by go_grown⟩) ?_
  rintro W0 ⟨b0, b1, hbw⟩
  have k0 := fun w' (hh : Held (w.heap.size + 1) 4 TR W0 w') => (b0.held hh (by omega)).cells
  have hst : Held (w.heap.size + 1) 4 TR W0 W0.drew := b1.heldS.drew
  have r1 := (rules (w.heap.size + 1) 4 TR W0).some
  have r2 := (rules (w.heap.size + 1) 4 TR W0).free
  simp only [cellsAre, Nat.zero_add, Nat.reduceAdd, and_true] at k0
  clear b0 b1
  have bw0 : Below w.heap.size w W0.drew := hbw.drew
  go_region_held3 (fun w' => Held (w.heap.size + 1) 4 TR W0 w') (first | assumption | exact Held.trans_ (by assumption) (by assumption) | exact Held.set_ (Held.set_ (Held.set_ (Held.set_ ((by assumption)) _ _) _ _) _ _) _ _)
    (first | (go_at_call 58; have tk := hb1; refine (wof_any (xd) _ (by omega) (by omega)).mono ?_; rintro e w2 ⟨v2, rfl, ⟨A2_0, n2_0, c2_0, rfl, hx2_0⟩, hb2⟩; have hh2 : Held (w.heap.size + 1) 4 TR W0 w2 := hh1.trans_ hb2; have bw2 := bt bw1 hb2) | (go_at_call 58; refine (wof_any (xn) _ (by omega) (by omega)).mono ?_; rintro e w1 ⟨v1, rfl, ⟨A1_0, n1_0, c1_0, rfl, hx1_0⟩, hb1⟩; have hh1 : Held (w.heap.size + 1) 4 TR W0 w1 := hst.trans_ hb1; have bw1 := bt bw0 hb1))
  go_wp2
  (try simp only [Exit.inBlock, Exit.then])
  refine bodyPost_ret (v := .agg #[.bool (ng (xn)), .slice A1_0 n1_0 c1_0, .bool (ng (xd)), .slice A2_0 n2_0 c2_0]) (by simp [results, Try.results87, go_sem, r1 _ hh2]) rfl ?_
  have hst2 := Held.set_ (Held.set_ (Held.set_ (Held.set_ (hh2.here) 0 (.bool (ng (xn)))) 1 (.slice A1_0 n1_0 c1_0)) 2 (.bool (ng (xd)))) 3 (.slice A2_0 n2_0 c2_0)
  exact ⟨_, rfl, ⟨_, _, _, _, _, _, rfl, ((hx1_0.below hb2)).held hst2 (by decide), (hx2_0).held hst2 (by decide), h3⟩, (hh2.trans2 hst2).below hbw (by omega)⟩
end Go.Proofs.Tb
