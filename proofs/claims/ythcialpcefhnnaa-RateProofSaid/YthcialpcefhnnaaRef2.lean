/- Contracts of the reference's numbers of any size: the straight-line functions (printed by a program of ours). (With what follows it, in one text.) -/
import Derived.Test.YthcialpcefhnnaaRef1
import Derived.Test.YthcialpcefhnnaaWide2
import Derived.Deep.LoopGhost
import Derived.Deep.DeepCutAuto
set_option linter.unusedVariables false
set_option linter.unusedSimpArgs false
/- Contracts of the reference's numbers of any size: the straight-line functions (printed by a program of ours). -/
namespace Go.Proofs.Tb
open Go.RowKit
attribute [local go_sem] cell_set_same
attribute [local go_sem ↓] Go.wp_at_zero Go.wp_at_succ
theorem s10_neg (x : Int) : s10 (-x) = s10 x := by unfold s10; rw [Int.natAbs_neg]
theorem s10_abs (x : Int) : s10 (x.natAbs : Int) = s10 x := by unfold s10; rw [Int.natAbs_natCast]
theorem s10_add (x y : Int) : s10 (x + y) ≤ s10 x + s10 y + 1 := by
  unfold s10
  have h1 := dl_add BT two_BT x.natAbs y.natAbs (dl BT x.natAbs + dl BT y.natAbs) (by omega) (by omega)
  have h2 := dl_mono BT two_BT (x + y).natAbs (x.natAbs + y.natAbs) (Int.natAbs_add_le x y)
  omega
theorem s10_sub (x y : Int) : s10 (x + -y) ≤ s10 x + s10 y + 1 := by
  have := s10_add x (-y)
  rw [s10_neg] at this
  exact this
theorem s10_mul (x y : Int) : s10 (x * y) ≤ s10 x + s10 y := by
  unfold s10
  rw [Int.natAbs_mul]
  exact dl_mul BT two_BT _ _
theorem s10_small (x : Int) (h : -9223372036854775808 ≤ x) (h' : x ≤ 9223372036854775807) : s10 x ≤ 5 := by unfold s10; exact dl_i64 _ (by omega)
theorem s10_rn (n d : Int) : s10 (rn n d) = s10 n := by unfold rn; split; exact s10_neg n; rfl
theorem s10_rd (d : Int) : s10 (rd d) = s10 d := by unfold rd s10; simp
/-- The type of the reference's fractions. -/
abbrev TQ : TypeId := 40
/-- A fraction's value reads as p/q. -/
def ZQ (w : World) (v : Value) (p q : Int) : Prop := ∃ A n c A' n' c', v = .agg #[.bool (ng p), .slice A n c, .bool (ng q), .slice A' n' c'] ∧ Sl TN w A n c (LZ p.natAbs) ∧ Sl TN w A' n' c' (LZ q.natAbs) ∧ 0 < q
theorem ZQ.below {w w' : World} {v : Value} {p q : Int} (h : ZQ w v p q) (hb : Below w.heap.size w w') : ZQ w' v p q := by
  obtain ⟨A, n, c, A', n', c', hv, h1, h2, hq⟩ := h
  exact ⟨A, n, c, A', n', c', hv, h1.below hb, h2.below hb, hq⟩
set_option maxHeartbeats 800000 in
theorem zsub_any (a b : Value) (az : Int) (bz : Int) (w : World) (ha : ZI w a az) (hb : ZI w b bz) (hs : s10 az ≤ 300000000000) (hs2 : s10 bz ≤ 300000000000) :
    Calls Try.prog 48 #[a, b] w (Ret (fun v w' => ZI w' v (az + -bz)) w) := by
  obtain ⟨aA0, an0, ac0, rfl, ah0⟩ := ha
  obtain ⟨bA0, bn0, bc0, rfl, bh0⟩ := hb
  have aH0 := Lib.hid ah0
  clear ah0
  have bH0 := Lib.hid bh0
  clear bh0
  go_enter Try.func48, Try.ntmps48
  go_wp2
  refine wp_world (fun W0 => Blk W0 (w.heap.size) TZ #[.bool (ng az), .slice aA0 an0 ac0] ∧ Blk W0 (w.heap.size + 1) TZ #[.bool (ng bz), .slice bA0 bn0 bc0] ∧ Blk W0 (w.heap.size + 1 + 1) TZ #[.bool false, .slice none 0 0] ∧ Below w.heap.size w W0) (by exact ⟨((Blk.new_ _ _ rfl).alloc _).alloc _, (Blk.new_ _ _ (by simp)).alloc _, Blk.new_ _ _ (by simp), by go_grown⟩) ?_
  rintro W0 ⟨b0, b1, b2, hbw⟩
  have k0 := fun w' (hh : Held (w.heap.size + 1 + 1) 2 TZ W0 w') => (b0.held hh (by omega)).cells
  have k1 := fun w' (hh : Held (w.heap.size + 1 + 1) 2 TZ W0 w') => (b1.held hh (by omega)).cells
  have hst : Held (w.heap.size + 1 + 1) 2 TZ W0 W0.drew := b2.heldS.drew
  have r1 := (rules (w.heap.size + 1 + 1) 2 TZ W0).some
  have r2 := (rules (w.heap.size + 1 + 1) 2 TZ W0).free
  simp only [cellsAre, Nat.zero_add, Nat.reduceAdd, and_true] at k0 k1
  clear b0 b1 b2
  have bw0 : Below w.heap.size w W0.drew := hbw.drew
  go_region_held3 (fun w' => Held (w.heap.size + 1 + 1) 2 TZ W0 w') (first | assumption | exact Held.trans_ (by assumption) (by assumption) | exact Held.set_ (Held.set_ ((by assumption)) _ _) _ _)
    (first | (go_at_call 56; have tk := hb1; refine (zadd_any _ _ (az) (-bz) _ ⟨_, _, _, rfl, (aH0.out.below bw1)⟩ ⟨_, _, _, rfl, hx1_0⟩ (by have z0 := s10_neg (bz); omega) (by have z0 := s10_neg (bz); omega)).mono ?_; rintro e w2 ⟨v2, rfl, ⟨A2_0, n2_0, c2_0, rfl, hx2_0⟩, hb2⟩; have hh2 : Held (w.heap.size + 1 + 1) 2 TZ W0 w2 := hh1.trans_ hb2; have bw2 := bt bw1 hb2) | (go_at_call 68; refine (zneg_any _ (bz) _ ⟨_, _, _, rfl, (bH0.out.below bw0)⟩).mono ?_; rintro e w1 ⟨v1, rfl, ⟨A1_0, n1_0, c1_0, rfl, hx1_0⟩, hb1⟩; have hh1 : Held (w.heap.size + 1 + 1) 2 TZ W0 w1 := hst.trans_ hb1; have bw1 := bt bw0 hb1))
  go_wp2
  (try simp only [Exit.inBlock, Exit.then])
  refine bodyPost_ret (v := .agg #[.bool (ng (az + (-bz))), .slice A2_0 n2_0 c2_0]) (by simp [results, Try.results48, go_sem, r1 _ hh2]) rfl ?_
  have hst2 := Held.set_ (Held.set_ (hh2.here) 0 (.bool (ng (az + (-bz))))) 1 (.slice A2_0 n2_0 c2_0)
  exact ⟨_, rfl, ⟨_, _, _, rfl, (hx2_0).held hst2 (by decide)⟩, (hh2.trans2 hst2).below hbw (by omega)⟩

set_option maxHeartbeats 800000 in
theorem zcmp_any (a b : Value) (az : Int) (bz : Int) (w : World) (ha : ZI w a az) (hb : ZI w b bz) (hs : s10 az ≤ 300000000000) (hs2 : s10 bz ≤ 300000000000) :
    Calls Try.prog 24 #[a, b] w (Ret (fun v _ => v = .int .i64 (Int.sign (az + -bz))) w) := by
  obtain ⟨aA0, an0, ac0, rfl, ah0⟩ := ha
  obtain ⟨bA0, bn0, bc0, rfl, bh0⟩ := hb
  have aH0 := Lib.hid ah0
  clear ah0
  have bH0 := Lib.hid bh0
  clear bh0
  go_enter Try.func24, Try.ntmps24
  go_wp2_with fail
  obtain ⟨W0, hW0⟩ : ∃ W0, W0 = ((w).alloc (.cells #[.bool (ng az), .slice aA0 an0 ac0] TZ)).alloc (.cells #[.bool (ng bz), .slice bA0 bn0 bc0] TZ) := ⟨_, rfl⟩
  have b0 : Blk W0 (w.heap.size) TZ #[.bool (ng az), .slice aA0 an0 ac0] := by rw [hW0]; exact (Blk.new_ _ _ rfl).alloc _
  have b1 : Blk W0 (w.heap.size + 1) TZ #[.bool (ng bz), .slice bA0 bn0 bc0] := by rw [hW0]; exact Blk.new_ _ _ (by simp)
  have hbw : Below w.heap.size w W0 := by rw [hW0]; go_grown
  rw [← hW0]
  clear hW0
  have k0 := fun w' (hh : Ext W0 w') => (b0.below hh).cells
  have k1 := fun w' (hh : Ext W0 w') => (b1.below hh).cells
  have hst : Ext W0 W0 := Ext.refl _
  simp only [cellsAre, Nat.zero_add, Nat.reduceAdd, and_true] at k0 k1
  clear b0 b1
  have bw0 : Below w.heap.size w W0 := hbw
  refine (zsub_any _ _ (az) (bz) _ ⟨_, _, _, rfl, (aH0.out.below bw0)⟩ ⟨_, _, _, rfl, (bH0.out.below bw0)⟩ (by omega) (by omega)).mono ?_; rintro e w1 ⟨v1, rfl, ⟨A1_0, n1_0, c1_0, rfl, hx1_0⟩, hb1⟩; have hh1 : Ext W0 w1 := bt hst hb1; have bw1 := bt bw0 hb1
  go_wp2_with (first | (go_at_call 47; have tk := hb1; refine (zsign_any _ (az + -bz) _ ⟨_, _, _, rfl, hx1_0⟩).mono ?_; rintro e w2 ⟨v2, rfl, rfl, hb2⟩; have hh2 : Ext W0 w2 := bt hh1 hb2; have bw2 := bt bw1 hb2))
  go_returns
  exact ⟨_, rfl, rfl, bw2⟩

set_option maxHeartbeats 800000 in
theorem zwhole_any (n : Int) (w : World)  (h1 : -9223372036854775808 ≤ n) (h2 : n ≤ 9223372036854775807) :
    Calls Try.prog 57 #[.int .i64 n] w (Ret (fun v w' => ZQ w' v (n) (1)) w) := by
  go_enter Try.func57, Try.ntmps57
  go_wp2_with fail
  obtain ⟨W0, hW0⟩ : ∃ W0, W0 = (w).alloc (.cells #[.bool false, .slice none 0 0, .bool false, .slice none 0 0] TQ) := ⟨_, rfl⟩
  have b0 : Blk W0 (w.heap.size) TQ #[.bool false, .slice none 0 0, .bool false, .slice none 0 0] := by rw [hW0]; exact Blk.new_ _ _ rfl
  have hbw : Below w.heap.size w W0 := by rw [hW0]; go_grown
  rw [← hW0]
  clear hW0
  have hst : Held (w.heap.size) 4 TQ W0 W0 := b0.heldS
  have r1 := (rules (w.heap.size) 4 TQ W0).some
  have r2 := (rules (w.heap.size) 4 TQ W0).free
  clear b0
  have bw0 : Below w.heap.size w W0 := hbw
  refine (zint_any (n) _ (by omega) (by omega)).mono ?_; rintro e w1 ⟨v1, rfl, ⟨A1_0, n1_0, c1_0, rfl, hx1_0⟩, hb1⟩; have hh1 : Held (w.heap.size) 4 TQ W0 w1 := hst.trans_ hb1; have bw1 := bt bw0 hb1
  go_wp2_with (first | (go_at_call 26; have tk := hb1; refine (zint_any (1) _ (by omega) (by omega)).mono ?_; rintro e w2 ⟨v2, rfl, ⟨A2_0, n2_0, c2_0, rfl, hx2_0⟩, hb2⟩; have hh2 : Held (w.heap.size) 4 TQ W0 w2 := hh1.trans_ hb2; have bw2 := bt bw1 hb2))
  (try simp only [Exit.inBlock, Exit.then])
  refine bodyPost_ret (v := .agg #[.bool (ng (n)), .slice A1_0 n1_0 c1_0, .bool (ng (1)), .slice A2_0 n2_0 c2_0]) (by simp [results, Try.results57, go_sem, r1 _ hh2]) rfl ?_
  have hst2 := Held.set_ (Held.set_ (Held.set_ (Held.set_ (hh2.here) 0 (.bool (ng (n)))) 1 (.slice A1_0 n1_0 c1_0)) 2 (.bool (ng (1)))) 3 (.slice A2_0 n2_0 c2_0)
  exact ⟨_, rfl, ⟨_, _, _, _, _, _, rfl, ((hx1_0.below hb2)).held hst2 (by decide), (hx2_0).held hst2 (by decide), (by decide)⟩, (hh2.trans2 hst2).below hbw (by omega)⟩

set_option maxHeartbeats 800000 in
theorem zqmul_any (a b : Value) (ap aq : Int) (bp bq : Int) (w : World) (ha : ZQ w a ap aq) (hb : ZQ w b bp bq) (hs : s10 ap + s10 aq + s10 bp + s10 bq ≤ 100000000000) :
    Calls Try.prog 54 #[a, b] w (Ret (fun v w' => ZQ w' v (ap * bp) (aq * bq)) w) := by
  obtain ⟨aA0, an0, ac0, aA1, an1, ac1, rfl, ah0, ah1, apos0⟩ := ha
  obtain ⟨bA0, bn0, bc0, bA1, bn1, bc1, rfl, bh0, bh1, bpos0⟩ := hb
  have aH0 := Lib.hid ah0
  clear ah0
  have aH1 := Lib.hid ah1
  clear ah1
  have aP0 := Lib.hid apos0
  clear apos0
  have bH0 := Lib.hid bh0
  clear bh0
  have bH1 := Lib.hid bh1
  clear bh1
  have bP0 := Lib.hid bpos0
  clear bpos0
  go_enter Try.func54, Try.ntmps54
  go_wp2
  refine wp_world (fun W0 => Blk W0 (w.heap.size) TQ #[.bool (ng ap), .slice aA0 an0 ac0, .bool (ng aq), .slice aA1 an1 ac1] ∧ Blk W0 (w.heap.size + 1) TQ #[.bool (ng bp), .slice bA0 bn0 bc0, .bool (ng bq), .slice bA1 bn1 bc1] ∧ Blk W0 (w.heap.size + 1 + 1) TQ #[.bool false, .slice none 0 0, .bool false, .slice none 0 0] ∧ Below w.heap.size w W0) (by exact ⟨((Blk.new_ _ _ rfl).alloc _).alloc _, (Blk.new_ _ _ (by simp)).alloc _, Blk.new_ _ _ (by simp), by go_grown⟩) ?_
  rintro W0 ⟨b0, b1, b2, hbw⟩
  have k0 := fun w' (hh : Held (w.heap.size + 1 + 1) 4 TQ W0 w') => (b0.held hh (by omega)).cells
  have k1 := fun w' (hh : Held (w.heap.size + 1 + 1) 4 TQ W0 w') => (b1.held hh (by omega)).cells
  have hst : Held (w.heap.size + 1 + 1) 4 TQ W0 W0.drew := b2.heldS.drew
  have r1 := (rules (w.heap.size + 1 + 1) 4 TQ W0).some
  have r2 := (rules (w.heap.size + 1 + 1) 4 TQ W0).free
  simp only [cellsAre, Nat.zero_add, Nat.reduceAdd, and_true] at k0 k1
  clear b0 b1 b2
  have bw0 : Below w.heap.size w W0.drew := hbw.drew
  go_region_held3 (fun w' => Held (w.heap.size + 1 + 1) 4 TQ W0 w') (first | assumption | exact Held.trans_ (by assumption) (by assumption) | exact Held.set_ (Held.set_ (Held.set_ (Held.set_ ((by assumption)) _ _) _ _) _ _) _ _)
    (first | (go_at_call 55; have tk := hb1; refine (zmul_any _ _ (aq) (bq) _ ⟨_, _, _, rfl, (aH1.out.below bw1)⟩ ⟨_, _, _, rfl, (bH1.out.below bw1)⟩ (by have z0 := s10_mul (ap) (bp); omega)).mono ?_; rintro e w2 ⟨v2, rfl, ⟨A2_0, n2_0, c2_0, rfl, hx2_0⟩, hb2⟩; have hh2 : Held (w.heap.size + 1 + 1) 4 TQ W0 w2 := hh1.trans_ hb2; have bw2 := bt bw1 hb2) | (go_at_call 55; refine (zmul_any _ _ (ap) (bp) _ ⟨_, _, _, rfl, (aH0.out.below bw0)⟩ ⟨_, _, _, rfl, (bH0.out.below bw0)⟩ (by omega)).mono ?_; rintro e w1 ⟨v1, rfl, ⟨A1_0, n1_0, c1_0, rfl, hx1_0⟩, hb1⟩; have hh1 : Held (w.heap.size + 1 + 1) 4 TQ W0 w1 := hst.trans_ hb1; have bw1 := bt bw0 hb1))
  go_wp2
  (try simp only [Exit.inBlock, Exit.then])
  refine bodyPost_ret (v := .agg #[.bool (ng (ap * bp)), .slice A1_0 n1_0 c1_0, .bool (ng (aq * bq)), .slice A2_0 n2_0 c2_0]) (by simp [results, Try.results54, go_sem, r1 _ hh2]) rfl ?_
  have hst2 := Held.set_ (Held.set_ (Held.set_ (Held.set_ (hh2.here) 0 (.bool (ng (ap * bp)))) 1 (.slice A1_0 n1_0 c1_0)) 2 (.bool (ng (aq * bq)))) 3 (.slice A2_0 n2_0 c2_0)
  exact ⟨_, rfl, ⟨_, _, _, _, _, _, rfl, ((hx1_0.below hb2)).held hst2 (by decide), (hx2_0).held hst2 (by decide), Int.mul_pos aP0.out bP0.out⟩, (hh2.trans2 hst2).below hbw (by omega)⟩

set_option maxHeartbeats 800000 in
theorem zqadd_any (a b : Value) (ap aq : Int) (bp bq : Int) (w : World) (ha : ZQ w a ap aq) (hb : ZQ w b bp bq) (hs : s10 ap + s10 aq + s10 bp + s10 bq ≤ 100000000000) :
    Calls Try.prog 32 #[a, b] w (Ret (fun v w' => ZQ w' v (ap * bq + bp * aq) (aq * bq)) w) := by
  obtain ⟨aA0, an0, ac0, aA1, an1, ac1, rfl, ah0, ah1, apos0⟩ := ha
  obtain ⟨bA0, bn0, bc0, bA1, bn1, bc1, rfl, bh0, bh1, bpos0⟩ := hb
  have aH0 := Lib.hid ah0
  clear ah0
  have aH1 := Lib.hid ah1
  clear ah1
  have aP0 := Lib.hid apos0
  clear apos0
  have bH0 := Lib.hid bh0
  clear bh0
  have bH1 := Lib.hid bh1
  clear bh1
  have bP0 := Lib.hid bpos0
  clear bpos0
  go_enter Try.func32, Try.ntmps32
  go_wp2
  refine wp_world (fun W0 => Blk W0 (w.heap.size) TQ #[.bool (ng ap), .slice aA0 an0 ac0, .bool (ng aq), .slice aA1 an1 ac1] ∧ Blk W0 (w.heap.size + 1) TQ #[.bool (ng bp), .slice bA0 bn0 bc0, .bool (ng bq), .slice bA1 bn1 bc1] ∧ Blk W0 (w.heap.size + 1 + 1) TQ #[.bool false, .slice none 0 0, .bool false, .slice none 0 0] ∧ Below w.heap.size w W0) (by exact ⟨((Blk.new_ _ _ rfl).alloc _).alloc _, (Blk.new_ _ _ (by simp)).alloc _, Blk.new_ _ _ (by simp), by go_grown⟩) ?_
  rintro W0 ⟨b0, b1, b2, hbw⟩
  have k0 := fun w' (hh : Held (w.heap.size + 1 + 1) 4 TQ W0 w') => (b0.held hh (by omega)).cells
  have k1 := fun w' (hh : Held (w.heap.size + 1 + 1) 4 TQ W0 w') => (b1.held hh (by omega)).cells
  have hst : Held (w.heap.size + 1 + 1) 4 TQ W0 W0.drew := b2.heldS.drew
  have r1 := (rules (w.heap.size + 1 + 1) 4 TQ W0).some
  have r2 := (rules (w.heap.size + 1 + 1) 4 TQ W0).free
  simp only [cellsAre, Nat.zero_add, Nat.reduceAdd, and_true] at k0 k1
  clear b0 b1 b2
  have bw0 : Below w.heap.size w W0.drew := hbw.drew
  go_region_held3 (fun w' => Held (w.heap.size + 1 + 1) 4 TQ W0 w') (first | assumption | exact Held.trans_ (by assumption) (by assumption) | exact Held.set_ (Held.set_ (Held.set_ (Held.set_ ((by assumption)) _ _) _ _) _ _) _ _)
    (first | (go_at_call 55; have tk := hb3; refine (zmul_any _ _ (aq) (bq) _ ⟨_, _, _, rfl, (aH1.out.below bw3)⟩ ⟨_, _, _, rfl, (bH1.out.below bw3)⟩ (by have z0 := s10_mul (ap) (bq); have z1 := s10_mul (bp) (aq); have z2 := s10_add (ap * bq) (bp * aq); omega)).mono ?_; rintro e w4 ⟨v4, rfl, ⟨A4_0, n4_0, c4_0, rfl, hx4_0⟩, hb4⟩; have hh4 : Held (w.heap.size + 1 + 1) 4 TQ W0 w4 := hh3.trans_ hb4; have bw4 := bt bw3 hb4) | (go_at_call 56; have tk := hb2; refine (zadd_any _ _ (ap * bq) (bp * aq) _ ⟨_, _, _, rfl, (hx1_0.below hb2)⟩ ⟨_, _, _, rfl, hx2_0⟩ (by have z0 := s10_mul (ap) (bq); have z1 := s10_mul (bp) (aq); omega) (by have z0 := s10_mul (ap) (bq); have z1 := s10_mul (bp) (aq); omega)).mono ?_; rintro e w3 ⟨v3, rfl, ⟨A3_0, n3_0, c3_0, rfl, hx3_0⟩, hb3⟩; have hh3 : Held (w.heap.size + 1 + 1) 4 TQ W0 w3 := hh2.trans_ hb3; have bw3 := bt bw2 hb3) | (go_at_call 55; have tk := hb1; refine (zmul_any _ _ (bp) (aq) _ ⟨_, _, _, rfl, (bH0.out.below bw1)⟩ ⟨_, _, _, rfl, (aH1.out.below bw1)⟩ (by have z0 := s10_mul (ap) (bq); omega)).mono ?_; rintro e w2 ⟨v2, rfl, ⟨A2_0, n2_0, c2_0, rfl, hx2_0⟩, hb2⟩; have hh2 : Held (w.heap.size + 1 + 1) 4 TQ W0 w2 := hh1.trans_ hb2; have bw2 := bt bw1 hb2) | (go_at_call 55; refine (zmul_any _ _ (ap) (bq) _ ⟨_, _, _, rfl, (aH0.out.below bw0)⟩ ⟨_, _, _, rfl, (bH1.out.below bw0)⟩ (by omega)).mono ?_; rintro e w1 ⟨v1, rfl, ⟨A1_0, n1_0, c1_0, rfl, hx1_0⟩, hb1⟩; have hh1 : Held (w.heap.size + 1 + 1) 4 TQ W0 w1 := hst.trans_ hb1; have bw1 := bt bw0 hb1))
  go_wp2
  (try simp only [Exit.inBlock, Exit.then])
  refine bodyPost_ret (v := .agg #[.bool (ng ((ap * bq) + (bp * aq))), .slice A3_0 n3_0 c3_0, .bool (ng (aq * bq)), .slice A4_0 n4_0 c4_0]) (by simp [results, Try.results32, go_sem, r1 _ hh4]) rfl ?_
  have hst2 := Held.set_ (Held.set_ (Held.set_ (Held.set_ (hh4.here) 0 (.bool (ng ((ap * bq) + (bp * aq))))) 1 (.slice A3_0 n3_0 c3_0)) 2 (.bool (ng (aq * bq)))) 3 (.slice A4_0 n4_0 c4_0)
  exact ⟨_, rfl, ⟨_, _, _, _, _, _, rfl, ((hx3_0.below hb4)).held hst2 (by decide), (hx4_0).held hst2 (by decide), Int.mul_pos aP0.out bP0.out⟩, (hh4.trans2 hst2).below hbw (by omega)⟩

set_option maxHeartbeats 800000 in
theorem zqsub_any (a b : Value) (ap aq : Int) (bp bq : Int) (w : World) (ha : ZQ w a ap aq) (hb : ZQ w b bp bq) (hs : s10 ap + s10 aq + s10 bp + s10 bq ≤ 100000000000) :
    Calls Try.prog 53 #[a, b] w (Ret (fun v w' => ZQ w' v (ap * bq + -(bp * aq)) (aq * bq)) w) := by
  obtain ⟨aA0, an0, ac0, aA1, an1, ac1, rfl, ah0, ah1, apos0⟩ := ha
  obtain ⟨bA0, bn0, bc0, bA1, bn1, bc1, rfl, bh0, bh1, bpos0⟩ := hb
  have aH0 := Lib.hid ah0
  clear ah0
  have aH1 := Lib.hid ah1
  clear ah1
  have aP0 := Lib.hid apos0
  clear apos0
  have bH0 := Lib.hid bh0
  clear bh0
  have bH1 := Lib.hid bh1
  clear bh1
  have bP0 := Lib.hid bpos0
  clear bpos0
  go_enter Try.func53, Try.ntmps53
  go_wp2
  refine wp_world (fun W0 => Blk W0 (w.heap.size) TQ #[.bool (ng ap), .slice aA0 an0 ac0, .bool (ng aq), .slice aA1 an1 ac1] ∧ Blk W0 (w.heap.size + 1) TQ #[.bool (ng bp), .slice bA0 bn0 bc0, .bool (ng bq), .slice bA1 bn1 bc1] ∧ Blk W0 (w.heap.size + 1 + 1) TQ #[.bool false, .slice none 0 0, .bool false, .slice none 0 0] ∧ Below w.heap.size w W0) (by exact ⟨((Blk.new_ _ _ rfl).alloc _).alloc _, (Blk.new_ _ _ (by simp)).alloc _, Blk.new_ _ _ (by simp), by go_grown⟩) ?_
  rintro W0 ⟨b0, b1, b2, hbw⟩
  have k0 := fun w' (hh : Held (w.heap.size + 1 + 1) 4 TQ W0 w') => (b0.held hh (by omega)).cells
  have k1 := fun w' (hh : Held (w.heap.size + 1 + 1) 4 TQ W0 w') => (b1.held hh (by omega)).cells
  have hst : Held (w.heap.size + 1 + 1) 4 TQ W0 W0.drew := b2.heldS.drew
  have r1 := (rules (w.heap.size + 1 + 1) 4 TQ W0).some
  have r2 := (rules (w.heap.size + 1 + 1) 4 TQ W0).free
  simp only [cellsAre, Nat.zero_add, Nat.reduceAdd, and_true] at k0 k1
  clear b0 b1 b2
  have bw0 : Below w.heap.size w W0.drew := hbw.drew
  go_region_held3 (fun w' => Held (w.heap.size + 1 + 1) 4 TQ W0 w') (first | assumption | exact Held.trans_ (by assumption) (by assumption) | exact Held.set_ (Held.set_ (Held.set_ (Held.set_ ((by assumption)) _ _) _ _) _ _) _ _)
    (first | (go_at_call 55; have tk := hb3; refine (zmul_any _ _ (aq) (bq) _ ⟨_, _, _, rfl, (aH1.out.below bw3)⟩ ⟨_, _, _, rfl, (bH1.out.below bw3)⟩ (by have z0 := s10_mul (ap) (bq); have z1 := s10_mul (bp) (aq); have z2 := s10_sub (ap * bq) (bp * aq); omega)).mono ?_; rintro e w4 ⟨v4, rfl, ⟨A4_0, n4_0, c4_0, rfl, hx4_0⟩, hb4⟩; have hh4 : Held (w.heap.size + 1 + 1) 4 TQ W0 w4 := hh3.trans_ hb4; have bw4 := bt bw3 hb4) | (go_at_call 48; have tk := hb2; refine (zsub_any _ _ (ap * bq) (bp * aq) _ ⟨_, _, _, rfl, (hx1_0.below hb2)⟩ ⟨_, _, _, rfl, hx2_0⟩ (by have z0 := s10_mul (ap) (bq); have z1 := s10_mul (bp) (aq); omega) (by have z0 := s10_mul (ap) (bq); have z1 := s10_mul (bp) (aq); omega)).mono ?_; rintro e w3 ⟨v3, rfl, ⟨A3_0, n3_0, c3_0, rfl, hx3_0⟩, hb3⟩; have hh3 : Held (w.heap.size + 1 + 1) 4 TQ W0 w3 := hh2.trans_ hb3; have bw3 := bt bw2 hb3) | (go_at_call 55; have tk := hb1; refine (zmul_any _ _ (bp) (aq) _ ⟨_, _, _, rfl, (bH0.out.below bw1)⟩ ⟨_, _, _, rfl, (aH1.out.below bw1)⟩ (by have z0 := s10_mul (ap) (bq); omega)).mono ?_; rintro e w2 ⟨v2, rfl, ⟨A2_0, n2_0, c2_0, rfl, hx2_0⟩, hb2⟩; have hh2 : Held (w.heap.size + 1 + 1) 4 TQ W0 w2 := hh1.trans_ hb2; have bw2 := bt bw1 hb2) | (go_at_call 55; refine (zmul_any _ _ (ap) (bq) _ ⟨_, _, _, rfl, (aH0.out.below bw0)⟩ ⟨_, _, _, rfl, (bH1.out.below bw0)⟩ (by omega)).mono ?_; rintro e w1 ⟨v1, rfl, ⟨A1_0, n1_0, c1_0, rfl, hx1_0⟩, hb1⟩; have hh1 : Held (w.heap.size + 1 + 1) 4 TQ W0 w1 := hst.trans_ hb1; have bw1 := bt bw0 hb1))
  go_wp2
  (try simp only [Exit.inBlock, Exit.then])
  refine bodyPost_ret (v := .agg #[.bool (ng ((ap * bq) + -(bp * aq))), .slice A3_0 n3_0 c3_0, .bool (ng (aq * bq)), .slice A4_0 n4_0 c4_0]) (by simp [results, Try.results53, go_sem, r1 _ hh4]) rfl ?_
  have hst2 := Held.set_ (Held.set_ (Held.set_ (Held.set_ (hh4.here) 0 (.bool (ng ((ap * bq) + -(bp * aq))))) 1 (.slice A3_0 n3_0 c3_0)) 2 (.bool (ng (aq * bq)))) 3 (.slice A4_0 n4_0 c4_0)
  exact ⟨_, rfl, ⟨_, _, _, _, _, _, rfl, ((hx3_0.below hb4)).held hst2 (by decide), (hx4_0).held hst2 (by decide), Int.mul_pos aP0.out bP0.out⟩, (hh4.trans2 hst2).below hbw (by omega)⟩

set_option maxHeartbeats 800000 in
theorem zqcmp_any (a b : Value) (ap aq : Int) (bp bq : Int) (w : World) (ha : ZQ w a ap aq) (hb : ZQ w b bp bq) (hs : s10 ap + s10 aq + s10 bp + s10 bq ≤ 100000000000) :
    Calls Try.prog 30 #[a, b] w (Ret (fun v _ => v = .int .i64 (Int.sign (ap * bq + -(bp * aq)))) w) := by
  obtain ⟨aA0, an0, ac0, aA1, an1, ac1, rfl, ah0, ah1, apos0⟩ := ha
  obtain ⟨bA0, bn0, bc0, bA1, bn1, bc1, rfl, bh0, bh1, bpos0⟩ := hb
  have aH0 := Lib.hid ah0
  clear ah0
  have aH1 := Lib.hid ah1
  clear ah1
  have aP0 := Lib.hid apos0
  clear apos0
  have bH0 := Lib.hid bh0
  clear bh0
  have bH1 := Lib.hid bh1
  clear bh1
  have bP0 := Lib.hid bpos0
  clear bpos0
  go_enter Try.func30, Try.ntmps30
  go_wp2
  refine wp_world (fun W0 => Blk W0 (w.heap.size) TQ #[.bool (ng ap), .slice aA0 an0 ac0, .bool (ng aq), .slice aA1 an1 ac1] ∧ Blk W0 (w.heap.size + 1) TQ #[.bool (ng bp), .slice bA0 bn0 bc0, .bool (ng bq), .slice bA1 bn1 bc1] ∧ Below w.heap.size w W0) (by exact ⟨(Blk.new_ _ _ rfl).alloc _, Blk.new_ _ _ (by simp), by go_grown⟩) ?_
  rintro W0 ⟨b0, b1, hbw⟩
  have k0 := fun w' (hh : Ext W0 w') => (b0.below hh).cells
  have k1 := fun w' (hh : Ext W0 w') => (b1.below hh).cells
  have hst : Ext W0 W0.drew := Ext.drew _
  simp only [cellsAre, Nat.zero_add, Nat.reduceAdd, and_true] at k0 k1
  clear b0 b1
  have bw0 : Below w.heap.size w W0.drew := hbw.drew
  go_region_held3 (fun w' => Ext W0 w') (first | assumption | exact bt (by assumption) (by assumption))
    (first | (go_at_call 24; have tk := hb2; refine (zcmp_any _ _ (ap * bq) (bp * aq) _ ⟨_, _, _, rfl, (hx1_0.below hb2)⟩ ⟨_, _, _, rfl, hx2_0⟩ (by have z0 := s10_mul (ap) (bq); have z1 := s10_mul (bp) (aq); omega) (by have z0 := s10_mul (ap) (bq); have z1 := s10_mul (bp) (aq); omega)).mono ?_; rintro e w3 ⟨v3, rfl, rfl, hb3⟩; have hh3 : Ext W0 w3 := bt hh2 hb3; have bw3 := bt bw2 hb3) | (go_at_call 55; have tk := hb1; refine (zmul_any _ _ (bp) (aq) _ ⟨_, _, _, rfl, (bH0.out.below bw1)⟩ ⟨_, _, _, rfl, (aH1.out.below bw1)⟩ (by have z0 := s10_mul (ap) (bq); omega)).mono ?_; rintro e w2 ⟨v2, rfl, ⟨A2_0, n2_0, c2_0, rfl, hx2_0⟩, hb2⟩; have hh2 : Ext W0 w2 := bt hh1 hb2; have bw2 := bt bw1 hb2) | (go_at_call 55; refine (zmul_any _ _ (ap) (bq) _ ⟨_, _, _, rfl, (aH0.out.below bw0)⟩ ⟨_, _, _, rfl, (bH1.out.below bw0)⟩ (by omega)).mono ?_; rintro e w1 ⟨v1, rfl, ⟨A1_0, n1_0, c1_0, rfl, hx1_0⟩, hb1⟩; have hh1 : Ext W0 w1 := bt hst hb1; have bw1 := bt bw0 hb1))
  go_wp2
  go_returns
  exact ⟨_, rfl, rfl, bw3⟩

set_option maxHeartbeats 800000 in
theorem zqabs_any (a : Value) (ap aq : Int) (w : World) (ha : ZQ w a ap aq) :
    Calls Try.prog 31 #[a] w (Ret (fun v w' => ZQ w' v ((ap.natAbs : Int)) (aq)) w) := by
  obtain ⟨aA0, an0, ac0, aA1, an1, ac1, rfl, ah0, ah1, apos0⟩ := ha
  have aH0 := Lib.hid ah0
  clear ah0
  have aH1 := Lib.hid ah1
  clear ah1
  have aP0 := Lib.hid apos0
  clear apos0
  go_enter Try.func31, Try.ntmps31
  go_wp2
  refine wp_world (fun W0 => Blk W0 (w.heap.size) TQ #[.bool (ng ap), .slice aA0 an0 ac0, .bool (ng aq), .slice aA1 an1 ac1] ∧ Blk W0 (w.heap.size + 1) TQ #[.bool false, .slice none 0 0, .bool false, .slice none 0 0] ∧ Below w.heap.size w W0) (by exact ⟨(Blk.new_ _ _ rfl).alloc _, Blk.new_ _ _ (by simp), by go_grown⟩) ?_
  rintro W0 ⟨b0, b1, hbw⟩
  have k0 := fun w' (hh : Held (w.heap.size + 1) 4 TQ W0 w') => (b0.held hh (by omega)).cells
  have hst : Held (w.heap.size + 1) 4 TQ W0 W0.drew := b1.heldS.drew
  have r1 := (rules (w.heap.size + 1) 4 TQ W0).some
  have r2 := (rules (w.heap.size + 1) 4 TQ W0).free
  simp only [cellsAre, Nat.zero_add, Nat.reduceAdd, and_true] at k0
  clear b0 b1
  have bw0 : Below w.heap.size w W0.drew := hbw.drew
  go_region_held3 (fun w' => Held (w.heap.size + 1) 4 TQ W0 w') (first | assumption | exact Held.trans_ (by assumption) (by assumption) | exact Held.set_ (Held.set_ (Held.set_ (Held.set_ ((by assumption)) _ _) _ _) _ _) _ _)
    (first | (go_at_call 49; refine (zabs_any _ (ap) _ ⟨_, _, _, rfl, (aH0.out.below bw0)⟩).mono ?_; rintro e w1 ⟨v1, rfl, ⟨A1_0, n1_0, c1_0, rfl, hx1_0⟩, hb1⟩; have hh1 : Held (w.heap.size + 1) 4 TQ W0 w1 := hst.trans_ hb1; have bw1 := bt bw0 hb1))
  go_wp2
  (try simp only [Exit.inBlock, Exit.then])
  refine bodyPost_ret (v := .agg #[.bool (ng ((ap.natAbs : Int))), .slice A1_0 n1_0 c1_0, .bool (ng aq), .slice aA1 an1 ac1]) (by simp [results, Try.results31, go_sem, r1 _ hh1]) rfl ?_
  have hst2 := Held.set_ (Held.set_ (Held.set_ (Held.set_ (hh1.here) 0 (.bool (ng ((ap.natAbs : Int))))) 1 (.slice A1_0 n1_0 c1_0)) 2 (.bool (ng aq))) 3 (.slice aA1 an1 ac1)
  exact ⟨_, rfl, ⟨_, _, _, _, _, _, rfl, (hx1_0).held hst2 (by decide), ((aH1.out.below bw1)).held hst2 (by decide), aP0.out⟩, (hh1.trans2 hst2).below hbw (by omega)⟩

set_option maxHeartbeats 800000 in
theorem zof_any (xn xd : Int) (w : World)  (h1 : -9223372036854775808 ≤ xn) (h2 : xn ≤ 9223372036854775807) (h3 : 0 < xd) (h4 : xd ≤ 9223372036854775807) :
    Calls Try.prog 11 #[.agg #[.int .i64 xn, .int .i64 xd]] w (Ret (fun v w' => ZQ w' v (xn) (xd)) w) := by
  go_enter Try.func11, Try.ntmps11
  go_wp2
  refine wp_world (fun W0 => Blk W0 (w.heap.size) TF #[.int .i64 xn, .int .i64 xd] ∧ Blk W0 (w.heap.size + 1) TQ #[.bool false, .slice none 0 0, .bool false, .slice none 0 0] ∧ Below w.heap.size w W0) (by exact ⟨(Blk.new_ _ _ rfl).alloc _, Blk.new_ _ _ (by simp), by go_grown⟩) ?_
  rintro W0 ⟨b0, b1, hbw⟩
  have k0 := fun w' (hh : Held (w.heap.size + 1) 4 TQ W0 w') => (b0.held hh (by omega)).cells
  have hst : Held (w.heap.size + 1) 4 TQ W0 W0.drew := b1.heldS.drew
  have r1 := (rules (w.heap.size + 1) 4 TQ W0).some
  have r2 := (rules (w.heap.size + 1) 4 TQ W0).free
  simp only [cellsAre, Nat.zero_add, Nat.reduceAdd, and_true] at k0
  clear b0 b1
  have bw0 : Below w.heap.size w W0.drew := hbw.drew
  go_region_held3 (fun w' => Held (w.heap.size + 1) 4 TQ W0 w') (first | assumption | exact Held.trans_ (by assumption) (by assumption) | exact Held.set_ (Held.set_ (Held.set_ (Held.set_ ((by assumption)) _ _) _ _) _ _) _ _)
    (first | (go_at_call 26; have tk := hb1; refine (zint_any (xd) _ (by omega) (by omega)).mono ?_; rintro e w2 ⟨v2, rfl, ⟨A2_0, n2_0, c2_0, rfl, hx2_0⟩, hb2⟩; have hh2 : Held (w.heap.size + 1) 4 TQ W0 w2 := hh1.trans_ hb2; have bw2 := bt bw1 hb2) | (go_at_call 26; refine (zint_any (xn) _ (by omega) (by omega)).mono ?_; rintro e w1 ⟨v1, rfl, ⟨A1_0, n1_0, c1_0, rfl, hx1_0⟩, hb1⟩; have hh1 : Held (w.heap.size + 1) 4 TQ W0 w1 := hst.trans_ hb1; have bw1 := bt bw0 hb1))
  go_wp2
  (try simp only [Exit.inBlock, Exit.then])
  refine bodyPost_ret (v := .agg #[.bool (ng (xn)), .slice A1_0 n1_0 c1_0, .bool (ng (xd)), .slice A2_0 n2_0 c2_0]) (by simp [results, Try.results11, go_sem, r1 _ hh2]) rfl ?_
  have hst2 := Held.set_ (Held.set_ (Held.set_ (Held.set_ (hh2.here) 0 (.bool (ng (xn)))) 1 (.slice A1_0 n1_0 c1_0)) 2 (.bool (ng (xd)))) 3 (.slice A2_0 n2_0 c2_0)
  exact ⟨_, rfl, ⟨_, _, _, _, _, _, rfl, ((hx1_0.below hb2)).held hst2 (by decide), (hx2_0).held hst2 (by decide), h3⟩, (hh2.trans2 hst2).below hbw (by omega)⟩
end Go.Proofs.Tb
/- Contracts of the reference's numbers of any size: times, Small. -/
namespace Go.Proofs.Tb
open Go.RowKit
attribute [local go_sem] cell_set_same

theorem field_Z1 (b : Bool) (A : Option Addr) (n c : Nat) (w : World) : (Instr.field TZ (.agg #[.bool b, .slice A n c]) 1).run Try.prog w = .ok (.slice A n c) w := by kernel_rfl
attribute [local go_sem] field_Z1
theorem ng_nat (m : Nat) : ng (m : Int) = false := by unfold ng; simp
theorem ZI.of_nat {w : World} {A : Option Addr} {n c m : Nat} (h : Sl TN w A n c (LZ m)) : ZI w (.agg #[.bool false, .slice A n c]) (m : Int) := ⟨A, n, c, by rw [ng_nat], by rw [Int.natAbs_natCast]; exact h⟩
set_option maxHeartbeats 800000 in
set_option maxRecDepth 100000 in
theorem ztimes_any (A : Option Addr) (n c m d : Nat) (w : World) (h : Sl TN w A n c (LZ m)) (hd : d ≤ 10000) (hs : dl BT m ≤ 300000000000) :
    Calls Try.prog 71 #[.slice A n c, .int .i64 (d : Int)] w (Ret (fun v w' => SL TN w' v (LZ (m * d))) w) := by
  have H := Lib.hid h
  have HS := Lib.hid hs
  clear h hs
  have hd5 := s10_small (d : Int) (by omega) (by omega)
  have HD5 := Lib.hid hd5
  clear hd5
  have HMU : Hid (s10 (m : Int) + s10 (d : Int) ≤ 800000000000) := by
    have h1 := HD5.out
    have h2 := HS.out
    have h3 : s10 (m : Int) = dl BT m := by unfold s10; rw [Int.natAbs_natCast]
    show s10 (m : Int) + s10 (d : Int) ≤ 800000000000
    omega
  go_enter Try.func71, Try.ntmps71
  go_wp2_with fail
  refine (zint_any (d : Int) _ (by omega) (by omega)).mono ?_
  rintro e w1 ⟨v1, rfl, hz1, hb1⟩
  go_wp2_with fail
  refine (zmul_any _ _ (m : Int) (d : Int) _ (ZI.of_nat (H.out.below hb1)) hz1 HMU.out).mono ?_
  rintro e w2 ⟨v2, rfl, ⟨A2, n2, c2, rfl, h2⟩, hb2⟩
  have e1 : ((m : Int) * (d : Int)).natAbs = m * d := by rw [Int.natAbs_mul, Int.natAbs_natCast, Int.natAbs_natCast]
  have hn2 : n2 ≤ 1000000000000 := by
    have h3 := h2.lenZ
    rw [e1] at h3
    have h4 := dl_mul BT two_BT m d
    have h5 := HD5.out
    unfold s10 at h5
    rw [Int.natAbs_natCast] at h5
    have := HS.out
    omega
  have H2 := Lib.hid h2
  have HB := Lib.hid (bt hb1 hb2)
  clear h2 hb1 hb2 hz1
  go_wp2_with fail
  refine (zlean_any _ _ _ _ (digs BT ((m : Int) * (d : Int)).natAbs) ((m : Int) * (d : Int)) _ H2.out (digs_dg BT two_BT _) (val_digs BT two_BT _) (Or.inl rfl) hn2).mono ?_
  rintro e w3 ⟨v3, rfl, ⟨A3, n3, c3, rfl, h3⟩, hb3⟩
  have H3 := Lib.hid h3
  have HB3 := Lib.hid (bt HB.out hb3)
  have E1 := Lib.hid e1
  clear h3 hb3 e1 hn2
  go_wp2
  go_returns
  exact ⟨_, rfl, ⟨A3, n3, c3, rfl, by rw [← E1.out]; exact H3.out⟩, HB3.out⟩

theorem cmpN_pos {m m' : Nat} : 0 < cmpN m m' ↔ m' < m := by
  unfold cmpN
  split
  · constructor <;> omega
  · split <;> constructor <;> omega
theorem cmpN_le {m m' : Nat} : cmpN m m' ≤ 0 ↔ m ≤ m' := by
  have := cmpN_pos (m := m) (m' := m')
  omega
theorem val_drop_le (B : Nat) (hB : 0 < B) (xs : List Nat) (k : Nat) : val B (xs.drop k) ≤ val B xs := by
  have h := val_split B xs k
  have h1 : val B (xs.drop k) ≤ B ^ (xs.take k).length * val B (xs.drop k) := Nat.le_mul_of_pos_left _ (Nat.pow_pos hB)
  omega
end Go.Proofs.Tb
/- Contracts of the reference's numbers of any size: DivMod. -/
namespace Go.Proofs.Tb
open Go.RowKit
attribute [local go_sem] cell_set_same
attribute [local go_sem] field_Z1

theorem getD_val (B : Nat) (hB : 2 ≤ B) (xs : List Nat) (hx : Dg B xs) (i : Nat) : xs.getD i 0 = val B xs / B ^ i % B := by
  induction xs generalizing i with
  | nil => simp [val]
  | cons x xs ih =>
    have h0 : x < B := hx x (by simp)
    cases i with
    | zero => simp [val]; exact (Nat.mod_eq_of_lt h0).symm
    | succ i =>
      have := ih (fun y hy => hx y (by simp [hy])) i
      simp only [List.getD_cons_succ, val]
      rw [this, Nat.pow_succ', ← Nat.div_div_eq_div_mul, Nat.add_mul_div_left _ _ (by omega), Nat.div_eq_of_lt h0, Nat.zero_add]
theorem dig_step (B m i d : Nat) (hB : 2 ≤ B) (hd : (digs B m).getD i 0 = d) : m / B ^ i = B * (m / B ^ (i + 1)) + d ∧ d < B := by
  rw [getD_val B hB _ (digs_dg B hB m), val_digs B hB] at hd
  rw [Nat.pow_succ, ← Nat.div_div_eq_div_mul, ← hd]
  exact ⟨(Nat.div_add_mod _ _).symm, Nat.mod_lt _ (by omega)⟩
theorem part10 (B M b d : Nat) (hb : 0 < b) : (B * M + d) % b = (B * (M % b) + d) % b ∧ (B * M + d) / b = B * (M / b) + (B * (M % b) + d) / b := by
  have e : B * M + d = b * (B * (M / b)) + (B * (M % b) + d) := by
    have h := Nat.div_add_mod M b
    have h1 : B * M = B * (b * (M / b) + M % b) := by rw [h]
    rw [h1, Nat.mul_add, ← Nat.mul_assoc, Nat.mul_comm B b, Nat.mul_assoc, Nat.add_assoc]
  rw [e]
  exact ⟨Nat.mul_add_mod _ _ _, Nat.mul_add_div hb _ _⟩
theorem dig_lt (B r b d : Nat) (hr : r < b) (hd : d < B) : B * r + d < B * b := by
  have : B * (r + 1) ≤ B * b := Nat.mul_le_mul_left _ hr
  rw [Nat.mul_add] at this
  omega
theorem low_is (R b l h : Nat) (h1 : b * l ≤ R) (h2 : R < b * h) (h3 : l < h) (h4 : h ≤ l + 1) : R / b = l := by
  have : h = l + 1 := by omega
  subst this
  exact Nat.div_eq_of_lt_le (by rw [Nat.mul_comm]; exact h1) (by rw [Nat.mul_comm]; exact h2)
theorem set_dig (B : Nat) (hB : 2 ≤ B) (qs : List Nat) (hq : Dg B qs) (i Q l : Nat) (hi : i < qs.length) (hv : val B qs = Q * B ^ (i + 1)) : val B (qs.set i l) = (B * Q + l) * B ^ i := by
  have h0 : qs.getD i 0 = 0 := by
    rw [getD_val B hB _ hq, hv, Nat.pow_succ, ← Nat.mul_assoc, Nat.mul_comm (Q * B ^ i) B, Nat.mul_comm Q, ← Nat.mul_assoc, Nat.mul_comm B, Nat.mul_assoc, Nat.mul_div_cancel_left _ (Nat.pow_pos (by omega)), Nat.mul_mod_right]
  have h := val_set_all B qs i l 0 hi h0
  rw [Nat.mul_zero, Nat.add_zero] at h
  rw [h, hv, Nat.pow_succ, Nat.add_mul, Nat.mul_comm B Q, Nat.mul_assoc, Nat.mul_comm (B ^ i) B, Nat.mul_comm l]
theorem neg_div (m b : Nat) (hb : 0 < b) : (m % b = 0 → (-(m : Int)) / (b : Int) = -((m / b : Nat) : Int) ∧ (-(m : Int)) % (b : Int) = 0) ∧
    (0 < m % b → (-(m : Int)) / (b : Int) = -((m / b : Nat) : Int) + -1 ∧ (-(m : Int)) % (b : Int) = (b : Int) + -((m % b : Nat) : Int)) := by
  have h := Nat.div_add_mod m b
  have hl := Nat.mod_lt m hb
  have hc : (b : Int) * ((m / b : Nat) : Int) + ((m % b : Nat) : Int) = (m : Int) := by
    have := congrArg (fun k : Nat => (k : Int)) h
    simpa using this
  constructor
  · intro h0
    have := (Int.ediv_emod_unique (a := -(m : Int)) (b := (b : Int)) (q := -((m / b : Nat) : Int)) (r := 0) (by omega)).2 ⟨by rw [h0] at hc; rw [Int.mul_neg]; omega, by omega, by omega⟩
    exact this
  · intro h0
    have := (Int.ediv_emod_unique (a := -(m : Int)) (b := (b : Int)) (q := -((m / b : Nat) : Int) + -1) (r := (b : Int) + -((m % b : Nat) : Int)) (by omega)).2 ⟨by rw [Int.mul_add, Int.mul_neg]; omega, by omega, by omega⟩
    exact this
/-- Two blocks of numbers that may be written. -/
def HM2 (g0 g1 : Nat) (W0 w : World) : Prop := HeldM [(g0, 2, TZ), (g1, 2, TZ)] W0 w
section
variable {g0 g1 : Nat} {W0 w w' : World}
theorem HM2.start {a0 a1 b0 b1 : Value} (c0 : Blk W0 g0 TZ #[a0, a1]) (c1 : Blk W0 g1 TZ #[b0, b1]) : HM2 g0 g1 W0 W0 := HeldM.mk2 c0 c1
theorem HM2.drew (h : HM2 g0 g1 W0 w) : HM2 g0 g1 W0 w.drew := HeldM.drew h
theorem HM2.trans_ (h : HM2 g0 g1 W0 w) (hb : Below w.heap.size w w') : HM2 g0 g1 W0 w' := HeldM.trans_ h hb
theorem HM2.set0 (h : HM2 g0 g1 W0 w) (j : Nat) (v : Value) : HM2 g0 g1 W0 (w.setCell ⟨g0, j, none⟩ v) := HeldM.set_ h m2_0 j v
theorem HM2.set1 (h : HM2 g0 g1 W0 w) (j : Nat) (v : Value) : HM2 g0 g1 W0 (w.setCell ⟨g1, j, none⟩ v) := HeldM.set_ h m2_1 j v
theorem HM2.blk (h : HM2 g0 g1 W0 w) {g : Nat} {t : TypeId} {cs : Array Value} (hb : Blk W0 g t cs) (n0 : g ≠ g0) (n1 : g ≠ g1) : Blk w g t cs := Blk.heldM hb h (by
  intro r hr
  simp only [List.mem_cons, List.not_mem_nil, or_false] at hr
  rcases hr with rfl | rfl <;> assumption)
theorem HM2.cell0 (h : HM2 g0 g1 W0 w) (j : Nat) (hj : j < 2) : w.cell? ⟨g0, j, none⟩ = some (cnt w g0 j) := rulesM_cell _ W0 g0 2 TZ (.head _) w h j hj
theorem HM2.cell1 (h : HM2 g0 g1 W0 w) (j : Nat) (hj : j < 2) : w.cell? ⟨g1, j, none⟩ = some (cnt w g1 j) := rulesM_cell _ W0 g1 2 TZ (.tail _ (.head _)) w h j hj
theorem HM2.free0 (h : HM2 g0 g1 W0 w) (j : Nat) : w.frozen? ⟨g0, j, none⟩ = false := rulesM_free _ W0 g0 2 TZ (.head _) w h j
theorem HM2.free1 (h : HM2 g0 g1 W0 w) (j : Nat) : w.frozen? ⟨g1, j, none⟩ = false := rulesM_free _ W0 g1 2 TZ (.tail _ (.head _)) w h j
theorem HM2.sl (h : HM2 g0 g1 W0 w) {A : Option Addr} {n c : Nat} {xs : List Value} (hs : Sl TN W0 A n c xs) : Sl TN w A n c xs := Sl.heldM hs h (heldM2_ne (by decide) (by decide))
theorem HM2.here (h : HM2 g0 g1 W0 w) : HM2 g0 g1 w w := HeldM.here h
theorem HM2.trans2 (h : HM2 g0 g1 W0 w) (h' : HM2 g0 g1 w w') : HM2 g0 g1 W0 w' := HeldM.trans2 h h'
theorem HM2.below {w0 : World} (h : HM2 g0 g1 W0 w) (hb : Below w0.heap.size w0 W0) (h0 : w0.heap.size ≤ g0) (h1 : w0.heap.size ≤ g1) : Below w0.heap.size w0 w := HeldM.below h hb (heldM2_ge h0 h1)
end
/-- Quotient, rounded down, and rest. -/
def DM (x y : Int) (v : Value) (w : World) : Prop := ∃ v1 v2, v = .tuple #[v1, v2] ∧ ZI w v1 (x / y) ∧ ZI w v2 (x % y)

/-- m with a sign. -/
def sg (s : Bool) (m : Nat) : Int := if s then -(m : Int) else (m : Int)
set_option maxHeartbeats 6400000 in
set_option maxRecDepth 100000 in
theorem zdivmod_nat (s : Bool) (A : Option Addr) (n c : Nat) (A' : Option Addr) (n' c' : Nat) (m b : Nat) (w : World) (h : Sl TN w A n c (LZ m)) (h' : Sl TN w A' n' c' (LZ b)) (hb : 0 < b) (hsm : s = true → 0 < m)
    (hs : dl BT m ≤ 100000000000) (hs' : dl BT b ≤ 100000000000) :
    Calls Try.prog 50 #[.agg #[.bool s, .slice A n c], .agg #[.bool false, .slice A' n' c']] w (Ret (DM (sg s m) (b : Int)) w) := by
  have hn := h.le
  have hc := h.cap
  have hl := h.lenZ
  have hnb : n ≤ 100000000000 := by omega
  have H := Lib.hid h
  have H' := Lib.hid h'
  have HL := Lib.hid hl
  have HS' := Lib.hid hs'
  have HSM := Lib.hid hsm
  clear h h' hs' hs hl hsm
  have hmk := make_int n (n : Int) rfl (by omega)
  go_enter Try.func50, Try.ntmps50
  go_wp2
  clear hmk
  refine wp_world (fun W0 => Blk W0 w.heap.size TZ #[.bool s, .slice A n c] ∧ Blk W0 (w.heap.size + 1) TZ #[.bool false, .slice A' n' c'] ∧ Blk W0 (w.heap.size + 1 + 1) TZ #[.bool false, .slice none 0 0] ∧ Blk W0 (w.heap.size + 1 + 1 + 1) TZ #[.bool false, .slice none 0 0] ∧ Blk W0 (w.heap.size + 1 + 1 + 1 + 1) TN (zerI n) ∧ Below w.heap.size w W0) (by exact ⟨(((((Blk.new_ _ _ rfl).alloc _).alloc _).alloc _).alloc _).alloc _, ((((Blk.new_ _ _ (by simp)).alloc _).alloc _).alloc _).alloc _, (((Blk.new_ _ _ (by simp)).alloc _).alloc _).alloc _, ((Blk.new_ _ _ (by simp)).alloc _).alloc _, (Blk.new_ _ _ (by simp)).alloc _, by go_grown⟩) ?_
  rintro W0 ⟨b0, b1, b2, b3, b4, hbw⟩
  obtain ⟨G, hG⟩ : ∃ G, w.heap.size + 1 + 1 + 1 + 1 = G := ⟨_, rfl⟩
  rw [hG] at b4 ⊢
  have hG0 : w.heap.size + 1 + 1 + 1 < G := by omega
  clear hG
  have k0 := fun w' (hh : Held G n TN W0 w') => (b0.held hh (by omega)).cells
  have k1 := fun w' (hh : Held G n TN W0 w') => (b1.held hh (by omega)).cells
  simp only [cellsAre, Nat.zero_add, Nat.reduceAdd, and_true] at k0 k1
  have B2 := Lib.hid b2
  have B3 := Lib.hid b3
  have B1 := Lib.hid b1
  have K0 := Lib.hid k0
  have K1 := Lib.hid k1
  have hst : Held G n TN W0 W0 := by have := b4.heldS; simpa [zerI] using this
  have I0 : ZInv W0 G n W0 (List.replicate n 0) := ⟨hst, b4, by simp, Dg.replicate (by unfold BT; omega) _⟩
  have HI0 := Lib.hid I0
  clear b0 b1 b2 b3 b4 k0 k1 hst I0
  go_loopw [7, 8] (fun r i wr => ∃ (k : Nat) (qs : List Nat) (A1 : Option Addr) (n1 c1 : Nat), k ≤ n ∧ i = .int .i64 ((k : Int) - 1) ∧ r = .slice A1 n1 c1 ∧ Sl TN wr A1 n1 c1 (LZ (m / BT ^ k % b)) ∧ ZInv W0 G n wr qs ∧ val BT qs = m / BT ^ k / b * BT ^ k) (fun _ i _ => (intOf i + 1).toNat)
  case atStart =>
    have e0 : m / BT ^ n = 0 := Nat.div_eq_of_lt (by rw [HL.out]; exact lt_pow_dl BT two_BT m)
    refine ⟨n, List.replicate n 0, _, 0, 0, Nat.le_refl _, rfl, rfl, ?_, HI0.out, ?_⟩
    · rw [e0, Nat.zero_mod]; exact Sl.empty _ _ _ 0 (by omega)
    · rw [e0]; simp [val_zeros]
  case round =>
    clear HI0
    obtain ⟨k, qs, A1, n1, c1, hk, rfl, rfl, hr, hI, hv⟩ := hrel
    have hn1 : n1 ≤ 200000000000 := by
      have h1 := hr.lenZ
      have h2 := dl_mono BT two_BT (m / BT ^ k % b) b (Nat.le_of_lt (Nat.mod_lt _ hb))
      have := HS'.out
      omega
    have HR := Lib.hid hr
    have HI := Lib.hid hI
    have HV := Lib.hid hv
    clear hr hI hv
    obtain ⟨e00, e01⟩ := K0.out wr HI.out.held
    obtain ⟨e10, e11⟩ := K1.out wr HI.out.held
    by_cases hk0 : 0 < k
    · obtain ⟨i, rfl⟩ : ∃ i, k = i + 1 := ⟨k - 1, by omega⟩
      have ei : ((i + 1 : Nat) : Int) - 1 = (i : Int) := by omega
      rw [ei]
      clear ei hk0
      have hin : i < n := by omega
      obtain ⟨bb, o, rfl, hcell⟩ := H.out.at_int (by omega)
      have hcx : wr.cell? ⟨bb, o + i, none⟩ = some (.int .i64 (((digs BT m).getD i 0 : Nat) : Int)) := by
        rw [(HI.out.held.below hbw (by omega)).cell (p := ⟨bb, o + i, none⟩) (World.block_lt_of_cell? w _ (hcell i hin))]
        exact hcell i hin
      clear hcell
      obtain ⟨d, hd⟩ : ∃ d, (digs BT m).getD i 0 = d := ⟨_, rfl⟩
      rw [hd] at hcx
      obtain ⟨hst1, hd1⟩ := dig_step BT m i d two_BT hd
      rw [BT_eq] at hd1
      obtain ⟨r0, hr0⟩ : ∃ r0, m / BT ^ (i + 1) % b = r0 := ⟨_, rfl⟩
      have HR0 := Lib.hid hr0
      rw [hr0] at HR
      have hrb : r0 < b := by rw [← hr0]; exact Nat.mod_lt _ hb
      obtain ⟨R, hRe⟩ : ∃ R, 10000 * r0 + d = R := ⟨_, rfl⟩
      have HRE := Lib.hid hRe
      have hRb : R < b * 10000 := by have := dig_lt 10000 r0 b d hrb hd1; rw [Nat.mul_comm]; omega
      have HP := Lib.hid (show m / BT ^ i % b = R % b ∧ m / BT ^ i / b = 10000 * (m / BT ^ (i + 1) / b) + R / b by
        rw [hst1, BT_eq]
        have := part10 10000 (m / 10000 ^ (i + 1)) b d hb
        rw [BT_eq] at hr0
        rw [hr0, hRe] at this
        exact this)
      have HDG := Lib.hid (show Dg BT (d :: digs BT r0) from fun x hx => by rcases List.mem_cons.1 hx with rfl | hx; rw [BT_eq]; exact hd1; exact digs_dg BT two_BT r0 x hx)
      have HVR := Lib.hid (show val BT (d :: digs BT r0) = ((R : Nat) : Int).natAbs by rw [Int.natAbs_natCast, val, val_digs BT two_BT, BT_eq]; omega)
      have HSR := Lib.hid (show dl BT R ≤ 200000000000 by
        have h1 := dl_mul BT two_BT b 10000
        have h2 := dl_mono BT two_BT R (b * 10000) (by omega)
        have h3 := dl_i64 10000 (by omega)
        have := HS'.out
        omega)
      have HRB := Lib.hid hRb
      have OWN := Lib.hid (World.ownsRow_lit (base := wr.heap.size) (e := TN) (size := 1) wr #[I64 d] 1 (Nat.le_refl _) (by unfold maxLen; omega) rfl)
      clear hd hst1 hr0 hrb hRe hRb
      go_wp2_with (at_builtin; refine wp_appN rfl _ _ rfl wr.heap.size _ [d] rfl OWN.out A1 n1 c1 (digs BT r0) rfl (HR.out.below (Below.alloc (Below.refl _ _) (Nat.le_refl _) _)) (by simp) (by omega) (by simp) ?_; intro v' w1 hown1 hb1; obtain ⟨A2, n2, c2, rfl, hs2⟩ := hown1.sl; have HS2 := Lib.hid hs2; have HB1 := Lib.hid (Below.trans (Below.alloc (Below.refl _ wr) (Nat.le_refl _) _) hb1); clear hs2 hb1 hown1)
      have hn2 : n2 ≤ 1000000000000 := by
        have h1 := HS2.out.len
        have h2 := HR.out.lenZ
        simp only [List.length_map, List.length_append, List.length_cons, List.length_nil] at h1
        have h3 : (digs BT r0).length = n1 := h2.symm
        omega
      refine (zlean_fr false A2 n2 c2 (d :: digs BT r0) ((R : Nat) : Int) _ HS2.out HDG.out HVR.out (Or.inl (ng_nat _).symm) hn2).mono ?_
      rintro e w2 ⟨v2, rfl, ⟨A3, n3, c3, rfl, h3, hge⟩, hb2⟩
      rw [Int.natAbs_natCast] at h3
      have hoff : Off G A3 := fun a ha => by have := hge a ha; have h5 := HI.out.held.lt; have := HB1.out.size; omega
      have HOFF := Lib.hid hoff
      have H3 := Lib.hid h3
      have hB2 : Below wr.heap.size wr w2 := HB1.out.trans (hb2.mono HB1.out.size)
      have I2 := Lib.hid (HI.out.below_ hB2)
      have hn3 : n3 ≤ 200000000000 := by have := h3.lenZ; have := HSR.out; omega
      clear h3 hge hb2 hoff hB2 hcx hn2
      go_wp2
      clear e00 e01 e10 e11
      go_loopw [9, 10] (fun lo hi wi => ∃ (l h : Nat), lo = .int .i64 l ∧ hi = .int .i64 h ∧ l < h ∧ h ≤ 10000 ∧ b * l ≤ R ∧ R < b * h ∧ Below w2.heap.size w2 wi) (fun lo hi _ => (intOf hi - intOf lo).toNat)
      case atStart => exact ⟨0, 10000, rfl, rfl, by omega, by omega, by omega, HRB.out, Below.refl _ _⟩
      case round =>
        obtain ⟨l, h, rfl, rfl, hlh, hh, hlo, hhi, hbi⟩ := hrel
        obtain ⟨wi, rfl⟩ : ∃ wi : World, wi = wr := ⟨_, rfl⟩
        have HLO := Lib.hid hlo
        have HHI := Lib.hid hhi
        have I3 := Lib.hid (I2.out.below_ hbi)
        have HBI := Lib.hid hbi
        clear hlo hhi hbi
        obtain ⟨f10, f11⟩ := K1.out wi I3.out.held
        by_cases hgap : l + 1 < h
        · obtain ⟨mid, hmid⟩ : ∃ mid : Nat, mid = (l + h) / 2 := ⟨_, rfl⟩
          have hm1 : l < mid := by omega
          have hm2 : mid < h := by omega
          have em : ((l : Int) + (h : Int)) / 2 = (mid : Int) := by omega
          have EM := Lib.hid em
          clear hmid em
          go_wp2_with fail
          have ht := ztimes_any A' n' c' b mid wi (H'.out.below (I3.out.held.below hbw (by omega))) (by omega) (by have := HS'.out; omega)
          rw [← EM.out] at ht
          refine ht.mono ?_
          rintro e w3 ⟨v3, rfl, ⟨A4, n4, c4, rfl, h4⟩, hb3⟩
          clear ht
          go_wp2_with fail
          refine (zsizes_any A4 A3 n4 c4 n3 c3 (b * mid) R _ h4 (H3.out.below (bt HBI.out hb3))).mono ?_
          rintro e w4 ⟨v4, rfl, hv4, hb4⟩
          subst hv4
          have hbn := bt HBI.out (bt hb3 hb4)
          have HBN := Lib.hid hbn
          obtain ⟨r, hr⟩ : ∃ r, cmpN (b * mid) R = r := ⟨_, rfl⟩
          rw [hr]
          by_cases hle : b * mid ≤ R
          · have hr0 : r ≤ 0 := by rw [← hr]; exact cmpN_le.2 hle
            have HLE := Lib.hid hle
            clear hr hle h4 hb3 hb4 hbn
            go_wp2
            rw [EM.out]
            go_roundw
            case rel => exact ⟨mid, h, rfl, rfl, hm2, hh, HLE.out, HHI.out, HBN.out⟩
            case measure => simp [intOf]; omega
          · have hr0 : ¬ r ≤ 0 := by rw [← hr]; intro h; exact hle (cmpN_le.1 h)
            have HLE := Lib.hid hle
            clear hr hle h4 hb3 hb4 hbn
            go_wp2
            rw [EM.out]
            go_roundw
            case rel => exact ⟨l, mid, rfl, rfl, hm1, by omega, HLO.out, by have := HLE.out; omega, HBN.out⟩
            case measure => simp [intOf]; omega
        · have HLOW := Lib.hid (low_is R b l h HLO.out HHI.out hlh (by omega))
          have hcg := blk_cellI I3.out.blk (j := i) (by rw [I3.out.len]; exact hin)
          have hfr := I3.out.blk.free i
          have I4 := Lib.hid (I3.out.set_ i l (by rw [BT_eq]; omega))
          have H4 := Lib.hid ((H3.out.below HBI.out).far HOFF.out i (I64 l))
          obtain ⟨g10, g11⟩ := K1.out _ I4.out.held
          unfold I64 at g10 g11
          go_wp2_with fail
          refine (ztimes_any A' n' c' b l _ (H'.out.below (I4.out.held.below hbw (by omega))) (by omega) (by have := HS'.out; omega)).mono ?_
          rintro e w5 ⟨v5, rfl, ⟨A5, n5, c5, rfl, h5⟩, hb5⟩
          have hle5 : n5 ≤ n3 := by rw [h5.lenZ, H3.out.lenZ]; exact dl_mono BT two_BT _ _ HLO.out
          go_wp2_with fail
          refine (zless_any A3 A5 n3 c3 n5 c5 (digs BT R) (digs BT (b * l)) _ (H4.out.below hb5) h5 (digs_dg BT two_BT _) (digs_dg BT two_BT _) hle5 (by rw [val_digs BT two_BT, val_digs BT two_BT]; exact HLO.out) (by omega)).mono ?_
          rintro e w6 ⟨v6, rfl, ⟨cs6, ⟨A6, n6, c6, rfl, h6⟩, hd6, hv6, hl6⟩, hb6⟩
          rw [val_digs BT two_BT, val_digs BT two_BT] at hv6
          have H6 := Lib.hid (And.intro h6 (And.intro hd6 (And.intro hv6 hl6)))
          have HB6 := Lib.hid (bt hb5 hb6)
          clear h5 hb5 h6 hd6 hv6 hl6 hb6 g10 g11 f10 f11 hcg hfr
          have hn6 : n6 ≤ 1000000000000 := by have h1 := H6.out.1.len; have h2 := H6.out.2.2.2; rw [List.length_map] at h1; omega
          go_wp2_with fail
          refine (zlean_any false A6 n6 c6 cs6 ((R - b * l : Nat) : Int) _ H6.out.1 H6.out.2.1 (by rw [Int.natAbs_natCast]; exact H6.out.2.2.1) (Or.inl (ng_nat _).symm) hn6).mono ?_
          rintro e w7 ⟨v7, rfl, ⟨A7, n7, c7, rfl, h7⟩, hb7⟩
          rw [Int.natAbs_natCast] at h7
          have H7 := Lib.hid h7
          have I7 := Lib.hid (I4.out.below_ (bt HB6.out hb7))
          clear h7 hb7 hn6
          go_wp2
          go_roundw
          case rel =>
            refine ⟨i, qs.set i l, A7, n7, c7, by omega, by go_num, rfl, ?_, I7.out, ?_⟩
            · rw [HP.out.1]
              have e : R % b = R - b * l := by have h1 := Nat.div_add_mod R b; rw [HLOW.out] at h1; omega
              rw [e]; exact H7.out
            · rw [HP.out.2, HLOW.out]
              have := set_dig BT two_BT qs HI.out.dg i (m / BT ^ (i + 1) / b) l (by rw [HI.out.len]; exact hin) HV.out
              rw [this, BT_eq]
          case measure => first | (simp [intOf]; done) | (simp [intOf]; omega)
    · have : k = 0 := by omega
      subst this
      clear hk0 hk
      rw [Nat.pow_zero, Nat.div_one] at HR
      have HV0 := Lib.hid (show val BT qs = m / b by have := HV.out; simpa using this)
      clear HV
      have hsl := Blk.sl HI.out.blk rfl (by simp [HI.out.len]; omega)
      have hlen : (qs.map I64).length = n := by simp [HI.out.len]
      rw [hlen] at hsl
      have HSL := Lib.hid hsl
      have hdr : dl BT (m % b) ≤ 200000000000 := by have := HR.out.lenZ; omega
      have BB1 := Lib.hid (B1.out.held HI.out.held (by omega))
      have BB2 := Lib.hid (B2.out.held HI.out.held (by omega))
      have BB3 := Lib.hid (B3.out.held HI.out.held (by omega))
      have HBW := Lib.hid (HI.out.held.below hbw (by omega))
      clear hsl hlen hdr
      cases s
      · go_wp2_with fail
        refine (zlean_any false _ n n qs (((m / b : Nat) : Int)) _ HSL.out HI.out.dg (by rw [HV0.out]; (try rw [Int.natAbs_neg]); rw [Int.natAbs_natCast]) (Or.inl (ng_nat _).symm) (by omega)).mono ?_
        rintro e w1 ⟨v1, rfl, ⟨A8, n8, c8, rfl, h8⟩, hb1⟩
        go_wp2_with fail
        refine (zlean_any false A1 n1 c1 (digs BT (m % b)) ((m % b : Nat) : Int) _ (HR.out.below hb1) (digs_dg BT two_BT _) (by rw [Int.natAbs_natCast, val_digs BT two_BT]) (Or.inl (ng_nat _).symm) (by omega)).mono ?_
        rintro e w2 ⟨v2, rfl, ⟨A9, n9, c9, rfl, h9⟩, hb2⟩
        rw [Int.natAbs_natCast] at h9
        have H9 := Lib.hid h9
        have H8 := Lib.hid (h8.below hb2)
        have HB12 := Lib.hid (bt hb1 hb2)
        have hlt12 : w.heap.size + 1 + 1 + 1 < w2.heap.size := by have := HB12.out.size; have := HI.out.held.lt; omega
        have q00 : w2.cell? ⟨w.heap.size, 0, none⟩ = some (.bool false) := by rw [HB12.out.cell (p := ⟨w.heap.size, 0, none⟩) (by have := HI.out.held.lt; show w.heap.size < wr.heap.size; omega)]; exact e00
        have q0 := fun (o1 o2 : Obj) => (World.cell?_alloc_lt (w2.alloc o1) o2 ⟨w.heap.size, 0, none⟩ (by simp; omega)).trans ((World.cell?_alloc_lt w2 o1 ⟨w.heap.size, 0, none⟩ (by simp; omega)).trans q00)
        clear h8 h9 hb1 hb2 e00 e01 e10 e11
        have e1 : sg false m / (b : Int) = ((m / b : Nat) : Int) := by unfold sg; simp
        have e2 : sg false m % (b : Int) = ((m % b : Nat) : Int) := by unfold sg; simp
        have E1 := Lib.hid e1
        have E2 := Lib.hid e2
        clear e1 e2
        go_wp2
        refine wp_world (fun W5 => Blk W5 w2.heap.size TZ #[.bool (ng (((m / b : Nat) : Int))), .slice A8 n8 c8] ∧ Blk W5 (w2.heap.size + 1) TZ #[.bool (ng ((m % b : Nat) : Int)), .slice A9 (n9) c9] ∧ Below w2.heap.size w2 W5) (by exact ⟨(Blk.new_ _ _ rfl).alloc _, Blk.new_ _ _ (by simp), by go_grown⟩) ?_
        rintro W5 ⟨d12, d13, hb5⟩
        have C12 := Lib.hid d12
        have C13 := Lib.hid d13
        have C1 := Lib.hid (BB1.out.below (bt HB12.out hb5))
        have C2 := Lib.hid (BB2.out.below (bt HB12.out hb5))
        have C3 := Lib.hid (BB3.out.below (bt HB12.out hb5))
        have HW5 := Lib.hid (bt HBW.out (bt HB12.out hb5))
        have H8' := Lib.hid (H8.out.below hb5)
        have H9' := Lib.hid (H9.out.below hb5)
        clear d12 d13 hb5 q0 q00
        have k12 := C12.out.cells
        have k13 := C13.out.cells
        have k2 := C2.out.cells
        have k3 := C3.out.cells
        have f2 := C2.out.free
        have f3 := C3.out.free
        simp only [cellsAre, Nat.zero_add, Nat.reduceAdd, and_true] at k12 k13 k2 k3
        have n1 : w.heap.size + 1 + 1 ≠ w2.heap.size := by omega
        have n2 : w.heap.size + 1 + 1 ≠ w2.heap.size + 1 := by omega
        have n3 : w.heap.size + 1 + 1 + 1 ≠ w2.heap.size := by omega
        have n4 : w.heap.size + 1 + 1 + 1 ≠ w2.heap.size + 1 := by omega
        have n5 : w2.heap.size ≠ w.heap.size + 1 + 1 := by omega
        have n6 : w2.heap.size + 1 ≠ w.heap.size + 1 + 1 := by omega
        have n7 : w2.heap.size ≠ w.heap.size + 1 + 1 + 1 := by omega
        have n8' : w2.heap.size + 1 ≠ w.heap.size + 1 + 1 + 1 := by omega
        go_region
        go_wp2
        (try simp only [Exit.inBlock, Exit.then])
        refine bodyPost_ret (v := .tuple #[.agg #[.bool (ng (((m / b : Nat) : Int))), .slice A8 n8 c8], .agg #[.bool (ng ((m % b : Nat) : Int)), .slice A9 n9 c9]]) (by simp [results, Try.results50, go_sem, k2, k3]) rfl ?_
        have hF := (((((HeldM.mk2 C2.out C3.out).set_ m2_0 0 (.bool (ng (((m / b : Nat) : Int))))).set_ m2_0 1 (.slice A8 n8 c8)).set_ m2_1 0 (.bool (ng ((m % b : Nat) : Int)))).set_ m2_1 1 (.slice A9 n9 c9)).drew
        exact ⟨_, rfl, ⟨_, _, rfl, ⟨A8, n8, c8, by rw [E1.out], by rw [E1.out]; exact H8'.out.heldM hF (heldM2_ne (by decide) (by decide))⟩, ⟨A9, n9, c9, by rw [E2.out], by rw [E2.out, Int.natAbs_natCast]; exact H9'.out.heldM hF (heldM2_ne (by decide) (by decide))⟩⟩, hF.below HW5.out (heldM2_ge (by omega) (by omega))⟩
      · go_wp2_with fail
        refine (zlean_any true _ n n qs (-((m / b : Nat) : Int)) _ HSL.out HI.out.dg (by rw [HV0.out]; (try rw [Int.natAbs_neg]); rw [Int.natAbs_natCast]) ((by rcases Nat.eq_zero_or_pos (m / b) with h0 | h0; right; rw [h0]; rfl; left; unfold ng; simp; omega)) (by omega)).mono ?_
        rintro e w1 ⟨v1, rfl, ⟨A8, n8, c8, rfl, h8⟩, hb1⟩
        go_wp2_with fail
        refine (zlean_any false A1 n1 c1 (digs BT (m % b)) ((m % b : Nat) : Int) _ (HR.out.below hb1) (digs_dg BT two_BT _) (by rw [Int.natAbs_natCast, val_digs BT two_BT]) (Or.inl (ng_nat _).symm) (by omega)).mono ?_
        rintro e w2 ⟨v2, rfl, ⟨A9, n9, c9, rfl, h9⟩, hb2⟩
        rw [Int.natAbs_natCast] at h9
        have H9 := Lib.hid h9
        have H8 := Lib.hid (h8.below hb2)
        have HB12 := Lib.hid (bt hb1 hb2)
        have hlt12 : w.heap.size + 1 + 1 + 1 < w2.heap.size := by have := HB12.out.size; have := HI.out.held.lt; omega
        have q00 : w2.cell? ⟨w.heap.size, 0, none⟩ = some (.bool true) := by rw [HB12.out.cell (p := ⟨w.heap.size, 0, none⟩) (by have := HI.out.held.lt; show w.heap.size < wr.heap.size; omega)]; exact e00
        have q0 := fun (o1 o2 : Obj) => (World.cell?_alloc_lt (w2.alloc o1) o2 ⟨w.heap.size, 0, none⟩ (by simp; omega)).trans ((World.cell?_alloc_lt w2 o1 ⟨w.heap.size, 0, none⟩ (by simp; omega)).trans q00)
        clear h8 h9 hb1 hb2 e00 e01 e10 e11
        by_cases hmb : m % b = 0
        · have hn9 : n9 = 0 := by have := H9.out.posZ; omega
          subst hn9
          have hd9 : decide ((0 : Int) < ((0 : Nat) : Int)) = false := rfl
          have hng := (neg_div m b hb).1 hmb
          have E1 := Lib.hid (show sg true m / (b : Int) = -((m / b : Nat) : Int) from hng.1)
          have E2 := Lib.hid (show sg true m % (b : Int) = ((m % b : Nat) : Int) by rw [hmb]; exact hng.2)
          clear hng hmb
          go_wp2
          refine wp_world (fun W5 => Blk W5 w2.heap.size TZ #[.bool (ng (-((m / b : Nat) : Int))), .slice A8 n8 c8] ∧ Blk W5 (w2.heap.size + 1) TZ #[.bool (ng ((m % b : Nat) : Int)), .slice A9 (0) c9] ∧ Below w2.heap.size w2 W5) (by exact ⟨(Blk.new_ _ _ rfl).alloc _, Blk.new_ _ _ (by simp), by go_grown⟩) ?_
          rintro W5 ⟨d12, d13, hb5⟩
          have C12 := Lib.hid d12
          have C13 := Lib.hid d13
          have C1 := Lib.hid (BB1.out.below (bt HB12.out hb5))
          have C2 := Lib.hid (BB2.out.below (bt HB12.out hb5))
          have C3 := Lib.hid (BB3.out.below (bt HB12.out hb5))
          have HW5 := Lib.hid (bt HBW.out (bt HB12.out hb5))
          have H8' := Lib.hid (H8.out.below hb5)
          have H9' := Lib.hid (H9.out.below hb5)
          clear d12 d13 hb5 q0 q00
          have k12 := C12.out.cells
          have k13 := C13.out.cells
          have k2 := C2.out.cells
          have k3 := C3.out.cells
          have f2 := C2.out.free
          have f3 := C3.out.free
          simp only [cellsAre, Nat.zero_add, Nat.reduceAdd, and_true] at k12 k13 k2 k3
          have n1 : w.heap.size + 1 + 1 ≠ w2.heap.size := by omega
          have n2 : w.heap.size + 1 + 1 ≠ w2.heap.size + 1 := by omega
          have n3 : w.heap.size + 1 + 1 + 1 ≠ w2.heap.size := by omega
          have n4 : w.heap.size + 1 + 1 + 1 ≠ w2.heap.size + 1 := by omega
          have n5 : w2.heap.size ≠ w.heap.size + 1 + 1 := by omega
          have n6 : w2.heap.size + 1 ≠ w.heap.size + 1 + 1 := by omega
          have n7 : w2.heap.size ≠ w.heap.size + 1 + 1 + 1 := by omega
          have n8' : w2.heap.size + 1 ≠ w.heap.size + 1 + 1 + 1 := by omega
          go_region
          go_wp2
          (try simp only [Exit.inBlock, Exit.then])
          refine bodyPost_ret (v := .tuple #[.agg #[.bool (ng (-((m / b : Nat) : Int))), .slice A8 n8 c8], .agg #[.bool (ng ((m % b : Nat) : Int)), .slice A9 0 c9]]) (by simp [results, Try.results50, go_sem, k2, k3]) rfl ?_
          have hF := (((((HeldM.mk2 C2.out C3.out).set_ m2_0 0 (.bool (ng (-((m / b : Nat) : Int))))).set_ m2_0 1 (.slice A8 n8 c8)).set_ m2_1 0 (.bool (ng ((m % b : Nat) : Int)))).set_ m2_1 1 (.slice A9 0 c9)).drew
          exact ⟨_, rfl, ⟨_, _, rfl, ⟨A8, n8, c8, by rw [E1.out], by rw [E1.out]; exact H8'.out.heldM hF (heldM2_ne (by decide) (by decide))⟩, ⟨A9, 0, c9, by rw [E2.out], by rw [E2.out, Int.natAbs_natCast]; exact H9'.out.heldM hF (heldM2_ne (by decide) (by decide))⟩⟩, hF.below HW5.out (heldM2_ge (by omega) (by omega))⟩
        · have hn9 : 0 < n9 := by have := H9.out.posZ; omega
          have hd9 : decide ((0 : Int) < (n9 : Int)) = true := by simp; omega
          have hng := (neg_div m b hb).2 (by omega)
          have E1 := Lib.hid (show sg true m / (b : Int) = -((m / b : Nat) : Int) + -1 from hng.1)
          have E2 := Lib.hid (show sg true m % (b : Int) = (b : Int) + -((m % b : Nat) : Int) from hng.2)
          have SZ1 := Lib.hid (show s10 (-((m / b : Nat) : Int)) ≤ 200000000000 by rw [s10_neg]; unfold s10; rw [Int.natAbs_natCast]; have := dl_mono BT two_BT (m / b) m (Nat.div_le_self _ _); have := HL.out; omega)
          have SZ2 := Lib.hid (show s10 (b : Int) ≤ 200000000000 by unfold s10; rw [Int.natAbs_natCast]; have := HS'.out; omega)
          have SZ3 := Lib.hid (show s10 ((m % b : Nat) : Int) ≤ 200000000000 by unfold s10; rw [Int.natAbs_natCast]; have := H9.out.lenZ; have := dl_mono BT two_BT (m % b) b (Nat.le_of_lt (Nat.mod_lt _ hb)); have := HS'.out; omega)
          clear hng hmb
          go_wp2
          refine wp_world (fun W5 => Blk W5 w2.heap.size TZ #[.bool (ng (-((m / b : Nat) : Int))), .slice A8 n8 c8] ∧ Blk W5 (w2.heap.size + 1) TZ #[.bool (ng ((m % b : Nat) : Int)), .slice A9 (n9) c9] ∧ Below w2.heap.size w2 W5) (by exact ⟨(Blk.new_ _ _ rfl).alloc _, Blk.new_ _ _ (by simp), by go_grown⟩) ?_
          rintro W5 ⟨d12, d13, hb5⟩
          have C12 := Lib.hid d12
          have C13 := Lib.hid d13
          have C1 := Lib.hid (BB1.out.below (bt HB12.out hb5))
          have C2 := Lib.hid (BB2.out.below (bt HB12.out hb5))
          have C3 := Lib.hid (BB3.out.below (bt HB12.out hb5))
          have HW5 := Lib.hid (bt HBW.out (bt HB12.out hb5))
          have H8' := Lib.hid (H8.out.below hb5)
          have H9' := Lib.hid (H9.out.below hb5)
          clear d12 d13 hb5 q0 q00
          have c1 := fun w' (hh : HM2 (w.heap.size + 1 + 1) (w.heap.size + 1 + 1 + 1) W5 w') => (hh.blk C1.out (by omega) (by omega)).cells
          have c12 := fun w' (hh : HM2 (w.heap.size + 1 + 1) (w.heap.size + 1 + 1 + 1) W5 w') => (hh.blk C12.out (by omega) (by omega)).cells
          have c13 := fun w' (hh : HM2 (w.heap.size + 1 + 1) (w.heap.size + 1 + 1 + 1) W5 w') => (hh.blk C13.out (by omega) (by omega)).cells
          have r2 := fun w' (hh : HM2 (w.heap.size + 1 + 1) (w.heap.size + 1 + 1 + 1) W5 w') => hh.cell0
          have r3 := fun w' (hh : HM2 (w.heap.size + 1 + 1) (w.heap.size + 1 + 1 + 1) W5 w') => hh.cell1
          have f2 := fun w' (hh : HM2 (w.heap.size + 1 + 1) (w.heap.size + 1 + 1 + 1) W5 w') => hh.free0
          have f3 := fun w' (hh : HM2 (w.heap.size + 1 + 1) (w.heap.size + 1 + 1 + 1) W5 w') => hh.free1
          have hst : HM2 (w.heap.size + 1 + 1) (w.heap.size + 1 + 1 + 1) W5 W5.drew := (HM2.start C2.out C3.out).drew
          simp only [cellsAre, Nat.zero_add, Nat.reduceAdd, and_true] at c1 c12 c13
          go_region_held3 (fun w' => HM2 (w.heap.size + 1 + 1) (w.heap.size + 1 + 1 + 1) W5 w') (first | assumption | exact HM2.trans_ (by assumption) (by assumption) | exact HM2.set0 (HM2.set0 (by assumption) _ _) _ _ | exact HM2.set1 (HM2.set1 (by assumption) _ _) _ _)
            (first | (go_at_call 48; have tk := hd2; refine (zsub_any _ _ (b : Int) ((m % b : Nat) : Int) _ ⟨A', n', c', by rw [ng_nat], by rw [Int.natAbs_natCast]; exact hh2.sl (H'.out.below HW5.out)⟩ ⟨A9, n9, c9, rfl, by rw [Int.natAbs_natCast]; exact hh2.sl H9'.out⟩ (by have := SZ2.out; omega) (by have := SZ3.out; omega)).mono ?_; rintro e y3 ⟨u3, rfl, ⟨A11, n11, c11, rfl, hx3⟩, hd3⟩; have hh3 : HM2 (w.heap.size + 1 + 1) (w.heap.size + 1 + 1 + 1) W5 y3 := hh2.trans_ hd3) | (go_at_call 48; have tk := hd1; refine (zsub_any _ _ (-((m / b : Nat) : Int)) 1 _ ⟨A8, n8, c8, rfl, hh1.sl H8'.out⟩ hu1 (by have := SZ1.out; omega) (by have := s10_small 1 (by omega) (by omega); omega)).mono ?_; rintro e y2 ⟨u2, rfl, ⟨A10, n10, c10, rfl, hx2⟩, hd2⟩; have hh2 : HM2 (w.heap.size + 1 + 1) (w.heap.size + 1 + 1 + 1) W5 y2 := hh1.trans_ hd2) | (go_at_call 26; refine (zint_any 1 _ (by omega) (by omega)).mono ?_; rintro e y1 ⟨u1, rfl, hu1, hd1⟩; have hh1 : HM2 (w.heap.size + 1 + 1) (w.heap.size + 1 + 1 + 1) W5 y1 := hst.trans_ hd1))
          go_wp2
          (try simp only [Exit.inBlock, Exit.then])
          refine bodyPost_ret (v := .tuple #[.agg #[.bool (ng (-((m / b : Nat) : Int) + -1)), .slice A10 n10 c10], .agg #[.bool (ng ((b : Int) + -((m % b : Nat) : Int))), .slice A11 n11 c11]]) (by simp [results, Try.results50, go_sem, r2 _ hh3, r3 _ hh3]) rfl ?_
          have hF := ((((hh3.here.set0 0 (.bool (ng (-((m / b : Nat) : Int) + -1)))).set0 1 (.slice A10 n10 c10)).set1 0 (.bool (ng ((b : Int) + -((m % b : Nat) : Int))))).set1 1 (.slice A11 n11 c11))
          exact ⟨_, rfl, ⟨_, _, rfl, ⟨A10, n10, c10, by rw [E1.out], by rw [E1.out]; exact hF.sl (hx2.below hd3)⟩, ⟨A11, n11, c11, by rw [E2.out], by rw [E2.out]; exact hF.sl hx3⟩⟩, (hh3.trans2 hF).below HW5.out (by omega) (by omega)⟩
theorem zdivmod_any (v v' : Value) (x y : Int) (w : World) (h : ZI w v x) (h' : ZI w v' y) (hy : 0 < y) (hs : s10 x ≤ 100000000000) (hs' : s10 y ≤ 100000000000) :
    Calls Try.prog 50 #[v, v'] w (Ret (DM x y) w) := by
  obtain ⟨A, n, c, rfl, h⟩ := h
  obtain ⟨A', n', c', rfl, h'⟩ := h'
  obtain ⟨b, rfl⟩ : ∃ b : Nat, y = (b : Int) := ⟨y.natAbs, by omega⟩
  rw [Int.natAbs_natCast] at h'
  unfold s10 at hs hs'
  rw [Int.natAbs_natCast] at hs'
  have e : sg (ng x) x.natAbs = x := by unfold sg ng; by_cases hx : x < 0 <;> simp [hx] <;> omega
  have := zdivmod_nat (ng x) A n c A' n' c' x.natAbs b w h h' (by omega) (fun hg => by unfold ng at hg; simp at hg; omega) hs hs'
  rw [e] at this
  rw [ng_nat]
  exact this
end Go.Proofs.Tb
/- Contracts of the reference's numbers of any size: Gcd. -/
namespace Go.Proofs.Tb
open Go.RowKit
attribute [local go_sem] cell_set_same
attribute [local go_sem] field_Z1

theorem zdivmod_nn (A : Option Addr) (n c : Nat) (A' : Option Addr) (n' c' : Nat) (m b : Nat) (w : World) (h : Sl TN w A n c (LZ m)) (h' : Sl TN w A' n' c' (LZ b)) (hb : 0 < b)
    (hs : dl BT m ≤ 100000000000) (hs' : dl BT b ≤ 100000000000) :
    Calls Try.prog 50 #[.agg #[.bool false, .slice A n c], .agg #[.bool false, .slice A' n' c']] w (Ret (fun v w' => ∃ A1 n1 c1 A2 n2 c2, v = .tuple #[.agg #[.bool false, .slice A1 n1 c1], .agg #[.bool false, .slice A2 n2 c2]] ∧ Sl TN w' A1 n1 c1 (LZ (m / b)) ∧ Sl TN w' A2 n2 c2 (LZ (m % b))) w) := by
  refine (zdivmod_nat false A n c A' n' c' m b w h h' hb (fun h => by cases h) hs hs').mono fun e w' h => h.imp ?_
  rintro v w1 ⟨v1, v2, rfl, ⟨A1, n1, c1, rfl, h1⟩, ⟨A2, n2, c2, rfl, h2⟩⟩
  have e1 : sg false m / (b : Int) = ((m / b : Nat) : Int) := by unfold sg; simp
  have e2 : sg false m % (b : Int) = ((m % b : Nat) : Int) := by unfold sg; simp
  rw [e1, Int.natAbs_natCast] at h1
  rw [e2, Int.natAbs_natCast] at h2
  exact ⟨A1, n1, c1, A2, n2, c2, by rw [e1, e2, ng_nat, ng_nat], h1, h2⟩

/-- What Gcd's rounds have in memory. -/
structure GC (w wx : World) (A : Option Addr) (n c : Nat) (A' : Option Addr) (n' c' : Nat) (a b : Nat) : Prop where
  b0 : Blk wx w.heap.size TZ #[.bool false, .slice A n c]
  b1 : Blk wx (w.heap.size + 1) TZ #[.bool false, .slice A' n' c']
  b2 : Blk wx (w.heap.size + 1 + 1) TZ #[.bool false, .slice none 0 0]
  sa : Sl TN wx A n c (LZ a)
  sb : Sl TN wx A' n' c' (LZ b)
  bw : Below w.heap.size w wx
theorem GC.drew {w wx : World} {A : Option Addr} {n c : Nat} {A' : Option Addr} {n' c' : Nat} {a b : Nat} (h : GC w wx A n c A' n' c' a b) : GC w wx.drew A n c A' n' c' a b :=
  ⟨h.b0.drew, h.b1.drew, h.b2.drew, h.sa.below (Below.refl _ _).drew, h.sb.below (Below.refl _ _).drew, h.bw.drew⟩
theorem GC.put {w w2 : World} {A : Option Addr} {n c : Nat} {A' : Option Addr} {n' c' : Nat} {a b : Nat} {x0 x1 y0 y1 : Value} (c0 : Blk w2 w.heap.size TZ #[x0, x1]) (c1 : Blk w2 (w.heap.size + 1) TZ #[y0, y1])
    (c2 : Blk w2 (w.heap.size + 1 + 1) TZ #[.bool false, .slice none 0 0]) (h1 : Sl TN w2 A n c (LZ a)) (h2 : Sl TN w2 A' n' c' (LZ b)) (hb : Below w.heap.size w w2) :
    GC w ((((w2.setCell ⟨w.heap.size, 0, none⟩ (.bool false)).setCell ⟨w.heap.size, 1, none⟩ (.slice A n c)).setCell ⟨w.heap.size + 1, 0, none⟩ (.bool false)).setCell ⟨w.heap.size + 1, 1, none⟩ (.slice A' n' c')) A n c A' n' c' a b := by
  have hF := ((((HM2.start c0 c1).set0 0 (.bool false)).set0 1 (.slice A n c)).set1 0 (.bool false)).set1 1 (.slice A' n' c')
  refine ⟨?_, ?_, hF.blk c2 (by omega) (by omega), hF.sl h1, hF.sl h2, hF.below hb (Nat.le_refl _) (by omega)⟩
  · have s1 := (c0.set_ 0 (.bool false)).set_ 1 (.slice A n c)
    have e : ((#[x0, x1].setIfInBounds 0 (.bool false)).setIfInBounds 1 (.slice A n c)) = #[.bool false, .slice A n c] := by simp
    rw [e] at s1
    exact (s1.far (by simp) _).far (by simp) _
  · have s1 := (((c1.far (p := ⟨w.heap.size, 0, none⟩) (by simp) (.bool false)).far (p := ⟨w.heap.size, 1, none⟩) (by simp) (.slice A n c)).set_ 0 (.bool false)).set_ 1 (.slice A' n' c')
    have e : ((#[y0, y1].setIfInBounds 0 (.bool false)).setIfInBounds 1 (.slice A' n' c')) = #[.bool false, .slice A' n' c'] := by simp
    rw [e] at s1
    exact s1
theorem gcd_bound (m b k : Nat) (hb : dl BT b ≤ k) (h : 0 < b) : dl BT (m % b) ≤ k := Nat.le_trans (dl_mono BT two_BT _ _ (Nat.le_of_lt (Nat.mod_lt _ h))) hb

set_option maxHeartbeats 3200000 in
set_option maxRecDepth 100000 in
theorem zgcd_any (v v' : Value) (x y : Int) (w : World) (h : ZI w v x) (h' : ZI w v' y) (hs : s10 x ≤ 100000000000) (hs' : s10 y ≤ 100000000000) :
    Calls Try.prog 25 #[v, v'] w (Ret (fun v w' => ∃ A n c, v = .agg #[.bool false, .slice A n c] ∧ Sl TN w' A n c (LZ (Int.gcd x y))) w) := by
  obtain ⟨A, n, c, rfl, h⟩ := h
  obtain ⟨A', n', c', rfl, h'⟩ := h'
  have H := Lib.hid h
  have H' := Lib.hid h'
  obtain ⟨s, hsx⟩ : ∃ s, ng x = s := ⟨_, rfl⟩
  obtain ⟨s', hsy⟩ : ∃ s, ng y = s := ⟨_, rfl⟩
  have HSX := Lib.hid hsx
  have HSY := Lib.hid hsy
  rw [hsx, hsy]
  obtain ⟨gg, hgg⟩ : ∃ g, Int.gcd x y = g := ⟨_, rfl⟩
  have HGG := Lib.hid (show Nat.gcd x.natAbs y.natAbs = gg from hgg)
  rw [hgg]
  unfold s10 at hs hs'
  have HS := Lib.hid hs
  have HS' := Lib.hid hs'
  clear h h' hsx hsy hgg hs hs'
  go_enter Try.func25, Try.ntmps25
  go_upto_region 1 with fail
  refine wp_world (fun W0 => Blk W0 w.heap.size TZ #[.bool s, .slice A n c] ∧ Blk W0 (w.heap.size + 1) TZ #[.bool s', .slice A' n' c'] ∧ Blk W0 (w.heap.size + 1 + 1) TZ #[.bool false, .slice none 0 0] ∧ Below w.heap.size w W0) (by exact ⟨((Blk.new_ _ _ rfl).alloc _).alloc _, (Blk.new_ _ _ (by simp)).alloc _, Blk.new_ _ _ (by simp), by go_grown⟩) ?_
  rintro W0 ⟨b0, b1, b2, hbw⟩
  have k0 := fun w' (hh : Ext W0 w') => (b0.below hh).cells
  have k1 := fun w' (hh : Ext W0 w') => (b1.below hh).cells
  have f0 := fun w' (hh : Ext W0 w') => (b0.below hh).free
  have f1 := fun w' (hh : Ext W0 w') => (b1.below hh).free
  simp only [cellsAre, Nat.zero_add, Nat.reduceAdd, and_true] at k0 k1
  have B0 := Lib.hid b0
  have B1 := Lib.hid b1
  have B2 := Lib.hid b2
  have hh0 : Ext W0 W0 := Ext.refl _
  clear b0 b1 b2
  go_cut [] (fun wx => ∃ A n c A' n' c', GC w wx A n c A' n' c' x.natAbs y.natAbs)
  case first =>
    go_region_with (first | (go_at_call 49; have tk := hh1; refine (zabs_any _ y _ ⟨_, _, _, (by rw [HSY.out]), (H'.out.below hbw.drew).below hb1⟩).mono ?_; rintro e w2 ⟨v2, rfl, ⟨A2, n2, c2, rfl, h2⟩, hb2⟩; have hh2 : Ext W0 w2 := bt hh1 hb2) | (go_at_call 49; refine (zabs_any _ x _ ⟨_, _, _, (by rw [HSX.out]), H.out.below hbw.drew⟩).mono ?_; rintro e w1 ⟨v1, rfl, ⟨A1, n1, c1, rfl, h1⟩, hb1⟩; have hh1 : Ext W0 w1 := bt (Ext.drew W0) hb1))
    all_goals
      go_wp2_with fail
      go_meet
      rw [ng_nat, ng_nat]
      rw [Int.natAbs_natCast] at h1 h2
      exact ⟨_, _, _, _, _, _, GC.put (B0.out.below hh2) (B1.out.below hh2) (B2.out.below hh2) (h1.below hb2) h2 (bt hbw hh2)⟩
  case rest =>
    obtain ⟨P, n1, c1, P', n1', c1', hgc⟩ := hcut
    have HGC := Lib.hid hgc
    clear hgc k0 k1 f0 f1 hh0 hbw B0 B1 B2
    go_wp2
    go_loopg [] y.natAbs (fun b' wr => ∃ (a' : Nat) (A n c A' n' c' : _), GC w wr A n c A' n' c' a' b' ∧ Nat.gcd a' b' = gg ∧ dl BT a' ≤ 100000000000 ∧ dl BT b' ≤ 100000000000)
    case atStart => exact ⟨x.natAbs, _, _, _, _, _, _, HGC.out, HGG.out, HS.out, HS'.out⟩
    case round =>
      clear HGC
      obtain ⟨a', A1, n1, c1, A2, n2, c2, hgc, hg, hs1, hs2⟩ := hrel
      have hp := hgc.sb.posZ
      have hn2 := hgc.sb.le
      have hc2 := hgc.sb.cap
      have k0 := hgc.b0.cells
      have k1 := hgc.b1.cells
      have k2 := hgc.b2.cells
      have f2 := hgc.b2.free
      simp only [cellsAre, Nat.zero_add, Nat.reduceAdd, and_true] at k0 k1 k2
      have HGC := Lib.hid hgc
      have HG := Lib.hid hg
      have HS1 := Lib.hid hs1
      have HS2 := Lib.hid hs2
      clear hgc hg hs1 hs2
      by_cases h0 : 0 < n2
      · have hb0 : 0 < gk := hp.1 h0
        clear hp
        go_wp2_with fail
        refine (zdivmod_nn _ _ _ _ _ _ a' gk _ HGC.out.sa HGC.out.sb hb0 HS1.out HS2.out).mono ?_
        rintro e w1 ⟨v1, rfl, ⟨A3, n3, c3, A4, n4, c4, rfl, h3, h4⟩, hb1⟩
        have hlt := HGC.out.b2.lt
        have hsz := hb1.size
        have C0 := Lib.hid (HGC.out.b0.below hb1)
        have C1 := Lib.hid (HGC.out.b1.below hb1)
        have C2 := Lib.hid (HGC.out.b2.below hb1)
        have CA := Lib.hid (HGC.out.sb.below hb1)
        have H4 := Lib.hid h4
        have HB1 := Lib.hid (bt HGC.out.bw hb1)
        clear k0 k1 k2 f2 h3 h4 hb1
        go_wp2
        refine wp_world (fun W5 => Blk W5 (w1.heap.size + 1) TZ #[.bool false, .slice A4 n4 c4] ∧ Below w1.heap.size w1 W5) (by exact ⟨Blk.new_ _ _ (by simp), by go_grown⟩) ?_
        rintro W5 ⟨d6, hb5⟩
        have D0 := Lib.hid (C0.out.below hb5)
        have D1 := Lib.hid (C1.out.below hb5)
        have D2 := Lib.hid (C2.out.below hb5)
        have DA := Lib.hid (CA.out.below hb5)
        have D4 := Lib.hid (H4.out.below hb5)
        have HB5 := Lib.hid (bt HB1.out hb5)
        have k0 := D0.out.cells
        have k1 := D1.out.cells
        have k6 := d6.cells
        have f0 := D0.out.free
        have f1 := D1.out.free
        simp only [cellsAre, Nat.zero_add, Nat.reduceAdd, and_true] at k0 k1 k6
        have n1' : w.heap.size ≠ w1.heap.size + 1 := by omega
        have n2' : w1.heap.size + 1 ≠ w.heap.size := by omega
        have n3' : w.heap.size + 1 ≠ w1.heap.size + 1 := by omega
        have n4' : w1.heap.size + 1 ≠ w.heap.size + 1 := by omega
        clear d6 hb5 hlt hsz
        go_region
        go_wp2
        go_roundg (a' % gk)
        case measure => exact Nat.mod_lt _ hb0
        case rel => exact ⟨gk, _, _, _, _, _, _, (GC.put D0.out D1.out D2.out DA.out D4.out HB5.out).drew, by rw [← HG.out, Nat.gcd_comm a' gk, Nat.gcd_comm gk (a' % gk)]; exact (Nat.gcd_rec gk a').symm, HS2.out, gcd_bound a' gk _ HS2.out hb0⟩
      · have hg0 : gk = 0 := by omega
        have HG0 := Lib.hid hg0
        clear hp hg0
        go_wp2
        (try simp only [Exit.inBlock, Exit.then])
        refine bodyPost_ret (v := .agg #[.bool false, .slice A1 n1 c1]) (by simp [results, Try.results25, go_sem, k2]) rfl ?_
        have e0 := HG.out
        rw [HG0.out, Nat.gcd_zero_right] at e0
        have hF := (HGC.out.b2.heldS.set_ 0 (.bool false)).set_ 1 (.slice A1 n1 c1)
        exact ⟨_, rfl, ⟨A1, n1, c1, rfl, by rw [← e0]; exact HGC.out.sa.held hF (by decide)⟩, hF.below HGC.out.bw (by omega)⟩
end Go.Proofs.Tb
/- Contracts of the reference's fractions: Lowest. -/
namespace Go.Proofs.Tb
open Go.RowKit
attribute [local go_sem] cell_set_same
attribute [local go_sem] field_Z1

theorem gcd_pos_int (p q : Int) (hq : 0 < q) : 0 < Int.gcd p q := Int.gcd_pos_of_ne_zero_right _ (by omega)
theorem s10_gcd (p q : Int) (hq : 0 < q) : s10 (Int.gcd p q : Int) ≤ s10 q := by
  unfold s10
  rw [Int.natAbs_natCast]
  refine dl_mono BT two_BT _ _ ?_
  have h : (Int.gcd p q : Int) ∣ q := Int.gcd_dvd_right _ _
  have := Int.le_of_dvd hq h
  omega
set_option maxHeartbeats 1600000 in
set_option maxRecDepth 100000 in
theorem zlowest_any (v : Value) (p q : Int) (w : World) (h : ZQ w v p q) (hs : s10 p ≤ 100000000000) (hs' : s10 q ≤ 100000000000) :
    Calls Try.prog 52 #[v] w (Ret (fun v w' => ZQ w' v (lown p q) (lowd p q)) w) := by
  obtain ⟨A, n, c, A', n', c', rfl, h, h', hq⟩ := h
  have H := Lib.hid h
  have H' := Lib.hid h'
  have HQ := Lib.hid hq
  have HS := Lib.hid hs
  have HS' := Lib.hid hs'
  obtain ⟨g, hg⟩ : ∃ g, Int.gcd p q = g := ⟨_, rfl⟩
  have HG := Lib.hid hg
  have HG0 := Lib.hid (show 0 < g by rw [← hg]; exact gcd_pos_int p q hq)
  have HGS := Lib.hid (show s10 (g : Int) ≤ 100000000000 by rw [← hg]; exact Nat.le_trans (s10_gcd p q hq) hs')
  clear h h' hq hs hs' hg
  go_enter Try.func52, Try.ntmps52
  go_wp2_with fail
  have hbx : Below w.heap.size w ((w.alloc (.cells #[.bool (ng p), .slice A n c, .bool (ng q), .slice A' n' c'] TQ)).alloc (.cells #[.bool false, .slice none 0 0, .bool false, .slice none 0 0] TQ)) := by go_grown
  have b0 : Blk ((w.alloc (.cells #[.bool (ng p), .slice A n c, .bool (ng q), .slice A' n' c'] TQ)).alloc (.cells #[.bool false, .slice none 0 0, .bool false, .slice none 0 0] TQ)) w.heap.size TQ #[.bool (ng p), .slice A n c, .bool (ng q), .slice A' n' c'] := (Blk.new_ _ _ rfl).alloc _
  have b1 : Blk ((w.alloc (.cells #[.bool (ng p), .slice A n c, .bool (ng q), .slice A' n' c'] TQ)).alloc (.cells #[.bool false, .slice none 0 0, .bool false, .slice none 0 0] TQ)) (w.heap.size + 1) TQ #[.bool false, .slice none 0 0, .bool false, .slice none 0 0] := Blk.new_ _ _ (by simp)
  refine (zgcd_any _ _ p q _ ⟨A, n, c, rfl, H.out.below hbx⟩ ⟨A', n', c', rfl, H'.out.below hbx⟩ HS.out HS'.out).mono ?_
  rintro e w1 ⟨v1, rfl, ⟨A1, n1, c1, rfl, h1⟩, hb1⟩
  rw [HG.out] at h1
  have B0 := Lib.hid (b0.below hb1)
  have B1 := Lib.hid (b1.below hb1)
  have HW1 := Lib.hid (bt hbx hb1)
  have H1 := Lib.hid h1
  have k0 := B0.out.cells
  have lt0 := B0.out.lt
  simp only [cellsAre, Nat.zero_add, Nat.reduceAdd, and_true] at k0
  clear hbx b0 b1 hb1 h1
  go_wp2_with fail
  clear k0 lt0
  obtain ⟨W2, hW2⟩ : ∃ W2, W2 = w1.alloc (.cells #[.bool false, .slice A1 n1 c1] TZ) := ⟨_, rfl⟩
  have d3 : Blk W2 w1.heap.size TZ #[.bool false, .slice A1 n1 c1] := by rw [hW2]; exact Blk.new_ _ _ rfl
  have hb12 : Below w1.heap.size w1 W2 := by rw [hW2]; go_grown
  rw [← hW2]
  clear hW2
  refine (zdivmod_any _ _ p (g : Int) _ ⟨A, n, c, rfl, H.out.below (bt HW1.out hb12)⟩ ⟨A1, n1, c1, by rw [ng_nat], by rw [Int.natAbs_natCast]; exact H1.out.below hb12⟩ (by have := HG0.out; omega) HS.out HGS.out).mono ?_
  rintro e w2 ⟨v2, rfl, ⟨v3, v4, rfl, ⟨A2, n2, c2, rfl, h2⟩, ⟨A3, n3, c3, rfl, h3⟩⟩, hb2⟩
  have hb := bt hb12 hb2
  have C0 := Lib.hid (B0.out.below hb)
  have C1 := Lib.hid (B1.out.below hb)
  have C3 := Lib.hid (d3.below hb2)
  have HW2 := Lib.hid (bt HW1.out hb)
  have H2 := Lib.hid h2
  have G2 := Lib.hid (H1.out.below hb)
  have k0 := C0.out.cells
  have k3 := C3.out.cells
  have lt0 := C0.out.lt
  have lt3 := C3.out.lt
  simp only [cellsAre, Nat.zero_add, Nat.reduceAdd, and_true] at k0 k3
  clear hb12 d3 h2 h3 hb2 hb B0 B1
  go_wp2_with fail
  clear k0 k3 lt0 lt3
  obtain ⟨W4, hW4⟩ : ∃ W4, W4 = (w2.alloc (.cells #[.bool (ng (p / (g : Int))), .slice A2 n2 c2] TZ)).alloc (.cells #[.bool (ng (p % (g : Int))), .slice A3 n3 c3] TZ) := ⟨_, rfl⟩
  have d4 : Blk W4 w2.heap.size TZ #[.bool (ng (p / (g : Int))), .slice A2 n2 c2] := by rw [hW4]; exact (Blk.new_ _ _ rfl).alloc _
  have hb24 : Below w2.heap.size w2 W4 := by rw [hW4]; go_grown
  rw [← hW4]
  clear hW4
  refine (zdivmod_any _ _ q (g : Int) _ ⟨A', n', c', rfl, H'.out.below (bt HW2.out hb24)⟩ ⟨A1, n1, c1, by rw [ng_nat], by rw [Int.natAbs_natCast]; exact G2.out.below hb24⟩ (by have := HG0.out; omega) HS'.out HGS.out).mono ?_
  rintro e w5 ⟨v5, rfl, ⟨v6, v7, rfl, ⟨A5, n5, c5, rfl, h5⟩, ⟨A6, n6, c6, rfl, h6⟩⟩, hb5⟩
  have hb := bt hb24 hb5
  have D1 := Lib.hid (C1.out.below hb)
  have D4 := Lib.hid (d4.below hb5)
  have HW5 := Lib.hid (bt HW2.out hb)
  have H5 := Lib.hid h5
  have G5 := Lib.hid (H2.out.below hb)
  clear hb24 d4 h5 h6 hb5 hb C0 C1
  go_upto_region 4 with fail
  refine wp_world (fun W6 => Blk W6 w5.heap.size TZ #[.bool (ng (q / (g : Int))), .slice A5 n5 c5] ∧ Below w5.heap.size w5 W6) (by exact ⟨(Blk.new_ _ _ rfl).alloc _, by go_grown⟩) ?_
  rintro W6 ⟨d6, hb6⟩
  have E1 := Lib.hid (D1.out.below hb6)
  have E4 := Lib.hid (D4.out.below hb6)
  have HW6 := Lib.hid (bt HW5.out hb6)
  have H5' := Lib.hid (H5.out.below hb6)
  have G5' := Lib.hid (G5.out.below hb6)
  have k1 := E1.out.cells
  have f1 := E1.out.free
  have k4 := E4.out.cells
  have k6 := d6.cells
  simp only [cellsAre, Nat.zero_add, Nat.reduceAdd, and_true] at k1 k4 k6
  clear d6 hb6
  go_wp2
  (try simp only [Exit.inBlock, Exit.then])
  refine bodyPost_ret (v := .agg #[.bool (ng (p / (g : Int))), .slice A2 n2 c2, .bool (ng (q / (g : Int))), .slice A5 n5 c5]) (by simp [results, Try.results52, go_sem, k1]) rfl ?_
  have hF := (((E1.out.heldS.set_ 0 (.bool (ng (p / (g : Int))))).set_ 1 (.slice A2 n2 c2)).set_ 2 (.bool (ng (q / (g : Int))))).set_ 3 (.slice A5 n5 c5)
  have e1 : lown p q = p / (g : Int) := by unfold lown; rw [HG.out]
  have e2 : lowd p q = q / (g : Int) := by unfold lowd; rw [HG.out]
  exact ⟨_, rfl, ⟨A2, n2, c2, A5, n5, c5, by rw [e1, e2], by rw [e1]; exact G5'.out.held hF (by decide), by rw [e2]; exact H5'.out.held hF (by decide), lowd_pos p q HQ.out⟩, hF.below HW6.out (by omega)⟩
end Go.Proofs.Tb
/- Contracts of the reference's fractions: Frac, Valid. -/
namespace Go.Proofs.Tb
open Go.RowKit
attribute [local go_sem] cell_set_same
attribute [local go_sem] field_Z1

theorem Blk.put4 {w : World} {g : Nat} {T : TypeId} {a b c d : Value} (h : Blk w g T #[a, b, c, d]) (x0 x1 x2 x3 : Value) :
    Blk ((((w.setCell ⟨g, 0, none⟩ x0).setCell ⟨g, 1, none⟩ x1).setCell ⟨g, 2, none⟩ x2).setCell ⟨g, 3, none⟩ x3) g T #[x0, x1, x2, x3] := by
  have s := (((h.set_ 0 x0).set_ 1 x1).set_ 2 x2).set_ 3 x3
  have e : (((#[a, b, c, d].setIfInBounds 0 x0).setIfInBounds 1 x1).setIfInBounds 2 x2).setIfInBounds 3 x3 = #[x0, x1, x2, x3] := by simp
  rw [e] at s
  exact s
theorem Blk.put2 {w : World} {g : Nat} {T : TypeId} {a b : Value} (h : Blk w g T #[a, b]) (x0 x1 : Value) : Blk ((w.setCell ⟨g, 0, none⟩ x0).setCell ⟨g, 1, none⟩ x1) g T #[x0, x1] := by
  have s := (h.set_ 0 x0).set_ 1 x1
  have e : (#[a, b].setIfInBounds 0 x0).setIfInBounds 1 x1 = #[x0, x1] := by simp
  rw [e] at s
  exact s
/-- A valid fraction. -/
def VF (n d : Int) : Prop := (1 ≤ d ∧ d ≤ 4611686018427387904 ∧ -4611686018427387904 ≤ n ∧ n ≤ 4611686018427387904) ∧ Int.gcd n d = 1
instance (n d : Int) : Decidable (VF n d) := by unfold VF; infer_instance
def vF (n d : Int) : Bool := decide (VF n d)
theorem vF_true {n d : Int} (h : VF n d) : vF n d = true := by unfold vF; simpa using h
theorem vF_false {n d : Int} (h : ¬ VF n d) : vF n d = false := by unfold vF; simpa using h
theorem vF_sign (n d : Int) (h : 1 ≤ d ∧ d ≤ 4611686018427387904 ∧ -4611686018427387904 ≤ n ∧ n ≤ 4611686018427387904) : (Int.sign ((Int.gcd n d : Int) + -1) == 0) = vF n d := by
  have h0 := gcd_pos_int n d (by omega)
  by_cases hg : Int.gcd n d = 1
  · rw [hg, vF_true ⟨h, hg⟩]; rfl
  · rw [vF_false (fun h => hg h.2), Int.sign_eq_one_of_pos (by omega)]; rfl
set_option maxHeartbeats 1600000 in
set_option maxRecDepth 100000 in
theorem zvalid_any (xn xd : Int) (w : World) (h1 : -9223372036854775808 ≤ xn) (h2 : xn ≤ 9223372036854775807) (h3 : -9223372036854775808 ≤ xd) (h4 : xd ≤ 9223372036854775807) :
    Calls Try.prog 7 #[.agg #[.int .i64 xn, .int .i64 xd]] w (Ret (fun v _ => v = .bool (vF xn xd)) w) := by
  by_cases g1 : xd < 1
  · have HF := Lib.hid (vF_false (n := xn) (d := xd) (fun h => by have := h.1.1; omega))
    have d1 : decide (xd < 1) = true := by simpa using g1
    go_enter Try.func7, Try.ntmps7
    go_wp2
    go_returns
    exact ⟨_, rfl, congrArg Value.bool HF.out.symm, by go_grown⟩
  have d1 : decide (xd < 1) = false := by simpa using g1
  by_cases g2 : 4611686018427387904 < xd
  · have HF := Lib.hid (vF_false (n := xn) (d := xd) (fun h => by have := h.1.2.1; omega))
    have d2 : decide (4611686018427387904 < xd) = true := by simpa using g2
    go_enter Try.func7, Try.ntmps7
    go_wp2
    go_returns
    exact ⟨_, rfl, congrArg Value.bool HF.out.symm, by go_grown⟩
  have d2 : decide (4611686018427387904 < xd) = false := by simpa using g2
  by_cases g3 : xn < -4611686018427387904
  · have HF := Lib.hid (vF_false (n := xn) (d := xd) (fun h => by have := h.1.2.2.1; omega))
    have d3 : decide (xn < -4611686018427387904) = true := by simpa using g3
    go_enter Try.func7, Try.ntmps7
    go_wp2
    go_returns
    exact ⟨_, rfl, congrArg Value.bool HF.out.symm, by go_grown⟩
  have d3 : decide (xn < -4611686018427387904) = false := by simpa using g3
  by_cases g4 : 4611686018427387904 < xn
  · have HF := Lib.hid (vF_false (n := xn) (d := xd) (fun h => by have := h.1.2.2.2; omega))
    have d4 : decide (4611686018427387904 < xn) = true := by simpa using g4
    go_enter Try.func7, Try.ntmps7
    go_wp2
    go_returns
    exact ⟨_, rfl, congrArg Value.bool HF.out.symm, by go_grown⟩
  have d4 : decide (4611686018427387904 < xn) = false := by simpa using g4
  have HG := Lib.hid (vF_sign xn xd ⟨by omega, by omega, by omega, by omega⟩)
  have SZ1 := Lib.hid (s10_small xn h1 h2)
  have SZ2 := Lib.hid (s10_small xd h3 h4)
  have SZG := Lib.hid (show s10 (Int.gcd xn xd : Int) ≤ 5 from Nat.le_trans (s10_gcd xn xd (by omega)) (s10_small xd h3 h4))
  obtain ⟨gg, hgg⟩ : ∃ g, Int.gcd xn xd = g := ⟨_, rfl⟩
  rw [hgg] at HG SZG
  have HGG := Lib.hid hgg
  clear hgg
  go_enter Try.func7, Try.ntmps7
  go_wp2
  refine wp_world (fun W0 => Blk W0 w.heap.size TF #[.int .i64 xn, .int .i64 xd] ∧ Below w.heap.size w W0) (by exact ⟨Blk.new_ _ _ rfl, by go_grown⟩) ?_
  rintro W0 ⟨b0, hbw⟩
  have k0 := fun w' (hh : Ext W0 w') => (b0.below hh).cells
  simp only [cellsAre, Nat.zero_add, Nat.reduceAdd, and_true] at k0
  have hst : Ext W0 W0.drew := Ext.drew _
  have bw0 : Below w.heap.size w W0.drew := hbw.drew
  clear b0 g1 g2 g3 g4 d1 d2 d3 d4
  go_region_held3 (fun w' => Ext W0 w') (first | assumption | exact bt (by assumption) (by assumption))
    (first | (go_at_call 24; have tk := hb4; refine (zcmp_any _ _ (gg : Int) 1 _ ((ZI.of_nat hx3).below hb4) hx4 (by have := SZG.out; omega) (by have := s10_small 1 (by omega) (by omega); omega)).mono ?_; rintro e w5 ⟨v5, rfl, hv5, hb5⟩; subst hv5; have hh5 : Ext W0 w5 := bt hh4 hb5; have bw5 := bt bw4 hb5) | (go_at_call 26; have tk := hb3; refine (zint_any 1 _ (by omega) (by omega)).mono ?_; rintro e w4 ⟨v4, rfl, hx4, hb4⟩; have hh4 : Ext W0 w4 := bt hh3 hb4; have bw4 := bt bw3 hb4) | (go_at_call 25; have tk := hb2; refine (zgcd_any _ _ xn xd _ (hx1.below hb2) hx2 (by have := SZ1.out; omega) (by have := SZ2.out; omega)).mono ?_; rintro e w3 ⟨v3, rfl, ⟨A3, n3, c3, rfl, hx3⟩, hb3⟩; rw [HGG.out] at hx3; have hh3 : Ext W0 w3 := bt hh2 hb3; have bw3 := bt bw2 hb3) | (go_at_call 26; have tk := hb1; refine (zint_any xd _ h3 h4).mono ?_; rintro e w2 ⟨v2, rfl, hx2, hb2⟩; have hh2 : Ext W0 w2 := bt hh1 hb2; have bw2 := bt bw1 hb2) | (go_at_call 26; refine (zint_any xn _ h1 h2).mono ?_; rintro e w1 ⟨v1, rfl, hx1, hb1⟩; have hh1 : Ext W0 w1 := bt hst hb1; have bw1 := bt bw0 hb1))
  go_wp2
  go_returns
  exact ⟨_, rfl, congrArg Value.bool HG.out, bw5⟩
end Go.Proofs.Tb
