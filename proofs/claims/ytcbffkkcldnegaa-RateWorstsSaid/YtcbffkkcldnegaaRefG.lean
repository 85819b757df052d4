/- Contracts of the reference's numbers of any size: the straight-line functions (printed by a program of ours). -/
import Derived.Test.YtcbffkkcldnegaaRefF
import Derived.Test.YtcbffkkcldnegaaWideL
set_option linter.unusedVariables false
set_option linter.unusedSimpArgs false
namespace Go.Proofs.Tb
open Go.RowKit
attribute [local go_sem] cell_set_same
attribute [local go_sem ↓] Go.wp_at_zero Go.wp_at_succ
theorem s10_neg (x : Int) : s10 (-x) = s10 x := by unfold s10; rw [Int.natAbs_neg]
theorem s10_abs (x : Int) : s10 (x.natAbs : Int) = s10 x := by unfold s10; rw [Int.natAbs_natCast]
theorem s10_add (x y : Int) : s10 (x + y) ≤ s10 x + s10 y + 1 := by
  unfold s10
  have h1 := dl_add BT two_BT x.natAbs y.natAbs (dl BT x.natAbs + dl BT y.natAbs) (by omega) (by omega)
  have h2 := dl_mono BT two_BT (x + y).natAbs (x.natAbs + y.natAbs) (Int.natAbs_add_le x y)
  omega
theorem s10_sub (x y : Int) : s10 (x + -y) ≤ s10 x + s10 y + 1 := by
  have := s10_add x (-y)
  rw [s10_neg] at this
  exact this
theorem s10_mul (x y : Int) : s10 (x * y) ≤ s10 x + s10 y := by
  unfold s10
  rw [Int.natAbs_mul]
  exact dl_mul BT two_BT _ _
theorem s10_small (x : Int) (h : -9223372036854775808 ≤ x) (h' : x ≤ 9223372036854775807) : s10 x ≤ 5 := by unfold s10; exact dl_i64 _ (by omega)
theorem s10_rn (n d : Int) : s10 (rn n d) = s10 n := by unfold rn; split; exact s10_neg n; rfl
theorem s10_rd (d : Int) : s10 (rd d) = s10 d := by unfold rd s10; simp
/-- The type of the reference's fractions. -/
abbrev TQ : TypeId := 37
/-- A fraction's value reads as p/q. -/
def ZQ (w : World) (v : Value) (p q : Int) : Prop := ∃ A n c A' n' c', v = .agg #[.bool (ng p), .slice A n c, .bool (ng q), .slice A' n' c'] ∧ Sl TN w A n c (LZ p.natAbs) ∧ Sl TN w A' n' c' (LZ q.natAbs) ∧ 0 < q
theorem ZQ.below {w w' : World} {v : Value} {p q : Int} (h : ZQ w v p q) (hb : Below w.heap.size w w') : ZQ w' v p q := by
  obtain ⟨A, n, c, A', n', c', hv, h1, h2, hq⟩ := h
  exact ⟨A, n, c, A', n', c', hv, h1.below hb, h2.below hb, hq⟩
set_option maxHeartbeats 800000 in
theorem zsub_any (a b : Value) (az : Int) (bz : Int) (w : World) (ha : ZI w a az) (hb : ZI w b bz) (hs : s10 az ≤ 300000000000) (hs2 : s10 bz ≤ 300000000000) :
    Calls Try.prog 102 #[a, b] w (Ret (fun v w' => ZI w' v (az + -bz)) w) := by
  obtain ⟨aA0, an0, ac0, rfl, ah0⟩ := ha
  obtain ⟨bA0, bn0, bc0, rfl, bh0⟩ := hb
  have aH0 := Lib.hid ah0
  clear ah0
  have bH0 := Lib.hid bh0
  clear bh0
  go_enter Try.func102, Try.ntmps102
  go_wp2
  refine wp_world (fun W0 => Blk W0 (w.heap.size) TZ #[.bool (ng az), .slice aA0 an0 ac0] ∧ Blk W0 (w.heap.size + 1) TZ #[.bool (ng bz), .slice bA0 bn0 bc0] ∧ Blk W0 (w.heap.size + 1 + 1) TZ #[.bool false, .slice none 0 0] ∧ Below w.heap.size w W0) (by exact ⟨((Blk.new_ _ _ rfl).alloc _).alloc _, (Blk.new_ _ _ (by simp)).alloc _, Blk.new_ _ _ (by simp), by go_grown⟩) ?_
  rintro W0 ⟨b0, b1, b2, hbw⟩
  have k0 := fun w' (hh : Held (w.heap.size + 1 + 1) 2 TZ W0 w') => (b0.held hh (by omega)).cells
  have k1 := fun w' (hh : Held (w.heap.size + 1 + 1) 2 TZ W0 w') => (b1.held hh (by omega)).cells
  have hst : Held (w.heap.size + 1 + 1) 2 TZ W0 W0.drew := b2.heldS.drew
  have r1 := (rules (w.heap.size + 1 + 1) 2 TZ W0).some
  have r2 := (rules (w.heap.size + 1 + 1) 2 TZ W0).free
  simp only [cellsAre, Nat.zero_add, Nat.reduceAdd, and_true] at k0 k1
  clear b0 b1 b2
  have bw0 : Below w.heap.size w W0.drew := hbw.drew
  go_region_held3 (fun w' => Held (w.heap.size + 1 + 1) 2 TZ W0 w') (first | assumption | exact Held.trans_ (by assumption) (by assumption) | exact Held.set_ (Held.set_ ((by assumption)) _ _) _ _)
    (first | (go_at_call 69; have tk := hb1; refine (zadd_any _ _ (az) (-bz) _ ⟨_, _, _, rfl, (aH0.out.below bw1)⟩ ⟨_, _, _, rfl, hx1_0⟩ (by have z0 := s10_neg (bz); omega) (by have z0 := s10_neg (bz); omega)).mono ?_; rintro e w2 ⟨v2, rfl, ⟨A2_0, n2_0, c2_0, rfl, hx2_0⟩, hb2⟩; have hh2 : Held (w.heap.size + 1 + 1) 2 TZ W0 w2 := hh1.trans_ hb2; have bw2 := bt bw1 hb2) | (go_at_call 118; refine (zneg_any _ (bz) _ ⟨_, _, _, rfl, (bH0.out.below bw0)⟩).mono ?_; rintro e w1 ⟨v1, rfl, ⟨A1_0, n1_0, c1_0, rfl, hx1_0⟩, hb1⟩; have hh1 : Held (w.heap.size + 1 + 1) 2 TZ W0 w1 := hst.trans_ hb1; have bw1 := bt bw0 hb1))
  go_wp2
  (try simp only [Exit.inBlock, Exit.then])
  refine bodyPost_ret (v := .agg #[.bool (ng (az + (-bz))), .slice A2_0 n2_0 c2_0]) (by simp [results, Try.results102, go_sem, r1 _ hh2]) rfl ?_
  have hst2 := Held.set_ (Held.set_ (hh2.here) 0 (.bool (ng (az + (-bz))))) 1 (.slice A2_0 n2_0 c2_0)
  exact ⟨_, rfl, ⟨_, _, _, rfl, (hx2_0).held hst2 (by decide)⟩, (hh2.trans2 hst2).below hbw (by omega)⟩

set_option maxHeartbeats 800000 in
theorem zcmp_any (a b : Value) (az : Int) (bz : Int) (w : World) (ha : ZI w a az) (hb : ZI w b bz) (hs : s10 az ≤ 300000000000) (hs2 : s10 bz ≤ 300000000000) :
    Calls Try.prog 64 #[a, b] w (Ret (fun v _ => v = .int .i64 (Int.sign (az + -bz))) w) := by
  obtain ⟨aA0, an0, ac0, rfl, ah0⟩ := ha
  obtain ⟨bA0, bn0, bc0, rfl, bh0⟩ := hb
  have aH0 := Lib.hid ah0
  clear ah0
  have bH0 := Lib.hid bh0
  clear bh0
  go_enter Try.func64, Try.ntmps64
  go_wp2_with fail
  obtain ⟨W0, hW0⟩ : ∃ W0, W0 = ((w).alloc (.cells #[.bool (ng az), .slice aA0 an0 ac0] TZ)).alloc (.cells #[.bool (ng bz), .slice bA0 bn0 bc0] TZ) := ⟨_, rfl⟩
  have b0 : Blk W0 (w.heap.size) TZ #[.bool (ng az), .slice aA0 an0 ac0] := by rw [hW0]; exact (Blk.new_ _ _ rfl).alloc _
  have b1 : Blk W0 (w.heap.size + 1) TZ #[.bool (ng bz), .slice bA0 bn0 bc0] := by rw [hW0]; exact Blk.new_ _ _ (by simp)
  have hbw : Below w.heap.size w W0 := by rw [hW0]; go_grown
  rw [← hW0]
  clear hW0
  have k0 := fun w' (hh : Ext W0 w') => (b0.below hh).cells
  have k1 := fun w' (hh : Ext W0 w') => (b1.below hh).cells
  have hst : Ext W0 W0 := Ext.refl _
  simp only [cellsAre, Nat.zero_add, Nat.reduceAdd, and_true] at k0 k1
  clear b0 b1
  have bw0 : Below w.heap.size w W0 := hbw
  refine (zsub_any _ _ (az) (bz) _ ⟨_, _, _, rfl, (aH0.out.below bw0)⟩ ⟨_, _, _, rfl, (bH0.out.below bw0)⟩ (by omega) (by omega)).mono ?_; rintro e w1 ⟨v1, rfl, ⟨A1_0, n1_0, c1_0, rfl, hx1_0⟩, hb1⟩; have hh1 : Ext W0 w1 := bt hst hb1; have bw1 := bt bw0 hb1
  go_wp2_with (first | (go_at_call 101; have tk := hb1; refine (zsign_any _ (az + -bz) _ ⟨_, _, _, rfl, hx1_0⟩).mono ?_; rintro e w2 ⟨v2, rfl, rfl, hb2⟩; have hh2 : Ext W0 w2 := bt hh1 hb2; have bw2 := bt bw1 hb2))
  go_returns
  exact ⟨_, rfl, rfl, bw2⟩

set_option maxHeartbeats 1600000 in
theorem zover_any (v v' : Value) (x y : Int) (w : World) (h : ZI w v x) (h' : ZI w v' y) (hy : y ≠ 0) :
    Calls Try.prog 92 #[v, v'] w (Ret (fun v w' => ZQ w' v (rn x y) (rd y)) w) := by
  obtain ⟨A, n, c, rfl, h⟩ := h
  obtain ⟨A', n', c', rfl, h'⟩ := h'
  have H := Lib.hid h
  have H' := Lib.hid h'
  clear h h'
  obtain ⟨s, hsx⟩ : ∃ s, ng x = s := ⟨_, rfl⟩
  by_cases hy0 : y < 0
  · have hs : ng y = true := by unfold ng; simpa using hy0
    have HN := Lib.hid (show rn x y = -x by unfold rn; rw [if_pos hy0])
    have HD := Lib.hid (show rd y = -y by unfold rd; omega)
    have HSX := Lib.hid hsx
    have HY := Lib.hid hs
    rw [hsx, hs]
    clear hs hy hy0 hsx
    go_enter Try.func92, Try.ntmps92
    go_wp2
    refine wp_world (fun W0 => Blk W0 w.heap.size TZ #[.bool s, .slice A n c] ∧ Blk W0 (w.heap.size + 1) TZ #[.bool true, .slice A' n' c'] ∧ Blk W0 (w.heap.size + 1 + 1) TQ #[.bool false, .slice none 0 0, .bool false, .slice none 0 0] ∧ Below w.heap.size w W0) (by exact ⟨((Blk.new_ _ _ rfl).alloc _).alloc _, (Blk.new_ _ _ (by simp)).alloc _, Blk.new_ _ _ (by simp), by go_grown⟩) ?_
    rintro W0 ⟨b0, b1, b2, hbw⟩
    have k0 := fun w' (hh : Ext W0 w') => (b0.below hh).cells
    have k1 := fun w' (hh : Ext W0 w') => (b1.below hh).cells
    have k2 := fun w' (hh : Ext W0 w') => (b2.below hh).cells
    have f0 := fun w' (hh : Ext W0 w') => (b0.below hh).free
    have f1 := fun w' (hh : Ext W0 w') => (b1.below hh).free
    have f2 := fun w' (hh : Ext W0 w') => (b2.below hh).free
    simp only [cellsAre, Nat.zero_add, Nat.reduceAdd, and_true] at k0 k1 k2
    have B0 := Lib.hid b0
    have B1 := Lib.hid b1
    have B2 := Lib.hid b2
    have hh0 : Ext W0 W0 := Ext.refl _
    clear b0 b1 b2
    go_region_with (first | (go_at_call 118; have tk := hh1; refine (zneg_any _ y _ ⟨_, _, _, (by rw [HY.out]), (H'.out.below hbw.drew).below hb1⟩).mono ?_; rintro e w2 ⟨v2, rfl, ⟨A2, n2, c2, rfl, h2⟩, hb2⟩; have hh2 : Ext W0 w2 := bt hh1 hb2) | (go_at_call 118; refine (zneg_any _ x _ ⟨_, _, _, (by rw [HSX.out]), H.out.below hbw.drew⟩).mono ?_; rintro e w1 ⟨v1, rfl, ⟨A1, n1, c1, rfl, h1⟩, hb1⟩; have hh1 : Ext W0 w1 := bt (Ext.drew W0) hb1))
    all_goals
      go_wp2
      have kk0 := k0 w2 hh2
      have kk1 := k1 w2 hh2
      have kk2 := k2 w2 hh2
      clear k0 k1 k2 f0 f1 f2
      (try simp only [Exit.inBlock, Exit.then])
      refine bodyPost_ret (v := .agg #[.bool (ng (-x)), .slice A1 n1 c1, .bool (ng (-y)), .slice A2 n2 c2]) (by simp [results, Try.results92, go_sem, kk0, kk1, kk2]) rfl ?_
      have hM : HeldM [(w.heap.size, 2, TZ), (w.heap.size + 1, 2, TZ), (w.heap.size + 1 + 1, 4, TQ)] w2 w2 := by
        refine ⟨rfl, rfl, rfl, Nat.le_refl _, fun _ _ _ => rfl, ?_, ?_⟩
        all_goals
          intro r hr
          simp only [List.mem_cons, List.not_mem_nil, or_false] at hr
          rcases hr with rfl | rfl | rfl
          · exact ⟨_, B0.out.below hh2, rfl⟩
          · exact ⟨_, B1.out.below hh2, rfl⟩
          · exact ⟨_, B2.out.below hh2, rfl⟩
      have m0 : ∃ r, r ∈ [(w.heap.size, 2, TZ), (w.heap.size + 1, 2, TZ), (w.heap.size + 1 + 1, 4, TQ)] ∧ r.1 = w.heap.size := ⟨_, .head _, rfl⟩
      have m1 : ∃ r, r ∈ [(w.heap.size, 2, TZ), (w.heap.size + 1, 2, TZ), (w.heap.size + 1 + 1, 4, TQ)] ∧ r.1 = w.heap.size + 1 := ⟨_, .tail _ (.head _), rfl⟩
      have m2 : ∃ r, r ∈ [(w.heap.size, 2, TZ), (w.heap.size + 1, 2, TZ), (w.heap.size + 1 + 1, 4, TQ)] ∧ r.1 = w.heap.size + 1 + 1 := ⟨_, .tail _ (.tail _ (.head _)), rfl⟩
      have hF := ((((((((hM.set_ m0 0 (.bool (ng (-x)))).set_ m0 1 (.slice A1 n1 c1)).set_ m1 0 (.bool (ng (-y)))).set_ m1 1 (.slice A2 n2 c2)).set_ m2 0 (.bool (ng (-x)))).set_ m2 1 (.slice A1 n1 c1)).set_ m2 2 (.bool (ng (-y)))).set_ m2 3 (.slice A2 n2 c2))
      have hne : ∀ r, r ∈ [(w.heap.size, 2, TZ), (w.heap.size + 1, 2, TZ), (w.heap.size + 1 + 1, 4, TQ)] → TN ≠ r.2.2 := by
        intro r hr
        simp only [List.mem_cons, List.not_mem_nil, or_false] at hr
        rcases hr with rfl | rfl | rfl <;> first | exact (by decide : TN ≠ TZ) | exact (by decide : TN ≠ TQ)
      refine ⟨_, rfl, ⟨A1, n1, c1, A2, n2, c2, ?_, ?_, ?_, ?_⟩, hF.below (bt hbw hh2) ?_⟩
      · rw [HN.out, HD.out]
      · rw [HN.out]; exact (h1.below hb2).heldM hF hne
      · rw [HD.out]; exact h2.heldM hF hne
      · have := HY.out; unfold ng at this; simp at this; have := HD.out; omega
      · intro r hr
        simp only [List.mem_cons, List.not_mem_nil, or_false] at hr
        rcases hr with rfl | rfl | rfl <;> simp <;> omega
  · have hs : ng y = false := by unfold ng; simpa using hy0
    have HN := Lib.hid (show rn x y = x by unfold rn; rw [if_neg hy0])
    have HD := Lib.hid (show rd y = y by unfold rd; omega)
    have HY := Lib.hid hs
    have HYP := Lib.hid (show 0 < y by omega)
    have HSX := Lib.hid hsx
    rw [hsx, hs]
    clear hs hy hy0 hsx
    go_enter Try.func92, Try.ntmps92
    go_wp2
    go_returns
    have hb : Below w.heap.size w (((w.alloc (.cells #[.bool s, .slice A n c] TZ)).alloc (.cells #[.bool false, .slice A' n' c'] TZ)).alloc (.cells #[.bool s, .slice A n c, .bool false, .slice A' n' c'] TQ)) := by go_grown
    exact ⟨_, rfl, ⟨A, n, c, A', n', c', by rw [HN.out, HD.out, HSX.out, HY.out], by rw [HN.out]; exact H.out.below hb, by rw [HD.out]; exact H'.out.below hb, by rw [HD.out]; exact HYP.out⟩, hb⟩

set_option maxHeartbeats 800000 in
theorem zwhole_any (n : Int) (w : World)  (h1 : -9223372036854775808 ≤ n) (h2 : n ≤ 9223372036854775807) :
    Calls Try.prog 19 #[.int .i64 n] w (Ret (fun v w' => ZQ w' v (n) (1)) w) := by
  go_enter Try.func19, Try.ntmps19
  go_wp2_with fail
  obtain ⟨W0, hW0⟩ : ∃ W0, W0 = (w).alloc (.cells #[.bool false, .slice none 0 0, .bool false, .slice none 0 0] TQ) := ⟨_, rfl⟩
  have b0 : Blk W0 (w.heap.size) TQ #[.bool false, .slice none 0 0, .bool false, .slice none 0 0] := by rw [hW0]; exact Blk.new_ _ _ rfl
  have hbw : Below w.heap.size w W0 := by rw [hW0]; go_grown
  rw [← hW0]
  clear hW0
  have hst : Held (w.heap.size) 4 TQ W0 W0 := b0.heldS
  have r1 := (rules (w.heap.size) 4 TQ W0).some
  have r2 := (rules (w.heap.size) 4 TQ W0).free
  clear b0
  have bw0 : Below w.heap.size w W0 := hbw
  refine (zint_any (n) _ (by omega) (by omega)).mono ?_; rintro e w1 ⟨v1, rfl, ⟨A1_0, n1_0, c1_0, rfl, hx1_0⟩, hb1⟩; have hh1 : Held (w.heap.size) 4 TQ W0 w1 := hst.trans_ hb1; have bw1 := bt bw0 hb1
  go_wp2_with (first | (go_at_call 66; have tk := hb1; refine (zint_any (1) _ (by omega) (by omega)).mono ?_; rintro e w2 ⟨v2, rfl, ⟨A2_0, n2_0, c2_0, rfl, hx2_0⟩, hb2⟩; have hh2 : Held (w.heap.size) 4 TQ W0 w2 := hh1.trans_ hb2; have bw2 := bt bw1 hb2))
  (try simp only [Exit.inBlock, Exit.then])
  refine bodyPost_ret (v := .agg #[.bool (ng (n)), .slice A1_0 n1_0 c1_0, .bool (ng (1)), .slice A2_0 n2_0 c2_0]) (by simp [results, Try.results19, go_sem, r1 _ hh2]) rfl ?_
  have hst2 := Held.set_ (Held.set_ (Held.set_ (Held.set_ (hh2.here) 0 (.bool (ng (n)))) 1 (.slice A1_0 n1_0 c1_0)) 2 (.bool (ng (1)))) 3 (.slice A2_0 n2_0 c2_0)
  exact ⟨_, rfl, ⟨_, _, _, _, _, _, rfl, ((hx1_0.below hb2)).held hst2 (by decide), (hx2_0).held hst2 (by decide), (by decide)⟩, (hh2.trans2 hst2).below hbw (by omega)⟩

set_option maxHeartbeats 800000 in
theorem zqmul_any (a b : Value) (ap aq : Int) (bp bq : Int) (w : World) (ha : ZQ w a ap aq) (hb : ZQ w b bp bq) (hs : s10 ap + s10 aq + s10 bp + s10 bq ≤ 100000000000) :
    Calls Try.prog 23 #[a, b] w (Ret (fun v w' => ZQ w' v (ap * bp) (aq * bq)) w) := by
  obtain ⟨aA0, an0, ac0, aA1, an1, ac1, rfl, ah0, ah1, apos0⟩ := ha
  obtain ⟨bA0, bn0, bc0, bA1, bn1, bc1, rfl, bh0, bh1, bpos0⟩ := hb
  have aH0 := Lib.hid ah0
  clear ah0
  have aH1 := Lib.hid ah1
  clear ah1
  have aP0 := Lib.hid apos0
  clear apos0
  have bH0 := Lib.hid bh0
  clear bh0
  have bH1 := Lib.hid bh1
  clear bh1
  have bP0 := Lib.hid bpos0
  clear bpos0
  go_enter Try.func23, Try.ntmps23
  go_wp2
  refine wp_world (fun W0 => Blk W0 (w.heap.size) TQ #[.bool (ng ap), .slice aA0 an0 ac0, .bool (ng aq), .slice aA1 an1 ac1] ∧ Blk W0 (w.heap.size + 1) TQ #[.bool (ng bp), .slice bA0 bn0 bc0, .bool (ng bq), .slice bA1 bn1 bc1] ∧ Blk W0 (w.heap.size + 1 + 1) TQ #[.bool false, .slice none 0 0, .bool false, .slice none 0 0] ∧ Below w.heap.size w W0) (by exact ⟨((Blk.new_ _ _ rfl).alloc _).alloc _, (Blk.new_ _ _ (by simp)).alloc _, Blk.new_ _ _ (by simp), by go_grown⟩) ?_
  rintro W0 ⟨b0, b1, b2, hbw⟩
  have k0 := fun w' (hh : Held (w.heap.size + 1 + 1) 4 TQ W0 w') => (b0.held hh (by omega)).cells
  have k1 := fun w' (hh : Held (w.heap.size + 1 + 1) 4 TQ W0 w') => (b1.held hh (by omega)).cells
  have hst : Held (w.heap.size + 1 + 1) 4 TQ W0 W0.drew := b2.heldS.drew
  have r1 := (rules (w.heap.size + 1 + 1) 4 TQ W0).some
  have r2 := (rules (w.heap.size + 1 + 1) 4 TQ W0).free
  simp only [cellsAre, Nat.zero_add, Nat.reduceAdd, and_true] at k0 k1
  clear b0 b1 b2
  have bw0 : Below w.heap.size w W0.drew := hbw.drew
  go_region_held3 (fun w' => Held (w.heap.size + 1 + 1) 4 TQ W0 w') (first | assumption | exact Held.trans_ (by assumption) (by assumption) | exact Held.set_ (Held.set_ (Held.set_ (Held.set_ ((by assumption)) _ _) _ _) _ _) _ _)
    (first | (go_at_call 70; have tk := hb1; refine (zmul_any _ _ (aq) (bq) _ ⟨_, _, _, rfl, (aH1.out.below bw1)⟩ ⟨_, _, _, rfl, (bH1.out.below bw1)⟩ (by have z0 := s10_mul (ap) (bp); omega)).mono ?_; rintro e w2 ⟨v2, rfl, ⟨A2_0, n2_0, c2_0, rfl, hx2_0⟩, hb2⟩; have hh2 : Held (w.heap.size + 1 + 1) 4 TQ W0 w2 := hh1.trans_ hb2; have bw2 := bt bw1 hb2) | (go_at_call 70; refine (zmul_any _ _ (ap) (bp) _ ⟨_, _, _, rfl, (aH0.out.below bw0)⟩ ⟨_, _, _, rfl, (bH0.out.below bw0)⟩ (by omega)).mono ?_; rintro e w1 ⟨v1, rfl, ⟨A1_0, n1_0, c1_0, rfl, hx1_0⟩, hb1⟩; have hh1 : Held (w.heap.size + 1 + 1) 4 TQ W0 w1 := hst.trans_ hb1; have bw1 := bt bw0 hb1))
  go_wp2
  (try simp only [Exit.inBlock, Exit.then])
  refine bodyPost_ret (v := .agg #[.bool (ng (ap * bp)), .slice A1_0 n1_0 c1_0, .bool (ng (aq * bq)), .slice A2_0 n2_0 c2_0]) (by simp [results, Try.results23, go_sem, r1 _ hh2]) rfl ?_
  have hst2 := Held.set_ (Held.set_ (Held.set_ (Held.set_ (hh2.here) 0 (.bool (ng (ap * bp)))) 1 (.slice A1_0 n1_0 c1_0)) 2 (.bool (ng (aq * bq)))) 3 (.slice A2_0 n2_0 c2_0)
  exact ⟨_, rfl, ⟨_, _, _, _, _, _, rfl, ((hx1_0.below hb2)).held hst2 (by decide), (hx2_0).held hst2 (by decide), Int.mul_pos aP0.out bP0.out⟩, (hh2.trans2 hst2).below hbw (by omega)⟩

set_option maxHeartbeats 800000 in
theorem zqadd_any (a b : Value) (ap aq : Int) (bp bq : Int) (w : World) (ha : ZQ w a ap aq) (hb : ZQ w b bp bq) (hs : s10 ap + s10 aq + s10 bp + s10 bq ≤ 100000000000) :
    Calls Try.prog 22 #[a, b] w (Ret (fun v w' => ZQ w' v (ap * bq + bp * aq) (aq * bq)) w) := by
  obtain ⟨aA0, an0, ac0, aA1, an1, ac1, rfl, ah0, ah1, apos0⟩ := ha
  obtain ⟨bA0, bn0, bc0, bA1, bn1, bc1, rfl, bh0, bh1, bpos0⟩ := hb
  have aH0 := Lib.hid ah0
  clear ah0
  have aH1 := Lib.hid ah1
  clear ah1
  have aP0 := Lib.hid apos0
  clear apos0
  have bH0 := Lib.hid bh0
  clear bh0
  have bH1 := Lib.hid bh1
  clear bh1
  have bP0 := Lib.hid bpos0
  clear bpos0
  go_enter Try.func22, Try.ntmps22
  go_wp2
  refine wp_world (fun W0 => Blk W0 (w.heap.size) TQ #[.bool (ng ap), .slice aA0 an0 ac0, .bool (ng aq), .slice aA1 an1 ac1] ∧ Blk W0 (w.heap.size + 1) TQ #[.bool (ng bp), .slice bA0 bn0 bc0, .bool (ng bq), .slice bA1 bn1 bc1] ∧ Blk W0 (w.heap.size + 1 + 1) TQ #[.bool false, .slice none 0 0, .bool false, .slice none 0 0] ∧ Below w.heap.size w W0) (by exact ⟨((Blk.new_ _ _ rfl).alloc _).alloc _, (Blk.new_ _ _ (by simp)).alloc _, Blk.new_ _ _ (by simp), by go_grown⟩) ?_
  rintro W0 ⟨b0, b1, b2, hbw⟩
  have k0 := fun w' (hh : Held (w.heap.size + 1 + 1) 4 TQ W0 w') => (b0.held hh (by omega)).cells
  have k1 := fun w' (hh : Held (w.heap.size + 1 + 1) 4 TQ W0 w') => (b1.held hh (by omega)).cells
  have hst : Held (w.heap.size + 1 + 1) 4 TQ W0 W0.drew := b2.heldS.drew
  have r1 := (rules (w.heap.size + 1 + 1) 4 TQ W0).some
  have r2 := (rules (w.heap.size + 1 + 1) 4 TQ W0).free
  simp only [cellsAre, Nat.zero_add, Nat.reduceAdd, and_true] at k0 k1
  clear b0 b1 b2
  have bw0 : Below w.heap.size w W0.drew := hbw.drew
  go_region_held3 (fun w' => Held (w.heap.size + 1 + 1) 4 TQ W0 w') (first | assumption | exact Held.trans_ (by assumption) (by assumption) | exact Held.set_ (Held.set_ (Held.set_ (Held.set_ ((by assumption)) _ _) _ _) _ _) _ _)
    (first | (go_at_call 70; have tk := hb3; refine (zmul_any _ _ (aq) (bq) _ ⟨_, _, _, rfl, (aH1.out.below bw3)⟩ ⟨_, _, _, rfl, (bH1.out.below bw3)⟩ (by have z0 := s10_mul (ap) (bq); have z1 := s10_mul (bp) (aq); have z2 := s10_add (ap * bq) (bp * aq); omega)).mono ?_; rintro e w4 ⟨v4, rfl, ⟨A4_0, n4_0, c4_0, rfl, hx4_0⟩, hb4⟩; have hh4 : Held (w.heap.size + 1 + 1) 4 TQ W0 w4 := hh3.trans_ hb4; have bw4 := bt bw3 hb4) | (go_at_call 69; have tk := hb2; refine (zadd_any _ _ (ap * bq) (bp * aq) _ ⟨_, _, _, rfl, (hx1_0.below hb2)⟩ ⟨_, _, _, rfl, hx2_0⟩ (by have z0 := s10_mul (ap) (bq); have z1 := s10_mul (bp) (aq); omega) (by have z0 := s10_mul (ap) (bq); have z1 := s10_mul (bp) (aq); omega)).mono ?_; rintro e w3 ⟨v3, rfl, ⟨A3_0, n3_0, c3_0, rfl, hx3_0⟩, hb3⟩; have hh3 : Held (w.heap.size + 1 + 1) 4 TQ W0 w3 := hh2.trans_ hb3; have bw3 := bt bw2 hb3) | (go_at_call 70; have tk := hb1; refine (zmul_any _ _ (bp) (aq) _ ⟨_, _, _, rfl, (bH0.out.below bw1)⟩ ⟨_, _, _, rfl, (aH1.out.below bw1)⟩ (by have z0 := s10_mul (ap) (bq); omega)).mono ?_; rintro e w2 ⟨v2, rfl, ⟨A2_0, n2_0, c2_0, rfl, hx2_0⟩, hb2⟩; have hh2 : Held (w.heap.size + 1 + 1) 4 TQ W0 w2 := hh1.trans_ hb2; have bw2 := bt bw1 hb2) | (go_at_call 70; refine (zmul_any _ _ (ap) (bq) _ ⟨_, _, _, rfl, (aH0.out.below bw0)⟩ ⟨_, _, _, rfl, (bH1.out.below bw0)⟩ (by omega)).mono ?_; rintro e w1 ⟨v1, rfl, ⟨A1_0, n1_0, c1_0, rfl, hx1_0⟩, hb1⟩; have hh1 : Held (w.heap.size + 1 + 1) 4 TQ W0 w1 := hst.trans_ hb1; have bw1 := bt bw0 hb1))
  go_wp2
  (try simp only [Exit.inBlock, Exit.then])
  refine bodyPost_ret (v := .agg #[.bool (ng ((ap * bq) + (bp * aq))), .slice A3_0 n3_0 c3_0, .bool (ng (aq * bq)), .slice A4_0 n4_0 c4_0]) (by simp [results, Try.results22, go_sem, r1 _ hh4]) rfl ?_
  have hst2 := Held.set_ (Held.set_ (Held.set_ (Held.set_ (hh4.here) 0 (.bool (ng ((ap * bq) + (bp * aq))))) 1 (.slice A3_0 n3_0 c3_0)) 2 (.bool (ng (aq * bq)))) 3 (.slice A4_0 n4_0 c4_0)
  exact ⟨_, rfl, ⟨_, _, _, _, _, _, rfl, ((hx3_0.below hb4)).held hst2 (by decide), (hx4_0).held hst2 (by decide), Int.mul_pos aP0.out bP0.out⟩, (hh4.trans2 hst2).below hbw (by omega)⟩

set_option maxHeartbeats 800000 in
theorem zqsub_any (a b : Value) (ap aq : Int) (bp bq : Int) (w : World) (ha : ZQ w a ap aq) (hb : ZQ w b bp bq) (hs : s10 ap + s10 aq + s10 bp + s10 bq ≤ 100000000000) :
    Calls Try.prog 67 #[a, b] w (Ret (fun v w' => ZQ w' v (ap * bq + -(bp * aq)) (aq * bq)) w) := by
  obtain ⟨aA0, an0, ac0, aA1, an1, ac1, rfl, ah0, ah1, apos0⟩ := ha
  obtain ⟨bA0, bn0, bc0, bA1, bn1, bc1, rfl, bh0, bh1, bpos0⟩ := hb
  have aH0 := Lib.hid ah0
  clear ah0
  have aH1 := Lib.hid ah1
  clear ah1
  have aP0 := Lib.hid apos0
  clear apos0
  have bH0 := Lib.hid bh0
  clear bh0
  have bH1 := Lib.hid bh1
  clear bh1
  have bP0 := Lib.hid bpos0
  clear bpos0
  go_enter Try.func67, Try.ntmps67
  go_wp2
  refine wp_world (fun W0 => Blk W0 (w.heap.size) TQ #[.bool (ng ap), .slice aA0 an0 ac0, .bool (ng aq), .slice aA1 an1 ac1] ∧ Blk W0 (w.heap.size + 1) TQ #[.bool (ng bp), .slice bA0 bn0 bc0, .bool (ng bq), .slice bA1 bn1 bc1] ∧ Blk W0 (w.heap.size + 1 + 1) TQ #[.bool false, .slice none 0 0, .bool false, .slice none 0 0] ∧ Below w.heap.size w W0) (by exact ⟨((Blk.new_ _ _ rfl).alloc _).alloc _, (Blk.new_ _ _ (by simp)).alloc _, Blk.new_ _ _ (by simp), by go_grown⟩) ?_
  rintro W0 ⟨b0, b1, b2, hbw⟩
  have k0 := fun w' (hh : Held (w.heap.size + 1 + 1) 4 TQ W0 w') => (b0.held hh (by omega)).cells
  have k1 := fun w' (hh : Held (w.heap.size + 1 + 1) 4 TQ W0 w') => (b1.held hh (by omega)).cells
  have hst : Held (w.heap.size + 1 + 1) 4 TQ W0 W0.drew := b2.heldS.drew
  have r1 := (rules (w.heap.size + 1 + 1) 4 TQ W0).some
  have r2 := (rules (w.heap.size + 1 + 1) 4 TQ W0).free
  simp only [cellsAre, Nat.zero_add, Nat.reduceAdd, and_true] at k0 k1
  clear b0 b1 b2
  have bw0 : Below w.heap.size w W0.drew := hbw.drew
  go_region_held3 (fun w' => Held (w.heap.size + 1 + 1) 4 TQ W0 w') (first | assumption | exact Held.trans_ (by assumption) (by assumption) | exact Held.set_ (Held.set_ (Held.set_ (Held.set_ ((by assumption)) _ _) _ _) _ _) _ _)
    (first | (go_at_call 70; have tk := hb3; refine (zmul_any _ _ (aq) (bq) _ ⟨_, _, _, rfl, (aH1.out.below bw3)⟩ ⟨_, _, _, rfl, (bH1.out.below bw3)⟩ (by have z0 := s10_mul (ap) (bq); have z1 := s10_mul (bp) (aq); have z2 := s10_sub (ap * bq) (bp * aq); omega)).mono ?_; rintro e w4 ⟨v4, rfl, ⟨A4_0, n4_0, c4_0, rfl, hx4_0⟩, hb4⟩; have hh4 : Held (w.heap.size + 1 + 1) 4 TQ W0 w4 := hh3.trans_ hb4; have bw4 := bt bw3 hb4) | (go_at_call 102; have tk := hb2; refine (zsub_any _ _ (ap * bq) (bp * aq) _ ⟨_, _, _, rfl, (hx1_0.below hb2)⟩ ⟨_, _, _, rfl, hx2_0⟩ (by have z0 := s10_mul (ap) (bq); have z1 := s10_mul (bp) (aq); omega) (by have z0 := s10_mul (ap) (bq); have z1 := s10_mul (bp) (aq); omega)).mono ?_; rintro e w3 ⟨v3, rfl, ⟨A3_0, n3_0, c3_0, rfl, hx3_0⟩, hb3⟩; have hh3 : Held (w.heap.size + 1 + 1) 4 TQ W0 w3 := hh2.trans_ hb3; have bw3 := bt bw2 hb3) | (go_at_call 70; have tk := hb1; refine (zmul_any _ _ (bp) (aq) _ ⟨_, _, _, rfl, (bH0.out.below bw1)⟩ ⟨_, _, _, rfl, (aH1.out.below bw1)⟩ (by have z0 := s10_mul (ap) (bq); omega)).mono ?_; rintro e w2 ⟨v2, rfl, ⟨A2_0, n2_0, c2_0, rfl, hx2_0⟩, hb2⟩; have hh2 : Held (w.heap.size + 1 + 1) 4 TQ W0 w2 := hh1.trans_ hb2; have bw2 := bt bw1 hb2) | (go_at_call 70; refine (zmul_any _ _ (ap) (bq) _ ⟨_, _, _, rfl, (aH0.out.below bw0)⟩ ⟨_, _, _, rfl, (bH1.out.below bw0)⟩ (by omega)).mono ?_; rintro e w1 ⟨v1, rfl, ⟨A1_0, n1_0, c1_0, rfl, hx1_0⟩, hb1⟩; have hh1 : Held (w.heap.size + 1 + 1) 4 TQ W0 w1 := hst.trans_ hb1; have bw1 := bt bw0 hb1))
  go_wp2
  (try simp only [Exit.inBlock, Exit.then])
  refine bodyPost_ret (v := .agg #[.bool (ng ((ap * bq) + -(bp * aq))), .slice A3_0 n3_0 c3_0, .bool (ng (aq * bq)), .slice A4_0 n4_0 c4_0]) (by simp [results, Try.results67, go_sem, r1 _ hh4]) rfl ?_
  have hst2 := Held.set_ (Held.set_ (Held.set_ (Held.set_ (hh4.here) 0 (.bool (ng ((ap * bq) + -(bp * aq))))) 1 (.slice A3_0 n3_0 c3_0)) 2 (.bool (ng (aq * bq)))) 3 (.slice A4_0 n4_0 c4_0)
  exact ⟨_, rfl, ⟨_, _, _, _, _, _, rfl, ((hx3_0.below hb4)).held hst2 (by decide), (hx4_0).held hst2 (by decide), Int.mul_pos aP0.out bP0.out⟩, (hh4.trans2 hst2).below hbw (by omega)⟩

set_option maxHeartbeats 800000 in
theorem zqdiv_any (a b : Value) (ap aq : Int) (bp bq : Int) (w : World) (ha : ZQ w a ap aq) (hb : ZQ w b bp bq) (hbp : bp ≠ 0) (hs : s10 ap + s10 aq + s10 bp + s10 bq ≤ 100000000000) :
    Calls Try.prog 81 #[a, b] w (Ret (fun v w' => ZQ w' v (rn (ap * bq) (aq * bp)) (rd (aq * bp))) w) := by
  have HBP_ := Lib.hid hbp
  clear hbp
  obtain ⟨aA0, an0, ac0, aA1, an1, ac1, rfl, ah0, ah1, apos0⟩ := ha
  obtain ⟨bA0, bn0, bc0, bA1, bn1, bc1, rfl, bh0, bh1, bpos0⟩ := hb
  have aH0 := Lib.hid ah0
  clear ah0
  have aH1 := Lib.hid ah1
  clear ah1
  have aP0 := Lib.hid apos0
  clear apos0
  have bH0 := Lib.hid bh0
  clear bh0
  have bH1 := Lib.hid bh1
  clear bh1
  have bP0 := Lib.hid bpos0
  clear bpos0
  go_enter Try.func81, Try.ntmps81
  go_wp2
  refine wp_world (fun W0 => Blk W0 (w.heap.size) TQ #[.bool (ng ap), .slice aA0 an0 ac0, .bool (ng aq), .slice aA1 an1 ac1] ∧ Blk W0 (w.heap.size + 1) TQ #[.bool (ng bp), .slice bA0 bn0 bc0, .bool (ng bq), .slice bA1 bn1 bc1] ∧ Blk W0 (w.heap.size + 1 + 1) TQ #[.bool false, .slice none 0 0, .bool false, .slice none 0 0] ∧ Below w.heap.size w W0) (by exact ⟨((Blk.new_ _ _ rfl).alloc _).alloc _, (Blk.new_ _ _ (by simp)).alloc _, Blk.new_ _ _ (by simp), by go_grown⟩) ?_
  rintro W0 ⟨b0, b1, b2, hbw⟩
  have k0 := fun w' (hh : Held (w.heap.size + 1 + 1) 4 TQ W0 w') => (b0.held hh (by omega)).cells
  have k1 := fun w' (hh : Held (w.heap.size + 1 + 1) 4 TQ W0 w') => (b1.held hh (by omega)).cells
  have hst : Held (w.heap.size + 1 + 1) 4 TQ W0 W0.drew := b2.heldS.drew
  have r1 := (rules (w.heap.size + 1 + 1) 4 TQ W0).some
  have r2 := (rules (w.heap.size + 1 + 1) 4 TQ W0).free
  simp only [cellsAre, Nat.zero_add, Nat.reduceAdd, and_true] at k0 k1
  clear b0 b1 b2
  have bw0 : Below w.heap.size w W0.drew := hbw.drew
  go_region_held3 (fun w' => Held (w.heap.size + 1 + 1) 4 TQ W0 w') (first | assumption | exact Held.trans_ (by assumption) (by assumption) | exact Held.set_ (Held.set_ (Held.set_ (Held.set_ ((by assumption)) _ _) _ _) _ _) _ _)
    (first | (go_at_call 92; have tk := hb2; refine (zover_any _ _ (ap * bq) (aq * bp) _ ⟨_, _, _, rfl, (hx1_0.below hb2)⟩ ⟨_, _, _, rfl, hx2_0⟩ (Int.mul_ne_zero (Int.ne_of_gt aP0.out) HBP_.out)).mono ?_; rintro e w3 ⟨v3, rfl, ⟨A3_0, n3_0, c3_0, A3_1, n3_1, c3_1, rfl, hx3_0, hx3_1, hp3_0⟩, hb3⟩; have hh3 : Held (w.heap.size + 1 + 1) 4 TQ W0 w3 := hh2.trans_ hb3; have bw3 := bt bw2 hb3) | (go_at_call 70; have tk := hb1; refine (zmul_any _ _ (aq) (bp) _ ⟨_, _, _, rfl, (aH1.out.below bw1)⟩ ⟨_, _, _, rfl, (bH0.out.below bw1)⟩ (by have z0 := s10_mul (ap) (bq); omega)).mono ?_; rintro e w2 ⟨v2, rfl, ⟨A2_0, n2_0, c2_0, rfl, hx2_0⟩, hb2⟩; have hh2 : Held (w.heap.size + 1 + 1) 4 TQ W0 w2 := hh1.trans_ hb2; have bw2 := bt bw1 hb2) | (go_at_call 70; refine (zmul_any _ _ (ap) (bq) _ ⟨_, _, _, rfl, (aH0.out.below bw0)⟩ ⟨_, _, _, rfl, (bH1.out.below bw0)⟩ (by omega)).mono ?_; rintro e w1 ⟨v1, rfl, ⟨A1_0, n1_0, c1_0, rfl, hx1_0⟩, hb1⟩; have hh1 : Held (w.heap.size + 1 + 1) 4 TQ W0 w1 := hst.trans_ hb1; have bw1 := bt bw0 hb1))
  go_wp2
  (try simp only [Exit.inBlock, Exit.then])
  refine bodyPost_ret (v := .agg #[.bool (ng (rn (ap * bq) (aq * bp))), .slice A3_0 n3_0 c3_0, .bool (ng (rd (aq * bp))), .slice A3_1 n3_1 c3_1]) (by simp [results, Try.results81, go_sem, r1 _ hh3]) rfl ?_
  have hst2 := Held.set_ (Held.set_ (Held.set_ (Held.set_ (hh3.here) 0 (.bool (ng (rn (ap * bq) (aq * bp))))) 1 (.slice A3_0 n3_0 c3_0)) 2 (.bool (ng (rd (aq * bp))))) 3 (.slice A3_1 n3_1 c3_1)
  exact ⟨_, rfl, ⟨_, _, _, _, _, _, rfl, (hx3_0).held hst2 (by decide), (hx3_1).held hst2 (by decide), hp3_0⟩, (hh3.trans2 hst2).below hbw (by omega)⟩

set_option maxHeartbeats 800000 in
theorem zqcmp_any (a b : Value) (ap aq : Int) (bp bq : Int) (w : World) (ha : ZQ w a ap aq) (hb : ZQ w b bp bq) (hs : s10 ap + s10 aq + s10 bp + s10 bq ≤ 100000000000) :
    Calls Try.prog 25 #[a, b] w (Ret (fun v _ => v = .int .i64 (Int.sign (ap * bq + -(bp * aq)))) w) := by
  obtain ⟨aA0, an0, ac0, aA1, an1, ac1, rfl, ah0, ah1, apos0⟩ := ha
  obtain ⟨bA0, bn0, bc0, bA1, bn1, bc1, rfl, bh0, bh1, bpos0⟩ := hb
  have aH0 := Lib.hid ah0
  clear ah0
  have aH1 := Lib.hid ah1
  clear ah1
  have aP0 := Lib.hid apos0
  clear apos0
  have bH0 := Lib.hid bh0
  clear bh0
  have bH1 := Lib.hid bh1
  clear bh1
  have bP0 := Lib.hid bpos0
  clear bpos0
  go_enter Try.func25, Try.ntmps25
  go_wp2
  refine wp_world (fun W0 => Blk W0 (w.heap.size) TQ #[.bool (ng ap), .slice aA0 an0 ac0, .bool (ng aq), .slice aA1 an1 ac1] ∧ Blk W0 (w.heap.size + 1) TQ #[.bool (ng bp), .slice bA0 bn0 bc0, .bool (ng bq), .slice bA1 bn1 bc1] ∧ Below w.heap.size w W0) (by exact ⟨(Blk.new_ _ _ rfl).alloc _, Blk.new_ _ _ (by simp), by go_grown⟩) ?_
  rintro W0 ⟨b0, b1, hbw⟩
  have k0 := fun w' (hh : Ext W0 w') => (b0.below hh).cells
  have k1 := fun w' (hh : Ext W0 w') => (b1.below hh).cells
  have hst : Ext W0 W0.drew := Ext.drew _
  simp only [cellsAre, Nat.zero_add, Nat.reduceAdd, and_true] at k0 k1
  clear b0 b1
  have bw0 : Below w.heap.size w W0.drew := hbw.drew
  go_region_held3 (fun w' => Ext W0 w') (first | assumption | exact bt (by assumption) (by assumption))
    (first | (go_at_call 64; have tk := hb2; refine (zcmp_any _ _ (ap * bq) (bp * aq) _ ⟨_, _, _, rfl, (hx1_0.below hb2)⟩ ⟨_, _, _, rfl, hx2_0⟩ (by have z0 := s10_mul (ap) (bq); have z1 := s10_mul (bp) (aq); omega) (by have z0 := s10_mul (ap) (bq); have z1 := s10_mul (bp) (aq); omega)).mono ?_; rintro e w3 ⟨v3, rfl, rfl, hb3⟩; have hh3 : Ext W0 w3 := bt hh2 hb3; have bw3 := bt bw2 hb3) | (go_at_call 70; have tk := hb1; refine (zmul_any _ _ (bp) (aq) _ ⟨_, _, _, rfl, (bH0.out.below bw1)⟩ ⟨_, _, _, rfl, (aH1.out.below bw1)⟩ (by have z0 := s10_mul (ap) (bq); omega)).mono ?_; rintro e w2 ⟨v2, rfl, ⟨A2_0, n2_0, c2_0, rfl, hx2_0⟩, hb2⟩; have hh2 : Ext W0 w2 := bt hh1 hb2; have bw2 := bt bw1 hb2) | (go_at_call 70; refine (zmul_any _ _ (ap) (bq) _ ⟨_, _, _, rfl, (aH0.out.below bw0)⟩ ⟨_, _, _, rfl, (bH1.out.below bw0)⟩ (by omega)).mono ?_; rintro e w1 ⟨v1, rfl, ⟨A1_0, n1_0, c1_0, rfl, hx1_0⟩, hb1⟩; have hh1 : Ext W0 w1 := bt hst hb1; have bw1 := bt bw0 hb1))
  go_wp2
  go_returns
  exact ⟨_, rfl, rfl, bw3⟩

set_option maxHeartbeats 800000 in
theorem zqabs_any (a : Value) (ap aq : Int) (w : World) (ha : ZQ w a ap aq) :
    Calls Try.prog 83 #[a] w (Ret (fun v w' => ZQ w' v ((ap.natAbs : Int)) (aq)) w) := by
  obtain ⟨aA0, an0, ac0, aA1, an1, ac1, rfl, ah0, ah1, apos0⟩ := ha
  have aH0 := Lib.hid ah0
  clear ah0
  have aH1 := Lib.hid ah1
  clear ah1
  have aP0 := Lib.hid apos0
  clear apos0
  go_enter Try.func83, Try.ntmps83
  go_wp2
  refine wp_world (fun W0 => Blk W0 (w.heap.size) TQ #[.bool (ng ap), .slice aA0 an0 ac0, .bool (ng aq), .slice aA1 an1 ac1] ∧ Blk W0 (w.heap.size + 1) TQ #[.bool false, .slice none 0 0, .bool false, .slice none 0 0] ∧ Below w.heap.size w W0) (by exact ⟨(Blk.new_ _ _ rfl).alloc _, Blk.new_ _ _ (by simp), by go_grown⟩) ?_
  rintro W0 ⟨b0, b1, hbw⟩
  have k0 := fun w' (hh : Held (w.heap.size + 1) 4 TQ W0 w') => (b0.held hh (by omega)).cells
  have hst : Held (w.heap.size + 1) 4 TQ W0 W0.drew := b1.heldS.drew
  have r1 := (rules (w.heap.size + 1) 4 TQ W0).some
  have r2 := (rules (w.heap.size + 1) 4 TQ W0).free
  simp only [cellsAre, Nat.zero_add, Nat.reduceAdd, and_true] at k0
  clear b0 b1
  have bw0 : Below w.heap.size w W0.drew := hbw.drew
  go_region_held3 (fun w' => Held (w.heap.size + 1) 4 TQ W0 w') (first | assumption | exact Held.trans_ (by assumption) (by assumption) | exact Held.set_ (Held.set_ (Held.set_ (Held.set_ ((by assumption)) _ _) _ _) _ _) _ _)
    (first | (go_at_call 103; refine (zabs_any _ (ap) _ ⟨_, _, _, rfl, (aH0.out.below bw0)⟩).mono ?_; rintro e w1 ⟨v1, rfl, ⟨A1_0, n1_0, c1_0, rfl, hx1_0⟩, hb1⟩; have hh1 : Held (w.heap.size + 1) 4 TQ W0 w1 := hst.trans_ hb1; have bw1 := bt bw0 hb1))
  go_wp2
  (try simp only [Exit.inBlock, Exit.then])
  refine bodyPost_ret (v := .agg #[.bool (ng ((ap.natAbs : Int))), .slice A1_0 n1_0 c1_0, .bool (ng aq), .slice aA1 an1 ac1]) (by simp [results, Try.results83, go_sem, r1 _ hh1]) rfl ?_
  have hst2 := Held.set_ (Held.set_ (Held.set_ (Held.set_ (hh1.here) 0 (.bool (ng ((ap.natAbs : Int))))) 1 (.slice A1_0 n1_0 c1_0)) 2 (.bool (ng aq))) 3 (.slice aA1 an1 ac1)
  exact ⟨_, rfl, ⟨_, _, _, _, _, _, rfl, (hx1_0).held hst2 (by decide), ((aH1.out.below bw1)).held hst2 (by decide), aP0.out⟩, (hh1.trans2 hst2).below hbw (by omega)⟩

set_option maxHeartbeats 800000 in
theorem zof_any (xn xd : Int) (w : World)  (h1 : -9223372036854775808 ≤ xn) (h2 : xn ≤ 9223372036854775807) (h3 : 0 < xd) (h4 : xd ≤ 9223372036854775807) :
    Calls Try.prog 39 #[.agg #[.int .i64 xn, .int .i64 xd]] w (Ret (fun v w' => ZQ w' v (xn) (xd)) w) := by
  go_enter Try.func39, Try.ntmps39
  go_wp2
  refine wp_world (fun W0 => Blk W0 (w.heap.size) TF #[.int .i64 xn, .int .i64 xd] ∧ Blk W0 (w.heap.size + 1) TQ #[.bool false, .slice none 0 0, .bool false, .slice none 0 0] ∧ Below w.heap.size w W0) (by exact ⟨(Blk.new_ _ _ rfl).alloc _, Blk.new_ _ _ (by simp), by go_grown⟩) ?_
  rintro W0 ⟨b0, b1, hbw⟩
  have k0 := fun w' (hh : Held (w.heap.size + 1) 4 TQ W0 w') => (b0.held hh (by omega)).cells
  have hst : Held (w.heap.size + 1) 4 TQ W0 W0.drew := b1.heldS.drew
  have r1 := (rules (w.heap.size + 1) 4 TQ W0).some
  have r2 := (rules (w.heap.size + 1) 4 TQ W0).free
  simp only [cellsAre, Nat.zero_add, Nat.reduceAdd, and_true] at k0
  clear b0 b1
  have bw0 : Below w.heap.size w W0.drew := hbw.drew
  go_region_held3 (fun w' => Held (w.heap.size + 1) 4 TQ W0 w') (first | assumption | exact Held.trans_ (by assumption) (by assumption) | exact Held.set_ (Held.set_ (Held.set_ (Held.set_ ((by assumption)) _ _) _ _) _ _) _ _)
    (first | (go_at_call 66; have tk := hb1; refine (zint_any (xd) _ (by omega) (by omega)).mono ?_; rintro e w2 ⟨v2, rfl, ⟨A2_0, n2_0, c2_0, rfl, hx2_0⟩, hb2⟩; have hh2 : Held (w.heap.size + 1) 4 TQ W0 w2 := hh1.trans_ hb2; have bw2 := bt bw1 hb2) | (go_at_call 66; refine (zint_any (xn) _ (by omega) (by omega)).mono ?_; rintro e w1 ⟨v1, rfl, ⟨A1_0, n1_0, c1_0, rfl, hx1_0⟩, hb1⟩; have hh1 : Held (w.heap.size + 1) 4 TQ W0 w1 := hst.trans_ hb1; have bw1 := bt bw0 hb1))
  go_wp2
  (try simp only [Exit.inBlock, Exit.then])
  refine bodyPost_ret (v := .agg #[.bool (ng (xn)), .slice A1_0 n1_0 c1_0, .bool (ng (xd)), .slice A2_0 n2_0 c2_0]) (by simp [results, Try.results39, go_sem, r1 _ hh2]) rfl ?_
  have hst2 := Held.set_ (Held.set_ (Held.set_ (Held.set_ (hh2.here) 0 (.bool (ng (xn)))) 1 (.slice A1_0 n1_0 c1_0)) 2 (.bool (ng (xd)))) 3 (.slice A2_0 n2_0 c2_0)
  exact ⟨_, rfl, ⟨_, _, _, _, _, _, rfl, ((hx1_0.below hb2)).held hst2 (by decide), (hx2_0).held hst2 (by decide), h3⟩, (hh2.trans2 hst2).below hbw (by omega)⟩
end Go.Proofs.Tb
