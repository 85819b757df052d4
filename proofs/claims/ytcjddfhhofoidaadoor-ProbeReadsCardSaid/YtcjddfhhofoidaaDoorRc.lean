/- Contracts of the law's valid and bad; ProbeBests returns true. -/
import Derived.Test.YtcjddfhhofoidaaDoorRb
set_option linter.unusedVariables false
set_option linter.unusedSimpArgs false
namespace Go.Proofs.Tb
open Go.RowKit
attribute [local go_sem] cell_set_same

set_option maxHeartbeats 1600000 in
theorem valid_any (A A' : Option Addr) (n c m d : Nat) (ws : List Int) (ts : List Tt) (w : World) (h : Il w A n c ws) (h' : Ts w A' m d ts) :
    Calls Tryd.prog 20 #[.agg #[.slice A n c, .slice A' m d]] w (Ret (fun v _ => v = .bool (cvB ws ts)) w) := by
  have H := Lib.hid h
  have H' := Lib.hid h'
  obtain ⟨B, hB⟩ : ∃ B, cvB ws ts = B := ⟨_, rfl⟩
  have HB := Lib.hid hB
  rw [hB]
  clear h h' hB
  go_enter Tryd.func20, Tryd.ntmps20
  go_wp2_with fail
  have x1 : Ext w (w.alloc (.cells #[.slice A n c, .slice A' m d] TCA)) := Ext.allocR _ _
  refine (zvalid_any A A' n c m d ws ts _ (H.out.below x1) (H'.out.below x1)).mono ?_
  rintro e w2 ⟨v2, rfl, rfl, hb2⟩
  rw [HB.out]
  have HB2 := Lib.hid (bt x1 hb2)
  clear x1 hb2
  go_wp2
  go_returns
  exact ⟨_, rfl, rfl, HB2.out⟩
set_option maxHeartbeats 1600000 in
theorem bad_any (A A' : Option Addr) (n c m d : Nat) (ws : List Int) (ts : List Tt) (w : World) (h : Il w A n c ws) (h' : Ts w A' m d ts) :
    Calls Tryd.prog 18 #[.agg #[.slice A n c, .slice A' m d]] w (Ret (ChkR ws ts) w) := by
  have H := Lib.hid h
  have H' := Lib.hid h'
  clear h h'
  go_enter Tryd.func18, Tryd.ntmps18
  go_wp2_with fail
  have x1 : Ext w (w.alloc (.cells #[.slice A n c, .slice A' m d] TCA)) := Ext.allocR _ _
  refine (valid_any A A' n c m d ws ts _ (H.out.below x1) (H'.out.below x1)).mono ?_
  rintro e w2 ⟨v2, rfl, hv2, hb2⟩
  have HB2 := Lib.hid (bt x1 hb2)
  clear x1 hb2
  by_cases hc : Cv ws ts
  · rw [cvB_t hc] at hv2
    subst hv2
    have HE := Lib.hid (show ChkR ws ts (.int .i64 0) w2 from ⟨fun _ => rfl, fun h => absurd hc h⟩)
    clear hc
    go_wp2
    go_returns
    exact ⟨_, rfl, HE.out, HB2.out⟩
  · rw [cvB_f hc] at hv2
    subst hv2
    have HE := Lib.hid (show ChkR ws ts (.int .i64 1) w2 from ⟨fun h => absurd h hc, fun _ => rfl⟩)
    clear hc
    go_wp2
    go_returns
    exact ⟨_, rfl, HE.out, HB2.out⟩
theorem upL_mems (n : Nat) : upL n = mems n (2 ^ n - 1) := (mems_full n).symm
set_option maxHeartbeats 6400000 in
set_option maxRecDepth 100000 in
theorem bests_any (A A' : Option Addr) (n c m d : Nat) (ws : List Int) (ts : List Tt) (w : World) (h : Il w A n c ws) (h' : Ts w A' m d ts) (ht : Tab w) :
    Calls Tryd.prog 3 #[.agg #[.slice A n c, .slice A' m d]] w (Ret (fun v _ => v = .bool true) w) := by
  have H := Lib.hid h
  have H' := Lib.hid h'
  have HT := Lib.hid ht
  clear h h' ht
  go_enter Tryd.func3, Tryd.ntmps3
  go_wp2_with fail
  have x0 : Ext w (w.alloc (.cells #[.slice A n c, .slice A' m d] TCA)) := Ext.allocR _ _
  refine (few_any A A' n c m d ws ts 5 5 (by omega) (by omega) _ (H.out.below x0) (H'.out.below x0)).mono ?_
  rintro e w1 ⟨v1, rfl, ⟨vf, vt, rfl, hf, ht⟩, hb1⟩
  obtain ⟨A1, n1, c1, hvf, il1⟩ := hf.il
  subst hvf
  obtain ⟨A2, n2, c2, hvt, sl2⟩ := ht.slp2
  subst hvt
  have ts2 := sl2.ts
  obtain ⟨wf, hwf⟩ : ∃ x, fewF ws 5 = x := ⟨_, rfl⟩
  obtain ⟨tf, htf⟩ : ∃ x, fewT ts 5 = x := ⟨_, rfl⟩
  rw [hwf] at il1
  rw [htf] at ts2
  have l1 := il1.le
  have l1' := il1.cap
  have l2 := ts2.le
  have l2' := ts2.cap
  have HL1 := Lib.hid il1.len
  have I1 := Lib.hid il1
  have T2 := Lib.hid ts2
  have HB1 := Lib.hid (bt x0 hb1)
  clear hf ht sl2 il1 ts2 hwf htf x0 hb1
  go_upto_region 2 with fail
  have b3 : Blk (w1.alloc (.cells #[.slice A1 n1 c1, .slice A2 n2 c2] TCA)) w1.heap.size TCA #[.slice A1 n1 c1, .slice A2 n2 c2] := Blk.new_ _ _ rfl
  have x3 : Ext w1 (w1.alloc (.cells #[.slice A1 n1 c1, .slice A2 n2 c2] TCA)) := Ext.allocR _ _
  refine wp_world (fun W3 => Blk W3 w1.heap.size TCA #[.slice A1 n1 c1, .slice A2 n2 c2] ∧ Ext w1 W3) ⟨b3, x3⟩ ?_
  clear b3 x3
  rintro W3 ⟨b3, x3⟩
  obtain ⟨g, hg⟩ : ∃ g, w1.heap.size = g := ⟨_, rfl⟩
  rw [hg] at b3 ⊢
  have B3 := Lib.hid b3
  have X3 := Lib.hid x3
  have c3 := b3.cells
  simp only [cellsAre, Nat.zero_add, Nat.reduceAdd, and_true] at c3
  clear b3 x3 hg
  go_wp2_with fail
  refine (rbest_any A1 A2 n1 c1 n2 c2 wf tf W3 (I1.out.below X3.out) (T2.out.below X3.out) (HT.out.below (bt HB1.out X3.out))).mono ?_
  rintro e w4 ⟨v4, rfl, hv4, hb4⟩
  have X4 := Lib.hid (bt X3.out hb4)
  by_cases hc : Cv wf tf
  · obtain ⟨A4, n4, c4, rfl, sp4⟩ := hv4.1 hc
    have lp := sp4.le
    have lp' := sp4.cap
    have SP4 := Lib.hid sp4
    have HC := Lib.hid hc
    have kc := fun w' (hh : Ext w4 w') => ((B3.out.below hb4).below hh).cells
    simp only [cellsAre, Nat.zero_add, Nat.reduceAdd, and_true] at kc
    have hst : Ext w4 w4.drew := Ext.drew _
    have hb4' := hb4
    clear hv4 hb4 sp4 hc c3
    go_upto_region 3 with fail
    refine wp_region_adv 6 [] [(0, true, some 20, none), (1, true, some 21, none), (2, true, some 22, none), (3, true, some 23, none), (5, true, some 25, none), (4, false, some 24, none)] (by kernel_rfl) (by kernel_rfl) (by kernel_rfl) (by intro it hit; (repeat (rcases List.mem_cons.1 hit with rfl | hit; (focus (intro o ho ev w; injection ho with ho; subst ho; kernel_rfl)))); cases hit) (fun _ _ _ _ _ => ⟨fun h => h, fun h => h⟩) hst ?_
    repeat (first | (refine wpSeq_pure (v := ?_) rfl ?_ ?_; rotate_left 1; (focus (intro wq_ hSq_; (try dsimp only at hSq_); go_simp; (try with_reducible rfl); done)); (try simp only [Act.put, List.setIfInBounds_toArray, List.set_cons_zero, List.set_cons_succ])) | (refine wpSeq_pureG (v := ?_) rfl rfl ?_ ?_; rotate_left 1; (focus (intro wq_ hSq_; (try dsimp only at hSq_); go_simp; (try with_reducible rfl); done)); (try simp only [Act.put, List.setIfInBounds_toArray, List.set_cons_zero, List.set_cons_succ])) | (refine wpSeq_off rfl rfl ?_; (try simp only [Act.put, List.setIfInBounds_toArray, List.set_cons_zero, List.set_cons_succ])))
    first | refine wpSeq_call rfl (fun u1 g1 s1 K hK => ?_) | refine wpSeq_callG rfl rfl (fun u1 g1 s1 K hK => ?_)
    go_simp
    refine (rcheck_any A1 A2 n1 c1 n2 c2 wf tf u1 (I1.out.below (bt X4.out s1)) (T2.out.below (bt X4.out s1))).mono ?_
    rintro e y1 ⟨z1, rfl, hz1, b1⟩
    have hz1 := hz1.1 HC.out
    subst hz1
    (try go_wp2_with fail)
    refine hK.out _ _ b1 ?_
    clear hK K
    (try simp only [Act.put, List.setIfInBounds_toArray, List.set_cons_zero, List.set_cons_succ])
    repeat (first | (refine wpSeq_pure (v := ?_) rfl ?_ ?_; rotate_left 1; (focus (intro wq_ hSq_; (try dsimp only at hSq_); go_simp; (try with_reducible rfl); done)); (try simp only [Act.put, List.setIfInBounds_toArray, List.set_cons_zero, List.set_cons_succ])) | (refine wpSeq_pureG (v := ?_) rfl rfl ?_ ?_; rotate_left 1; (focus (intro wq_ hSq_; (try dsimp only at hSq_); go_simp; (try with_reducible rfl); done)); (try simp only [Act.put, List.setIfInBounds_toArray, List.set_cons_zero, List.set_cons_succ])) | (refine wpSeq_off rfl rfl ?_; (try simp only [Act.put, List.setIfInBounds_toArray, List.set_cons_zero, List.set_cons_succ])))
    intro wz gz sz_
    (try simp only [endJ, List.drop_succ_cons, List.drop_zero])
    have XZ := Lib.hid (bt X4.out sz_)
    have SPZ := Lib.hid (SP4.out.below sz_)
    have B3Z := Lib.hid ((B3.out.below hb4').below sz_)
    clear hst kc g1 s1 b1 gz sz_ SP4 X4 B3
    go_wp2_with fail
    refine (bad_any A1 A2 n1 c1 n2 c2 wf tf wz (I1.out.below XZ.out) (T2.out.below XZ.out)).mono ?_
    rintro e w5 ⟨z5, rfl, hz5, b5⟩
    have hz5 := hz5.1 HC.out
    subst hz5
    have X5 := Lib.hid (bt XZ.out b5)
    have SP5 := Lib.hid (SPZ.out.below b5)
    have B35 := Lib.hid (B3Z.out.below b5)
    clear b5 SPZ B3Z XZ
    go_wp2_with fail
    refine (lives_any w5 (HT.out.below (bt HB1.out X5.out))).mono ?_
    rintro e w6 ⟨z6, rfl, rfl, b6⟩
    have X6 := Lib.hid (bt X5.out b6)
    have SP6 := Lib.hid (SP5.out.below b6)
    have B36 := Lib.hid (B35.out.below b6)
    have c6 := B36.out.cells
    simp only [cellsAre, Nat.zero_add, Nat.reduceAdd, and_true] at c6
    clear b6 SP5 B35 X5
    go_wp2_with fail
    refine (valid_any A1 A2 n1 c1 n2 c2 wf tf w6 (I1.out.below X6.out) (T2.out.below X6.out)).mono ?_
    rintro e w7 ⟨z7, rfl, hz7, b7⟩
    rw [cvB_t HC.out] at hz7
    subst hz7
    have X7 := Lib.hid (bt X6.out b7)
    have SP7 := Lib.hid (SP6.out.below b7)
    have B37 := Lib.hid (B36.out.below b7)
    have kc := fun w' (hh : Ext w7 w') => (B37.out.below hh).cells
    simp only [cellsAre, Nat.zero_add, Nat.reduceAdd, and_true] at kc
    have hst : Ext w7 w7.drew := Ext.drew _
    clear b7 SP6 B36 X6 c6 
    go_upto_region 7 with fail
    refine wp_region_adv 12 [] [(0, true, some 47, none), (1, true, some 48, none), (2, true, some 49, none), (3, true, some 50, none), (4, true, some 51, none), (5, true, some 52, none), (6, false, some 53, none), (7, false, some 54, none), (8, true, some 46, none), (9, true, some 55, none), (10, true, some 56, none), (11, false, some 7, none)] (by kernel_rfl) (by kernel_rfl) (by kernel_rfl) (by intro it hit; (repeat (rcases List.mem_cons.1 hit with rfl | hit; (focus (intro o ho ev w; injection ho with ho; subst ho; kernel_rfl)))); cases hit) (fun _ _ _ _ _ => ⟨fun h => h, fun h => h⟩) hst ?_
    repeat (first | (refine wpSeq_pure (v := ?_) rfl ?_ ?_; rotate_left 1; (focus (intro wq_ hSq_; (try dsimp only at hSq_); go_simp; (try with_reducible rfl); done)); (try simp only [Act.put, List.setIfInBounds_toArray, List.set_cons_zero, List.set_cons_succ])) | (refine wpSeq_pureG (v := ?_) rfl rfl ?_ ?_; rotate_left 1; (focus (intro wq_ hSq_; (try dsimp only at hSq_); go_simp; (try with_reducible rfl); done)); (try simp only [Act.put, List.setIfInBounds_toArray, List.set_cons_zero, List.set_cons_succ])) | (refine wpSeq_off rfl rfl ?_; (try simp only [Act.put, List.setIfInBounds_toArray, List.set_cons_zero, List.set_cons_succ])))
    first | refine wpSeq_call rfl (fun u1 g1 s1 K hK => ?_) | refine wpSeq_callG rfl rfl (fun u1 g1 s1 K hK => ?_)
    go_simp
    refine (zall_any A1 n1 c1 wf u1 (I1.out.below (bt X7.out s1)) (by have h1 := HC.out.len10; have h2 := HL1.out; omega)).mono ?_
    rintro e y1 ⟨z1, rfl, hz1, b1⟩
    have hsl1 := hz1.sl
    rw [upL_mems, ← HL1.out] at hsl1
    obtain ⟨A8, c8, rfl, -⟩ := hz1.il
    (try go_wp2_with fail)
    refine hK.out _ _ b1 ?_
    clear hK K
    (try simp only [Act.put, List.setIfInBounds_toArray, List.set_cons_zero, List.set_cons_succ])
    repeat (first | (refine wpSeq_pure (v := ?_) rfl ?_ ?_; rotate_left 1; (focus (intro wq_ hSq_; (try dsimp only at hSq_); go_simp; (try with_reducible rfl); done)); (try simp only [Act.put, List.setIfInBounds_toArray, List.set_cons_zero, List.set_cons_succ])) | (refine wpSeq_pureG (v := ?_) rfl rfl ?_ ?_; rotate_left 1; (focus (intro wq_ hSq_; (try dsimp only at hSq_); go_simp; (try with_reducible rfl); done)); (try simp only [Act.put, List.setIfInBounds_toArray, List.set_cons_zero, List.set_cons_succ])) | (refine wpSeq_off rfl rfl ?_; (try simp only [Act.put, List.setIfInBounds_toArray, List.set_cons_zero, List.set_cons_succ])))
    first | refine wpSeq_call rfl (fun u2 g2 s2 K hK => ?_) | refine wpSeq_callG rfl rfl (fun u2 g2 s2 K hK => ?_)
    go_simp
    refine (zbest_any A1 A2 n1 c1 n2 c2 wf tf HC.out (allS wf) (allS_lt wf) A8 _ c8 u2 (I1.out.below (bt X7.out s2)) (T2.out.below (bt X7.out s2)) (hsl1.below g2)).mono ?_
    rintro e y2 ⟨z2, rfl, ⟨A9, n9, c9, rfl, sp9⟩, b2⟩
    (try go_wp2_with fail)
    refine hK.out _ _ b2 ?_
    clear hK K
    (try simp only [Act.put, List.setIfInBounds_toArray, List.set_cons_zero, List.set_cons_succ])
    repeat (first | (refine wpSeq_pure (v := ?_) rfl ?_ ?_; rotate_left 1; (focus (intro wq_ hSq_; (try dsimp only at hSq_); go_simp; (try with_reducible rfl); done)); (try simp only [Act.put, List.setIfInBounds_toArray, List.set_cons_zero, List.set_cons_succ])) | (refine wpSeq_pureG (v := ?_) rfl rfl ?_ ?_; rotate_left 1; (focus (intro wq_ hSq_; (try dsimp only at hSq_); go_simp; (try with_reducible rfl); done)); (try simp only [Act.put, List.setIfInBounds_toArray, List.set_cons_zero, List.set_cons_succ])) | (refine wpSeq_off rfl rfl ?_; (try simp only [Act.put, List.setIfInBounds_toArray, List.set_cons_zero, List.set_cons_succ])))
    first | refine wpSeq_call rfl (fun u3 g3 s3 K hK => ?_) | refine wpSeq_callG rfl rfl (fun u3 g3 s3 K hK => ?_)
    go_simp
    (try go_wp2_with fail)
    refine hK.out _ _ (Ext.refl _) ?_
    clear hK K
    (try simp only [Act.put, List.setIfInBounds_toArray, List.set_cons_zero, List.set_cons_succ])
    repeat (first | (refine wpSeq_pure (v := ?_) rfl ?_ ?_; rotate_left 1; (focus (intro wq_ hSq_; (try dsimp only at hSq_); go_simp; (try with_reducible rfl); done)); (try simp only [Act.put, List.setIfInBounds_toArray, List.set_cons_zero, List.set_cons_succ])) | (refine wpSeq_pureG (v := ?_) rfl rfl ?_ ?_; rotate_left 1; (focus (intro wq_ hSq_; (try dsimp only at hSq_); go_simp; (try with_reducible rfl); done)); (try simp only [Act.put, List.setIfInBounds_toArray, List.set_cons_zero, List.set_cons_succ])) | (refine wpSeq_off rfl rfl ?_; (try simp only [Act.put, List.setIfInBounds_toArray, List.set_cons_zero, List.set_cons_succ])))
    intro wz gz sz_
    (try simp only [endJ, List.drop_succ_cons, List.drop_zero])
    have HZ := Lib.hid (bt HB1.out (bt X7.out sz_))
    have sp9z := sp9.below (bt g3 gz)
    have tp := (SP7.out.below sz_).ts
    have tq := sp9z.ts
    have lq := tq.le
    have lq' := tq.cap
    have TP := Lib.hid tp
    have TQ := Lib.hid tq
    clear hst kc g1 s1 b1 g2 s2 b2 g3 s3 gz sz_ sp9 sp9z hz1 hsl1 tp tq SP7 B37 X7
    go_wp2_with fail
    refine (zbranches_any A4 A9 n4 c4 n9 c9 _ _ wz TP.out TQ.out).mono ?_
    rintro e w8 ⟨z8, rfl, hz8, b8⟩
    rw [brB_t rfl] at hz8
    subst hz8
    have H8 := Lib.hid (bt HZ.out b8)
    clear b8
    go_wp2
    go_returns
    exact ⟨_, rfl, rfl, H8.out⟩
  · have hv4' := hv4.2 hc
    subst hv4'
    have HC := Lib.hid hc
    have kc := fun w' (hh : Ext w4 w') => ((B3.out.below hb4).below hh).cells
    simp only [cellsAre, Nat.zero_add, Nat.reduceAdd, and_true] at kc
    have hst : Ext w4 w4.drew := Ext.drew _
    have hb4' := hb4
    clear hv4 hb4 hc c3
    go_upto_region 3 with fail
    refine wp_region_adv 6 [] [(0, true, some 20, none), (1, true, some 21, none), (2, true, some 22, none), (3, true, some 23, none), (5, true, some 25, none), (4, false, some 24, none)] (by kernel_rfl) (by kernel_rfl) (by kernel_rfl) (by intro it hit; (repeat (rcases List.mem_cons.1 hit with rfl | hit; (focus (intro o ho ev w; injection ho with ho; subst ho; kernel_rfl)))); cases hit) (fun _ _ _ _ _ => ⟨fun h => h, fun h => h⟩) hst ?_
    repeat (first | (refine wpSeq_pure (v := ?_) rfl ?_ ?_; rotate_left 1; (focus (intro wq_ hSq_; (try dsimp only at hSq_); go_simp; (try with_reducible rfl); done)); (try simp only [Act.put, List.setIfInBounds_toArray, List.set_cons_zero, List.set_cons_succ])) | (refine wpSeq_pureG (v := ?_) rfl rfl ?_ ?_; rotate_left 1; (focus (intro wq_ hSq_; (try dsimp only at hSq_); go_simp; (try with_reducible rfl); done)); (try simp only [Act.put, List.setIfInBounds_toArray, List.set_cons_zero, List.set_cons_succ])) | (refine wpSeq_off rfl rfl ?_; (try simp only [Act.put, List.setIfInBounds_toArray, List.set_cons_zero, List.set_cons_succ])))
    first | refine wpSeq_call rfl (fun u1 g1 s1 K hK => ?_) | refine wpSeq_callG rfl rfl (fun u1 g1 s1 K hK => ?_)
    go_simp
    refine (rcheck_any A1 A2 n1 c1 n2 c2 wf tf u1 (I1.out.below (bt X4.out s1)) (T2.out.below (bt X4.out s1))).mono ?_
    rintro e y1 ⟨z1, rfl, hz1, b1⟩
    have hz1 := hz1.2 HC.out
    subst hz1
    (try go_wp2_with fail)
    refine hK.out _ _ b1 ?_
    clear hK K
    (try simp only [Act.put, List.setIfInBounds_toArray, List.set_cons_zero, List.set_cons_succ])
    repeat (first | (refine wpSeq_pure (v := ?_) rfl ?_ ?_; rotate_left 1; (focus (intro wq_ hSq_; (try dsimp only at hSq_); go_simp; (try with_reducible rfl); done)); (try simp only [Act.put, List.setIfInBounds_toArray, List.set_cons_zero, List.set_cons_succ])) | (refine wpSeq_pureG (v := ?_) rfl rfl ?_ ?_; rotate_left 1; (focus (intro wq_ hSq_; (try dsimp only at hSq_); go_simp; (try with_reducible rfl); done)); (try simp only [Act.put, List.setIfInBounds_toArray, List.set_cons_zero, List.set_cons_succ])) | (refine wpSeq_off rfl rfl ?_; (try simp only [Act.put, List.setIfInBounds_toArray, List.set_cons_zero, List.set_cons_succ])))
    intro wz gz sz_
    (try simp only [endJ, List.drop_succ_cons, List.drop_zero])
    have XZ := Lib.hid (bt X4.out sz_)
    have B3Z := Lib.hid ((B3.out.below hb4').below sz_)
    clear hst kc g1 s1 b1 gz sz_ X4 B3
    go_wp2_with fail
    refine (bad_any A1 A2 n1 c1 n2 c2 wf tf wz (I1.out.below XZ.out) (T2.out.below XZ.out)).mono ?_
    rintro e w5 ⟨z5, rfl, hz5, b5⟩
    have hz5 := hz5.2 HC.out
    subst hz5
    have X5 := Lib.hid (bt XZ.out b5)
    have B35 := Lib.hid (B3Z.out.below b5)
    clear b5 B3Z XZ
    go_wp2_with fail
    refine (lives_any w5 (HT.out.below (bt HB1.out X5.out))).mono ?_
    rintro e w6 ⟨z6, rfl, rfl, b6⟩
    have X6 := Lib.hid (bt X5.out b6)
    have B36 := Lib.hid (B35.out.below b6)
    have c6 := B36.out.cells
    simp only [cellsAre, Nat.zero_add, Nat.reduceAdd, and_true] at c6
    clear b6 B35 X5
    go_wp2_with fail
    refine (valid_any A1 A2 n1 c1 n2 c2 wf tf w6 (I1.out.below X6.out) (T2.out.below X6.out)).mono ?_
    rintro e w7 ⟨z7, rfl, hz7, b7⟩
    rw [cvB_f HC.out] at hz7
    subst hz7
    have X7 := Lib.hid (bt HB1.out (bt X6.out b7))
    clear b7 B36 X6 c6 
    go_wp2
    go_returns
    exact ⟨_, rfl, rfl, X7.out⟩
end Go.Proofs.Tb
