/- ProbeParts returns true. -/
import Derived.Test.YtcjddfhhofoidaaDoorPtc
set_option linter.unusedVariables false
set_option linter.unusedSimpArgs false
namespace Go.Proofs.Tb
open Go.RowKit
attribute [local go_sem] cell_set_same

theorem best_head {ws : List Int} {ts : List Tt} (h : Cv ws ts) (s : Nat) : (plL ws ts s = [(-1, mems ws.length s)] ∧ pC ws ts s = 0) ∨
    ∃ (i : Nat) (r : List Tt), i < ts.length ∧ plL ws ts s = ((i : Int), []) :: r ∧ inn s (shw ts i) ≠ 0 ∧ outs s (shw ts i) ≠ 0 ∧ pC ws ts s = pC ws ts (inn s (shw ts i)) + pC ws ts (outs s (shw ts i)) + tC ts i * pW ws s := by
  rcases bst_inv (wsN ws) (tsN ts) s with hv | ⟨i, hi, e, a1, a2, hc⟩
  · exact Or.inl ⟨plL_end (by unfold pT; rw [hv]), by unfold pC; rw [hv]; rfl⟩
  · have hp := pln_test (n := ws.length) e a1 a2
    rw [tsN_get] at a1 a2 hp hc
    rw [tsN_len] at hi
    refine Or.inr ⟨i, _, hi, hp, a1, a2, ?_⟩
    have hx := Int.toNat_of_nonneg (h.cost_nn i)
    dsimp only at hc
    unfold pC pW
    rw [hc, Int.natCast_add, Int.natCast_add, Int.natCast_mul, hx, Int.mul_comm]
    unfold shw
    omega
set_option maxHeartbeats 6400000 in
set_option maxRecDepth 100000 in
theorem parts_any (A A' : Option Addr) (n c m d : Nat) (ws : List Int) (ts : List Tt) (w : World) (h : Il w A n c ws) (h' : Ts w A' m d ts) (ht : Tab w) :
    Calls Tryd.prog 5 #[.agg #[.slice A n c, .slice A' m d]] w (Ret (fun v _ => v = .bool true) w) := by
  have H := Lib.hid h
  have H' := Lib.hid h'
  have HT := Lib.hid ht
  clear h h' ht
  go_enter Tryd.func5, Tryd.ntmps5
  go_wp2_with fail
  have x0 : Ext w (w.alloc (.cells #[.slice A n c, .slice A' m d] TCA)) := Ext.allocR _ _
  refine (few_any A A' n c m d ws ts 10 16 (by omega) (by omega) _ (H.out.below x0) (H'.out.below x0)).mono ?_
  rintro e w1 ⟨v1, rfl, ⟨vf, vt, rfl, hf, ht⟩, hb1⟩
  obtain ⟨A1, n1, c1, hvf, il1⟩ := hf.il
  subst hvf
  obtain ⟨A2, n2, c2, hvt, sl2⟩ := ht.slp2
  subst hvt
  have ts2 := sl2.ts
  obtain ⟨wf, hwf⟩ : ∃ x, fewF ws 10 = x := ⟨_, rfl⟩
  obtain ⟨tf, htf⟩ : ∃ x, fewT ts 16 = x := ⟨_, rfl⟩
  rw [hwf] at il1
  rw [htf] at ts2
  have l1 := il1.le
  have l1' := il1.cap
  have l2 := ts2.le
  have l2' := ts2.cap
  have HL1 := Lib.hid il1.len
  have HL2 := Lib.hid ts2.len
  have I1 := Lib.hid il1
  have T2 := Lib.hid ts2
  have HB1 := Lib.hid (bt x0 hb1)
  clear hf ht sl2 il1 ts2 hwf htf x0 hb1
  go_upto_region 2 with fail
  have b3 : Blk (w1.alloc (.cells #[.slice A1 n1 c1, .slice A2 n2 c2] TCA)) w1.heap.size TCA #[.slice A1 n1 c1, .slice A2 n2 c2] := Blk.new_ _ _ rfl
  have x3 : Ext w1 (w1.alloc (.cells #[.slice A1 n1 c1, .slice A2 n2 c2] TCA)) := Ext.allocR _ _
  refine wp_world (fun W3 => Blk W3 w1.heap.size TCA #[.slice A1 n1 c1, .slice A2 n2 c2] ∧ Ext w1 W3) ⟨b3, x3⟩ ?_
  clear b3 x3
  rintro W3 ⟨b3, x3⟩
  obtain ⟨g, hg⟩ : ∃ g, w1.heap.size = g := ⟨_, rfl⟩
  rw [hg] at b3 ⊢
  have B3 := Lib.hid b3
  have X3 := Lib.hid x3
  have c3 := b3.cells
  simp only [cellsAre, Nat.zero_add, Nat.reduceAdd, and_true] at c3
  clear b3 x3 hg
  go_wp2_with fail
  refine (rbest_any A1 A2 n1 c1 n2 c2 wf tf W3 (I1.out.below X3.out) (T2.out.below X3.out) (HT.out.below (bt HB1.out X3.out))).mono ?_
  rintro e w4 ⟨v4, rfl, hv4, hb4⟩
  have X4 := Lib.hid (bt X3.out hb4)
  have B4 := Lib.hid (B3.out.below hb4)
  have c4 := B4.out.cells
  simp only [cellsAre, Nat.zero_add, Nat.reduceAdd, and_true] at c4
  clear c3 B3
  by_cases hc : Cv wf tf
  rotate_left
  · have hv4' := hv4.2 hc
    subst hv4'
    have HC := Lib.hid hc
    clear hv4 hc hb4
    go_wp2_with fail
    refine (valid_any A1 A2 n1 c1 n2 c2 wf tf w4 (I1.out.below X4.out) (T2.out.below X4.out)).mono ?_
    rintro e w5 ⟨z5, rfl, hz5, b5⟩
    rw [cvB_f HC.out] at hz5
    subst hz5
    have X5 := Lib.hid (bt X4.out b5)
    clear b5 c4
    go_wp2_with fail
    refine (lives_any w5 (HT.out.below (bt HB1.out X5.out))).mono ?_
    rintro e w6 ⟨z6, rfl, rfl, b6⟩
    have X6 := Lib.hid (bt (bt HB1.out X5.out) b6)
    clear b6
    go_wp2
    go_returns
    exact ⟨_, rfl, rfl, X6.out⟩
  · obtain ⟨A7, n7, c7, hv7, sp7⟩ := hv4.1 hc
    subst hv7
    have HC := Lib.hid hc
    obtain ⟨P, hP⟩ : ∃ x, pC wf tf (allS wf) = x := ⟨_, rfl⟩
    rw [hP]
    have hn7 : 0 < n7 := by rw [← sp7.len]; exact plL_pos _
    have hn7i : (n7 : Int) ≠ 0 := by omega
    have HP := Lib.hid hP
    have SP7 := Lib.hid sp7
    clear hv4 hc hb4 hP sp7
    go_wp2_with fail
    refine (valid_any A1 A2 n1 c1 n2 c2 wf tf w4 (I1.out.below X4.out) (T2.out.below X4.out)).mono ?_
    rintro e w5 ⟨z5, rfl, hz5, b5⟩
    rw [cvB_t HC.out] at hz5
    subst hz5
    have X5 := Lib.hid (bt X4.out b5)
    have B5 := Lib.hid (B4.out.below b5)
    have SP7 := Lib.hid (SP7.out.below b5)
    clear b5 c4 B4
    go_wp2_with fail
    refine (lives_any w5 (HT.out.below (bt HB1.out X5.out))).mono ?_
    rintro e w6 ⟨z6, rfl, rfl, b6⟩
    have X6 := Lib.hid (bt X5.out b6)
    have B6 := Lib.hid (B5.out.below b6)
    have SP7 := Lib.hid (SP7.out.below b6)
    clear b6 B5
    obtain ⟨bP, oP, rfl⟩ := SP7.out.addr hn7
    have hpos : (0 : Int) < (n7 : Int) := by omega
    have hcp := (SP7.out.ts.at_ hn7)
    obtain ⟨b', o', e', hcp⟩ := hcp
    injection e' with e'
    injection e' with e1 e2
    subst e1 e2
    have cp := (hcp 0 hn7).1
    rw [Nat.zero_mul, Nat.add_zero] at cp
    rcases best_head HC.out (allS wf) with ⟨hpl, hpc⟩ | ⟨i, r, hi, hpl, hin, hout, hpc⟩
    · have e3 : tC (plL wf tf (allS wf)) 0 = -1 := by rw [hpl]; rfl
      have e4 : n7 = 1 := by rw [← SP7.out.len, hpl]; rfl
      have e5 : P = 0 := by rw [← HP.out]; exact hpc
      rw [e3] at cp
      subst e4 e5
      have HZ := Lib.hid (bt HB1.out X6.out)
      clear hcp hpl hpc e3 hn7i
      go_wp2
      go_returns
      exact ⟨_, rfl, rfl, HZ.out⟩
    · have e3 : tC (plL wf tf (allS wf)) 0 = (i : Int) := by rw [hpl]; rfl
      rw [e3] at cp
      have HPC := Lib.hid hpc
      have HIO := Lib.hid (And.intro hin hout)
      have HI := Lib.hid hi
      have hin2 : i < n2 := by rw [← HL2.out]; exact hi
      have pin : (i : Int) < (n2 : Int) := by omega
      clear hcp hpl hpc hin hout hi e3
      have c6 := B6.out.cells
      simp only [cellsAre, Nat.zero_add, Nat.reduceAdd, and_true] at c6
      have kX := fun w' (hh : Ext w6 w') => (B6.out.below hh).cells
      have kP := fun w' (hh : Ext w6 w') => (show w'.cell? ⟨bP, oP, none⟩ = some (.int .i64 (i : Int)) from Ext.cell hh cp)
      simp only [cellsAre, Nat.zero_add, Nat.reduceAdd, and_true] at kX
      have hst : Ext w6 w6.drew := Ext.drew _
      have hi0 : ¬ ((i : Int) < 0) := by omega
      go_upto_region 9 with fail
      clear c6 cp
      refine wp_region_adv 13 [] [(0, true, some 58, none), (1, true, some 59, none), (2, true, some 60, none), (3, true, some 61, none), (4, true, some 62, none), (5, true, some 63, none), (6, true, some 64, some (63, false)), (7, true, some 65, some (63, false)), (8, true, some 66, some (63, false)), (9, true, some 67, some (63, false)), (10, true, some 68, some (63, false)), (11, true, some 69, some (63, false)), (12, true, some 70, some (63, false))] (by kernel_rfl) (by kernel_rfl) (by kernel_rfl) (by intro it hit; (repeat (rcases List.mem_cons.1 hit with rfl | hit; (focus (intro o ho ev w; injection ho with ho; subst ho; kernel_rfl)))); cases hit) (fun _ _ _ _ _ => ⟨fun h => h, fun h => h⟩) hst ?_
      repeat (first | (refine wpSeq_pure (v := ?_) rfl ?_ ?_; rotate_left 1; (focus (intro wq_ hSq_; (try dsimp only at hSq_); go_simp; (try with_reducible rfl); done)); (try simp only [Act.put, List.setIfInBounds_toArray, List.set_cons_zero, List.set_cons_succ])) | (refine wpSeq_pureG (v := ?_) rfl rfl ?_ ?_; rotate_left 1; (focus (intro wq_ hSq_; (try dsimp only at hSq_); go_simp; (try with_reducible rfl); done)); (try simp only [Act.put, List.setIfInBounds_toArray, List.set_cons_zero, List.set_cons_succ])) | (refine wpSeq_off rfl rfl ?_; (try simp only [Act.put, List.setIfInBounds_toArray, List.set_cons_zero, List.set_cons_succ])))
      intro wz gz sz_
      (try simp only [endJ, List.drop_succ_cons, List.drop_zero])
      have X7 := Lib.hid (bt X6.out sz_)
      have B7 := Lib.hid (B6.out.below sz_)
      have HPI := Lib.hid (Ext.cell sz_ (kP w6 (Ext.refl _)))
      clear kX kP hst gz sz_ B6
      go_upto_region 11 with fail
      obtain ⟨bT, oT, rfl, hcell⟩ := (T2.out.below X7.out).at_ (by omega)
      obtain ⟨ck1, A5, n5, c5, ck2, il5⟩ := hcell i hin2
      obtain ⟨x, hx⟩ : ∃ x, tC tf i = x := ⟨_, rfl⟩
      rw [hx] at ck1
      have HX := Lib.hid hx
      have IL5 := Lib.hid il5
      have kX := fun w' (hh : Ext wz w') => (B7.out.below hh).cells
      have kP := fun w' (hh : Ext wz w') => (show w'.cell? ⟨bP, oP, none⟩ = some (.int .i64 (i : Int)) from Ext.cell hh HPI.out)
      have kT1 := fun w' (hh : Ext wz w') => (show w'.cell? ⟨bT, oT + i * 2, none⟩ = some (.int .i64 x) from Ext.cell hh ck1)
      have kT2 := fun w' (hh : Ext wz w') => (show w'.cell? ⟨bT, oT + i * 2 + 1, none⟩ = some (.slice A5 n5 c5) from Ext.cell hh ck2)
      simp only [cellsAre, Nat.zero_add, Nat.reduceAdd, and_true] at kX
      have hst : Ext wz wz.drew := Ext.drew _
      clear hcell hx il5 ck1 ck2
      refine wp_region_adv 9 [⟨8, 7, TTE, #[.int .i64 0, .slice none 0 0]⟩] [(0, true, some 73, none), (1, true, some 74, none), (2, true, some 75, none), (3, true, some 76, none), (4, true, some 77, none), (5, true, some 78, none), (6, true, some 79, none), (7, true, some 80, none)] (by kernel_rfl) (by kernel_rfl) (by kernel_rfl) (by intro it hit; (repeat (rcases List.mem_cons.1 hit with rfl | hit; (focus (intro o ho ev w; injection ho with ho; subst ho; kernel_rfl)))); cases hit) (fun _ _ _ _ _ => ⟨fun h => h, fun h => h⟩) hst ?_
      repeat (first | (refine wpSeq_pure (v := ?_) rfl ?_ ?_; rotate_left 1; (focus (intro wq_ hSq_; (try dsimp only at hSq_); go_simp; (try with_reducible rfl); done)); (try simp only [Act.put, List.setIfInBounds_toArray, List.set_cons_zero, List.set_cons_succ])) | (refine wpSeq_pureG (v := ?_) rfl rfl ?_ ?_; rotate_left 1; (focus (intro wq_ hSq_; (try dsimp only at hSq_); go_simp; (try with_reducible rfl); done)); (try simp only [Act.put, List.setIfInBounds_toArray, List.set_cons_zero, List.set_cons_succ])) | (refine wpSeq_off rfl rfl ?_; (try simp only [Act.put, List.setIfInBounds_toArray, List.set_cons_zero, List.set_cons_succ])))
      intro wy gz sz_
      (try simp only [endJ, List.drop_succ_cons, List.drop_zero])
      intro R7 hr7 hu7 hB7
      (try simp only [endJ, Act.put, ptr, List.setIfInBounds_toArray, List.set_cons_zero, List.set_cons_succ])
      have k7 := hB7.cells
      have f7 := hB7.free
      simp only [cellsAre, Nat.zero_add, Nat.reduceAdd, and_true] at k7
      have HR7 := Lib.hid hr7
      have HB7 := Lib.hid hB7
      have HSZ := Lib.hid sz_
      clear kX kP kT1 kT2 hst gz sz_ hu7 hB7 hr7
      go_upto_region 12 with fail
      refine wp_world (fun W8 => Blk W8 R7 TTE #[.int .i64 x, .slice A5 n5 c5] ∧ Ext wz W8) (by exact ⟨(HB7.out.set_ 0 _).set_ 1 _, (Below.setCell (Below.setCell HSZ.out HR7.out _) HR7.out _)⟩) ?_
      clear k7 f7 HB7 HSZ
      rintro W8 ⟨b8, x8⟩
      have X8 := Lib.hid (bt X7.out x8)
      have B8 := Lib.hid (B7.out.below x8)
      have R8 := Lib.hid b8
      have IL5 := Lib.hid (IL5.out.below x8)
      have kX := fun w' (hh : Ext W8 w') => (B8.out.below hh).cells
      have kR := fun w' (hh : Ext W8 w') => (R8.out.below hh).cells
      simp only [cellsAre, Nat.zero_add, Nat.reduceAdd, and_true] at kX kR
      have hst : Ext W8 W8.drew := Ext.drew _
      clear b8 x8 HPI HR7 B7
      refine wp_region_adv 9 [] [(0, true, some 82, none), (1, true, some 83, none), (2, true, some 84, none), (3, false, some 85, none), (4, false, some 86, none), (5, true, some 81, none), (6, true, some 87, none), (7, true, some 88, none), (8, false, some 8, none)] (by kernel_rfl) (by kernel_rfl) (by kernel_rfl) (by intro it hit; (repeat (rcases List.mem_cons.1 hit with rfl | hit; (focus (intro o ho ev w; injection ho with ho; subst ho; kernel_rfl)))); cases hit) (fun _ _ _ _ _ => ⟨fun h => h, fun h => h⟩) hst ?_
      repeat (first | (refine wpSeq_pure (v := ?_) rfl ?_ ?_; rotate_left 1; (focus (intro wq_ hSq_; (try dsimp only at hSq_); go_simp; (try with_reducible rfl); done)); (try simp only [Act.put, List.setIfInBounds_toArray, List.set_cons_zero, List.set_cons_succ])) | (refine wpSeq_pureG (v := ?_) rfl rfl ?_ ?_; rotate_left 1; (focus (intro wq_ hSq_; (try dsimp only at hSq_); go_simp; (try with_reducible rfl); done)); (try simp only [Act.put, List.setIfInBounds_toArray, List.set_cons_zero, List.set_cons_succ])) | (refine wpSeq_off rfl rfl ?_; (try simp only [Act.put, List.setIfInBounds_toArray, List.set_cons_zero, List.set_cons_succ])))
      first | refine wpSeq_call rfl (fun u1 g1 s1 K hK => ?_) | refine wpSeq_callG rfl rfl (fun u1 g1 s1 K hK => ?_)
      go_simp
      refine (zall_any A1 n1 c1 wf u1 (I1.out.below (bt X8.out s1)) (by have h1 := HC.out.len10; have h2 := HL1.out; omega)).mono ?_
      rintro e y1 ⟨z1, rfl, hz1, b1⟩
      rw [upL_mems] at hz1
      obtain ⟨Aa, na, ca, hva, ila⟩ := hz1.il3
      subst hva
      have hna : na ≤ 1000 := by
        have h1 := HC.out.len10
        have h2 := HL1.out
        have h3 := mems_len n1 (2 ^ n1 - 1)
        rw [ila.len] at h3
        omega
      (try go_wp2_with fail)
      refine hK.out _ _ b1 ?_
      clear hK K
      (try simp only [Act.put, List.setIfInBounds_toArray, List.set_cons_zero, List.set_cons_succ])
      repeat (first | (refine wpSeq_pure (v := ?_) rfl ?_ ?_; rotate_left 1; (focus (intro wq_ hSq_; (try dsimp only at hSq_); go_simp; (try with_reducible rfl); done)); (try simp only [Act.put, List.setIfInBounds_toArray, List.set_cons_zero, List.set_cons_succ])) | (refine wpSeq_pureG (v := ?_) rfl rfl ?_ ?_; rotate_left 1; (focus (intro wq_ hSq_; (try dsimp only at hSq_); go_simp; (try with_reducible rfl); done)); (try simp only [Act.put, List.setIfInBounds_toArray, List.set_cons_zero, List.set_cons_succ])) | (refine wpSeq_off rfl rfl ?_; (try simp only [Act.put, List.setIfInBounds_toArray, List.set_cons_zero, List.set_cons_succ])))
      first | refine wpSeq_call rfl (fun u2 g2 s2 K hK => ?_) | refine wpSeq_callG rfl rfl (fun u2 g2 s2 K hK => ?_)
      go_simp
      refine (zparts_any A5 Aa n5 c5 na ca (tS tf i) (mems n1 (2 ^ n1 - 1)) x u2 (IL5.out.below s2) (ila.below g2) hna).mono ?_
      rintro e y2 ⟨z2, rfl, ⟨Ay, ny, cy, An, nn, cn, hv2, hily, hiln, _, _⟩, b2⟩
      subst hv2
      (try go_wp2_with fail)
      refine hK.out _ _ b2 ?_
      clear hK K
      (try simp only [Act.put, List.setIfInBounds_toArray, List.set_cons_zero, List.set_cons_succ])
      repeat (first | (refine wpSeq_pure (v := ?_) rfl ?_ ?_; rotate_left 1; (focus (intro wq_ hSq_; (try dsimp only at hSq_); go_simp; (try with_reducible rfl); done)); (try simp only [Act.put, List.setIfInBounds_toArray, List.set_cons_zero, List.set_cons_succ])) | (refine wpSeq_pureG (v := ?_) rfl rfl ?_ ?_; rotate_left 1; (focus (intro wq_ hSq_; (try dsimp only at hSq_); go_simp; (try with_reducible rfl); done)); (try simp only [Act.put, List.setIfInBounds_toArray, List.set_cons_zero, List.set_cons_succ])) | (refine wpSeq_off rfl rfl ?_; (try simp only [Act.put, List.setIfInBounds_toArray, List.set_cons_zero, List.set_cons_succ])))
      first | refine wpSeq_call rfl (fun u3 g3 s3 K hK => ?_) | refine wpSeq_callG rfl rfl (fun u3 g3 s3 K hK => ?_)
      go_simp
      (try go_wp2_with fail)
      refine hK.out _ _ (Ext.refl _) ?_
      clear hK K
      (try simp only [Act.put, List.setIfInBounds_toArray, List.set_cons_zero, List.set_cons_succ])
      repeat (first | (refine wpSeq_pure (v := ?_) rfl ?_ ?_; rotate_left 1; (focus (intro wq_ hSq_; (try dsimp only at hSq_); go_simp; (try with_reducible rfl); done)); (try simp only [Act.put, List.setIfInBounds_toArray, List.set_cons_zero, List.set_cons_succ])) | (refine wpSeq_pureG (v := ?_) rfl rfl ?_ ?_; rotate_left 1; (focus (intro wq_ hSq_; (try dsimp only at hSq_); go_simp; (try with_reducible rfl); done)); (try simp only [Act.put, List.setIfInBounds_toArray, List.set_cons_zero, List.set_cons_succ])) | (refine wpSeq_off rfl rfl ?_; (try simp only [Act.put, List.setIfInBounds_toArray, List.set_cons_zero, List.set_cons_succ])))
      intro wz2 gz sz_
      (try simp only [endJ, List.drop_succ_cons, List.drop_zero])
      have hY := hily.below (bt g3 gz)
      have hN := hiln.below (bt g3 gz)
      have X9 := Lib.hid (bt X8.out sz_)
      have B9 := Lib.hid (B8.out.below sz_)
      have R9 := Lib.hid (R8.out.below sz_)
      have HY := Lib.hid hY
      have HN := Lib.hid hN
      clear kX kR hst g1 s1 b1 g2 s2 b2 g3 s3 gz sz_ hz1 ila hily hiln hY hN B8 R8
      go_upto_region 13 with fail
      have hS : 2 ^ n1 - 1 = allS wf := by unfold allS; rw [HL1.out]
      have ey := yes_mems HC.out HI.out n1 (2 ^ n1 - 1)
      have en := no_mems HC.out HI.out n1 (2 ^ n1 - 1)
      rw [tsN_get] at ey en
      rw [hS, ← HL1.out] at ey en
      have hY : Il wz2 Ay ny cy (mems wf.length (inn (allS wf) (shw tf i))) := by
        have h1 := HY.out
        rw [hS, ← HL1.out, ey] at h1
        exact h1
      have hN : Il wz2 An nn cn (mems wf.length (outs (allS wf) (shw tf i))) := by
        have h1 := HN.out
        rw [hS, ← HL1.out, en] at h1
        exact h1
      have his : inn (allS wf) (shw tf i) < 2 ^ wf.length := Nat.lt_of_le_of_lt (inn_le _ _) (allS_lt wf)
      have hos : outs (allS wf) (shw tf i) < 2 ^ wf.length := Nat.lt_of_le_of_lt (outs_le _ _) (allS_lt wf)
      have hny : 0 < ny := by
        rw [← hY.len]
        rcases Nat.eq_zero_or_pos (mems wf.length (inn (allS wf) (shw tf i))).length with h1 | h1
        · exact absurd ((mems_nil his).1 (List.eq_nil_of_length_eq_zero h1)) HIO.out.1
        · exact h1
      have hnn : 0 < nn := by
        rw [← hN.len]
        rcases Nat.eq_zero_or_pos (mems wf.length (outs (allS wf) (shw tf i))).length with h1 | h1
        · exact absurd ((mems_nil hos).1 (List.eq_nil_of_length_eq_zero h1)) HIO.out.2
        · exact h1
      have hny' : (ny : Int) ≠ 0 := by omega
      have hnn' : (nn : Int) ≠ 0 := by omega
      have HY2 := Lib.hid hY
      have HN2 := Lib.hid hN
      have HIS := Lib.hid his
      have HOS := Lib.hid hos
      clear HY HN ey en hY hN hS his hos
      have c9 := B9.out.cells
      simp only [cellsAre, Nat.zero_add, Nat.reduceAdd, and_true] at c9
      have I9 := Lib.hid (I1.out.below X9.out)
      have hnyb : ¬ ny = 0 := by omega
      have hnnb : ¬ nn = 0 := by omega
      go_upto_region 16 with fail
      go_wp2_with fail
      all_goals try (exfalso; first | omega | (simp_all; done) | (simp_all; omega))
      go_loopw [10, 11] (fun a i wr => ∃ k : Nat, k ≤ n1 ∧ a = .int .i64 (pWk wf (allS wf) k) ∧ i = .int .i64 (k : Int) ∧ wr = wz2) (fun _ i _ => n1 - (intOf i).toNat)
      case atStart => exact ⟨0, by omega, rfl, rfl, rfl⟩
      case round =>
        obtain ⟨k, hk, rfl, rfl, rfl⟩ := hrel
        by_cases hkn : k < n1
        · have pk : (k : Int) < (n1 : Int) := by omega
          obtain ⟨b1, o1, rfl, hcc⟩ := I9.out.at_ (by omega)
          have ck := hcc k hkn
          have hsu := pWk_succ HC.out (allS wf) k
          rw [if_pos (by unfold allS; rw [full_bit]; simpa [HL1.out] using hkn)] at hsu
          have hb1 := pWk_bd HC.out (allS wf) k (by rw [HL1.out]; exact hk)
          have hb2 := pWk_bd HC.out (allS wf) (k + 1) (by rw [HL1.out]; omega)
          have hw : wrap64 (pWk wf (allS wf) k + wf.getD k 0) = pWk wf (allS wf) (k + 1) := by rw [← hsu]; unfold wrap64; omega
          obtain ⟨F, hF⟩ : ∃ F, wf.getD k 0 = F := ⟨_, rfl⟩
          obtain ⟨G, hG⟩ : ∃ G, pWk wf (allS wf) k = G := ⟨_, rfl⟩
          obtain ⟨G', hG'⟩ : ∃ G', pWk wf (allS wf) (k + 1) = G' := ⟨_, rfl⟩
          rw [hF] at ck hw
          rw [hG, hG'] at hw
          rw [hG]
          have HGG := Lib.hid hG'
          clear hcc hsu hb1 hb2 hF hG hG'
          go_wp2
          go_roundw
          case rel => exact ⟨k + 1, by omega, by rw [HGG.out]; simp only [hw], by go_num, trivial⟩
          case measure => simp [intOf]; omega
        · have hkn2 : k = n1 := by omega
          subst hkn2
          clear I9
          have hWE : pWk wf (allS wf) k = pW wf (allS wf) := by rw [← HL1.out]; exact pWk_end _ _
          rw [hWE]
          have hb1 := pC_bd HC.out (s := inn (allS wf) (shw tf i)) (Nat.lt_of_lt_of_le HIS.out (pow_le_1024 HC.out.len10))
          have hb2 := pC_bd HC.out (s := outs (allS wf) (shw tf i)) (Nat.lt_of_lt_of_le HOS.out (pow_le_1024 HC.out.len10))
          have hb3 := pW_bd HC.out (allS wf)
          have hb4 : 0 ≤ x ∧ x ≤ 1000 := by rw [← HX.out]; exact (HC.out.2.2 i HI.out).1
          have hpp := HPC.out
          rw [HP.out, HX.out] at hpp
          obtain ⟨PA, hPA⟩ : ∃ y, pC wf tf (inn (allS wf) (shw tf i)) = y := ⟨_, rfl⟩
          obtain ⟨PB, hPB⟩ : ∃ y, pC wf tf (outs (allS wf) (shw tf i)) = y := ⟨_, rfl⟩
          obtain ⟨PW, hPW⟩ : ∃ y, pW wf (allS wf) = y := ⟨_, rfl⟩
          rw [hPA] at hb1 hpp
          rw [hPB] at hb2 hpp
          rw [hPW] at hb3 hpp ⊢
          have hxw : 0 ≤ x * PW ∧ x * PW ≤ 1000 * 10000 := ⟨Int.mul_nonneg hb4.1 hb3.1, Int.mul_le_mul hb4.2 hb3.2 hb3.1 (by omega)⟩
          have hfin : wrap64 (wrap64 (PA + PB) + wrap64 (x * PW)) = P := by rw [hpp]; unfold wrap64; omega
          have HPA := Lib.hid hPA
          have HPB := Lib.hid hPB
          have HFIN := Lib.hid hfin
          clear hWE hpp hPA hPB hPW hfin hxw hb1 hb2 hb3 hb4
          go_upto_region 20 with fail
          go_wp2_with fail
          refine (alone_any A1 (some ⟨bT, oT, none⟩) k c1 n2 c2 wf tf HC.out Ay ny cy (inn (allS wf) (shw tf i)) HIS.out HIO.out.1 wr (I1.out.below X9.out) (T2.out.below X9.out) HY2.out (HT.out.below (bt HB1.out X9.out))).mono ?_
          rintro e wa ⟨za, rfl, hza, ba⟩
          rw [HPA.out] at hza
          subst hza
          have Xa := Lib.hid (bt X9.out ba)
          have HN2 := Lib.hid (HN2.out.below ba)
          have Ra := Lib.hid (R9.out.below ba)
          have ca := (B9.out.below ba).cells
          simp only [cellsAre, Nat.zero_add, Nat.reduceAdd, and_true] at ca
          clear ba c9
          go_wp2_with fail
          refine (alone_any A1 (some ⟨bT, oT, none⟩) k c1 n2 c2 wf tf HC.out An nn cn (outs (allS wf) (shw tf i)) HOS.out HIO.out.2 wa (I1.out.below Xa.out) (T2.out.below Xa.out) HN2.out (HT.out.below (bt HB1.out Xa.out))).mono ?_
          rintro e wb ⟨zb, rfl, hzb, bb⟩
          rw [HPB.out] at hzb
          subst hzb
          have Xb := Lib.hid (bt HB1.out (bt Xa.out bb))
          have rb := (Ra.out.below bb).cells
          simp only [cellsAre, Nat.zero_add, Nat.reduceAdd, and_true] at rb
          have hfin := HFIN.out
          clear bb ca HFIN Ra
          go_wp2
          go_returns
          exact ⟨_, rfl, (by show Value.bool _ = _; simp [hfin]), Xb.out⟩
end Go.Proofs.Tb
