/- RateParts, the walk: the runs of Pieces are each within the error, and none could be longer; Longest is within it, and no run is longer. -/
import Derived.Test.YtcbffkkcldnegaaRateP
import Derived.Test.YtcbffkkcldnegaaLaw2
set_option linter.unusedVariables false
set_option linter.unusedSimpArgs false
namespace Go.Proofs.Tb
open Go.RowKit
attribute [local go_sem] cell_set_same

theorem LgB.two {t y : Nat → Rat} {M : Rat} {N i k : Nat} (h : LgB t y M N i k) (hN : 2 ≤ N) : i < k := by
  have := h.2.2.2.1 0 1 (by omega) (by omega) (Wi.two (by omega))
  have := h.1
  omega

set_option maxHeartbeats 12800000 in
set_option maxRecDepth 100000 in
theorem parts_any (A : Option Addr) (n c : Nat) (xs : List Rdg) (a b : Int) (w : World) (h : Rd w A n c xs) (ha : rngI a) (hb : rngI b) :
    Calls Try.prog 13 #[.slice A n c, .agg #[.int .i64 a, .int .i64 b]] w (Ret (fun v _ => v = .bool true) w) := by
  have H := Lib.hid h
  clear h ha hb
  go_enter Try.func13, Try.ntmps13
  go_wp2_with fail
  obtain ⟨W0, hW0⟩ : ∃ W0, W0 = w.alloc (.cells #[.int .i64 a, .int .i64 b] TF) := ⟨_, rfl⟩
  have e3 : Blk W0 w.heap.size TF #[.int .i64 a, .int .i64 b] := by rw [hW0]; exact Blk.new_ _ _ rfl
  have hb0 : Below w.heap.size w W0 := by rw [hW0]; go_grown
  rw [← hW0]
  clear hW0
  refine (tame_any A n c xs 20 W0 (H.out.below hb0) (by omega)).mono ?_
  rintro e w1 ⟨v1, rfl, ⟨rs, htm, A1, c1, rfl, hrd⟩, hb1⟩
  have HV := Lib.hid (htm.vld (by omega))
  have HSM := Lib.hid (htm.small (by omega))
  obtain ⟨m, hm⟩ : ∃ m, rs.length = m := ⟨_, rfl⟩
  have hm20 : m ≤ 20 := by have := htm.2.1; omega
  have hm2 : 2 ≤ m := by have := htm.1; omega
  have hc1 := hrd.cap
  have hm1 := hrd.le
  have HR1 := Lib.hid hrd
  rw [hm] at HR1 hm1 ⊢
  have HM := Lib.hid hm
  have E3 := Lib.hid (e3.below hb1)
  have HB1 := Lib.hid (bt hb0 hb1)
  have k3 := E3.out.cells
  simp only [cellsAre, Nat.zero_add, Nat.reduceAdd, and_true] at k3
  clear htm hrd hb1 hm hb0 e3
  obtain ⟨pb1, pb2⟩ := andM a
  obtain ⟨p, hp⟩ : ∃ p, bits .and .i64 a 1023 = p := ⟨_, rfl⟩
  rw [hp] at pb1 pb2
  obtain ⟨qb1, qb2⟩ := and15 b
  obtain ⟨q, hq⟩ : ∃ q, bits .and .i64 b 15 = q := ⟨_, rfl⟩
  rw [hq] at qb1 qb2
  go_wp2_with fail
  refine (zmake_any p (q + 1) w1 (by omega) (by omega)).mono ?_
  rintro e w2 ⟨v2, rfl, hv2, hb2⟩
  have hfit := fit_small (p := p) (q := q + 1) (by omega) (by omega)
  have hx0 := qv_nonneg (p := p) (q := q + 1) (by omega) pb1
  obtain ⟨x, hx⟩ : ∃ x, qv p (q + 1) = x := ⟨_, rfl⟩
  rw [hx] at hv2 hfit hx0
  have HX0 := Lib.hid hx0
  have HVX := Lib.hid (fit_vf hfit)
  have RX := Lib.hid (fit_rng hfit)
  have QX := Lib.hid (qv_self x)
  have HN0 := Lib.hid (Rat.num_nonneg.2 hx0)
  obtain ⟨xn, hxn⟩ : ∃ z, x.num = z := ⟨_, rfl⟩
  obtain ⟨xd, hxd⟩ : ∃ z : Int, (x.den : Int) = z := ⟨_, rfl⟩
  rw [hxn, hxd] at hv2 HVX RX QX
  rw [hxn] at HN0
  subst hv2
  have HOK : Hid (AskOk rs xn xd) := ⟨HV.out, HVX.out, HN0.out⟩
  have HB2 := Lib.hid (show Ext w1 w2 from hb2)
  clear hb2 hx hxn hxd hfit hx0 hp hq pb1 pb2 qb1 qb2 k3
  go_upto_region 3 with fail
  refine wp_world (fun W => Blk W w2.heap.size TF #[.int .i64 xn, .int .i64 xd] ∧ Below w2.heap.size w2 W) (by exact ⟨Blk.new_ _ _ rfl, by go_grown⟩) ?_
  rintro W3 ⟨e6, hb3⟩
  have E6 := Lib.hid e6
  have HB3 := Lib.hid (show Ext w1 W3 from bt HB2.out hb3)
  have HR3 := Lib.hid (HR1.out.below HB3.out)
  have k6 := e6.cells
  simp only [cellsAre, Nat.zero_add, Nat.reduceAdd, and_true] at k6
  clear e6 hb3
  go_wp2_with fail
  refine (rpieces_any A1 m c1 rs xn xd _ HR3.out RX.out.1 RX.out.2.2).mono ?_
  rintro e w4 ⟨v4, rfl, h4, hb4⟩
  obtain ⟨ps, A4, n4, c4, hv4, hsl, hpc⟩ := h4.2 HOK.out
  subst hv4
  rw [QX.out, HM.out] at hpc
  have hn4 : ps.length = n4 := by have := hsl.len; simpa using this
  have hle4 := hsl.le
  have hcap4 := hsl.cap
  have hn41 : 1 ≤ n4 := by have := hpc.1.1; omega
  have HPC := Lib.hid hpc
  have HN4 := Lib.hid hn4
  have HB4 := Lib.hid (show Ext W3 w4 from hb4)
  obtain ⟨b4, o4, rfl, hcl⟩ := hsl.at_int (by omega)
  have HCL := Lib.hid hcl
  clear h4 hb4 k6 hpc hsl hn4 hcl
  have k6 := (E6.out.below HB4.out).cells
  simp only [cellsAre, Nat.zero_add, Nat.reduceAdd, and_true] at k6
  go_wp2_with fail
  refine (rlongest_any A1 m c1 rs xn xd _ (HR3.out.below HB4.out) RX.out.1 RX.out.2.2).mono ?_
  rintro e w5 ⟨v5, rfl, h5, hb5⟩
  obtain ⟨i, k, hv5, hlg⟩ := h5.2 HOK.out
  subst hv5
  rw [QX.out, HM.out] at hlg
  have hik := hlg.two hm2
  have hkm := hlg.2.1
  have HG := Lib.hid hlg
  have HB5 := Lib.hid (show Ext w4 w5 from hb5)
  have c0 := Ext.cell HB5.out (HCL.out 0 (by omega))
  rw [HPC.out.1.2.1] at c0
  replace c0 : w5.cell? ⟨b4, o4, none⟩ = some (.int .i64 0) := c0
  have g1 : ((n4 : Int) == 0) = false := by rw [beq_eq_false_iff_ne]; omega
  have g2 : decide ((i : Int) < 0) = false := by simp
  have g3 : decide ((m : Int) ≤ (k : Int)) = false := by simp; omega
  have g4 : decide ((k : Int) ≤ (i : Int)) = false := by simp; omega
  have q1 : (0 : Int) < (n4 : Int) := by omega
  have q2 : 0 < n4 := by omega
  clear h5 hb5 k6 hlg
  go_wp2_with fail
  refine (lives_any _).mono ?_
  rintro e w6 ⟨v6, rfl, hv6, hb6⟩
  subst hv6
  have HB6 := Lib.hid (show Ext w4 w6 from bt HB5.out hb6)
  clear c0 g1 q1 q2 hb6 g2 g3 g4
  obtain ⟨bb, oo, rfl, _⟩ := HR1.out.at_ (by omega)
  have HLW : Hid (∀ W lo hi, Ext w4 W → lo < hi → hi ≤ m → Calls Try.prog 51 #[.slice (some ⟨bb, oo + lo * 2, none⟩) (hi - lo) (c1 - lo), .agg #[.int .i64 xn, .int .i64 xd]] W (Ret (fun v _ => v = .bool (wiB rs x lo (hi - 1))) W)) := fun W lo hi hW h1 h2 => by
    have := lwithin_any _ _ _ rs lo x xn xd W ((HR3.out.below (bt HB4.out hW)).sub (Nat.le_of_lt h1) h2) HV.out HSM.out (by omega) (by have := HM.out; omega) QX.out RX.out.1 RX.out.2.1 RX.out.2.2 HX0.out
    rw [show lo + (hi - lo - 1) = hi - 1 by omega] at this
    exact this
  have s1 := fun w => rd_slice_lh bb oo m c1 i (k + 1) w (by omega) (by omega) (by omega)
  have r1 : (((k + 1 : Nat) : Int)) = (k : Int) + 1 := by omega
  rw [r1] at s1
  have w1' : IntKind.i64.wrap ((k : Int) + 1) = (k : Int) + 1 := IntWalk.i64_in _ (by omega)
  have k6 := fun w' (hh : Ext w6 w') => ((E6.out.below (bt HB4.out HB6.out)).below hh).cells
  simp only [cellsAre, Nat.zero_add, Nat.reduceAdd, and_true] at k6
  have hst : Ext w6 w6.drew := Ext.drew _
  clear r1
  go_upto_region 7 with fail
  refine wp_region_adv 6 [] [(0, true, some 77, none), (1, true, some 78, none), (2, true, some 79, none), (3, true, some 80, none), (4, true, some 81, none), (5, true, some 82, none)] (by kernel_rfl) (by kernel_rfl) (by kernel_rfl) (by intro it hit; (repeat (rcases List.mem_cons.1 hit with rfl | hit; (focus (intro o ho ev w; injection ho with ho; subst ho; kernel_rfl)))); cases hit) (fun _ _ _ _ _ => ⟨fun h => h, fun h => h⟩) hst ?_
  repeat (first | (refine wpSeq_pure (v := ?_) rfl ?_ ?_; rotate_left 1; (focus (intro wq_ hSq_; (try dsimp only at hSq_); go_simp; (try with_reducible rfl); done)); (try simp only [Act.put, List.setIfInBounds_toArray, List.set_cons_zero, List.set_cons_succ])) | (refine wpSeq_pureG (v := ?_) rfl rfl ?_ ?_; rotate_left 1; (focus (intro wq_ hSq_; (try dsimp only at hSq_); go_simp; (try with_reducible rfl); done)); (try simp only [Act.put, List.setIfInBounds_toArray, List.set_cons_zero, List.set_cons_succ])) | (refine wpSeq_off rfl rfl ?_; (try simp only [Act.put, List.setIfInBounds_toArray, List.set_cons_zero, List.set_cons_succ])))
  intro wz gz sz_
  (try simp only [endJ, List.drop_succ_cons, List.drop_zero])
  have HZ := Lib.hid (show Ext w4 wz from bt HB6.out sz_)
  clear s1 w1' k6 hst gz sz_
  go_wp2_with fail
  refine (HLW.out wz i (k + 1) HZ.out (by omega) (by omega)).mono ?_
  rintro e w7 ⟨v7, rfl, hv7, hb7⟩
  rw [wiB_t (by rw [show k + 1 - 1 = k by omega]; exact HG.out.2.2.1)] at hv7
  subst hv7
  have HB7 := Lib.hid (show Ext w4 w7 from bt HZ.out hb7)
  clear hb7
  go_wp2
  go_loopw [13] (fun z wr => ∃ j : Nat, z = .int .i64 j ∧ j ≤ n4 ∧ Ext w4 wr) (fun z _ => n4 - (intOf z).toNat)
  case atStart => exact ⟨0, rfl, Nat.zero_le _, HB7.out⟩
  case round =>
    obtain ⟨j, rfl, hj, hxx⟩ := hrel
    obtain ⟨wj, rfl⟩ : ∃ wo : World, wo = wr := ⟨_, rfl⟩
    have HXJ := Lib.hid hxx
    clear hxx
    by_cases hjn : j < n4
    · have g1 : decide ((j : Int) < (n4 : Int)) = true := by simp; omega
      have p1 : (j : Int) < (n4 : Int) := by omega
      have cj := fun w' (hh : Ext wj w') => Ext.cell (bt HXJ.out hh) (HCL.out j hjn)
      have hljm := HPC.out.lt j (by rw [HN4.out]; exact hjn)
      obtain ⟨lj, hlj⟩ : ∃ lj, ps.getD j 0 = lj := ⟨_, rfl⟩
      rw [hlj] at cj hljm
      have HLJ := Lib.hid hlj
      clear hlj
      by_cases hj1 : j + 1 < n4
      · have g2 : decide ((j : Int) + 1 < (n4 : Int)) = true := by simp; omega
        have cj0 := cj wj (Ext.refl _)
        have ck := Ext.cell HXJ.out (HCL.out (j + 1) hj1)
        obtain ⟨f1, f2, f3⟩ := HPC.out.1.2.2 j (by rw [HN4.out]; exact hj1)
        have hnm := HPC.out.lt (j + 1) (by rw [HN4.out]; exact hj1)
        obtain ⟨nx, hnx⟩ : ∃ lj, ps.getD (j + 1) 0 = lj := ⟨_, rfl⟩
        rw [hnx] at ck hnm
        rw [HLJ.out, hnx] at f1 f2 f3
        have HW1 := Lib.hid (wiB_t f2)
        have HW2 := Lib.hid (wiB_f f3)
        have hlen := HG.out.2.2.2.1 lj (nx - 1) (by omega) (by omega) f2
        have p2 : (j : Int) + 1 < (n4 : Int) := by omega
        have p3 : ((j : Int) + 1).toNat = j + 1 := by omega
        clear hnx f2 f3
        have g5 : decide ((nx : Int) < (m : Int)) = true := by simp; omega
        have g5' : decide (nx < m) = true := by simp; omega
        go_upto_region 15 with fail
        have s1 := fun w => rd_slice_lh bb oo m c1 lj nx w (by omega) (by omega) (by omega)
        have s2 : nx + 1 ≤ m → ∀ w, (Instr.sliceAt TRS (.slice (some ⟨bb, oo, none⟩) m c1) (some (.int .i64 (lj : Int))) (some (.int .i64 ((nx : Int) + 1))) none).run Try.prog w = .ok (.slice (some ⟨bb, oo + lj * 2, none⟩) (nx + 1 - lj) (c1 - lj)) w := fun hle w => by
          have := rd_slice_lh bb oo m c1 lj (nx + 1) w (by omega) (by omega) (by omega)
          rw [show (((nx + 1 : Nat) : Int)) = (nx : Int) + 1 by omega] at this
          exact this
        first | have s2 := s2 (by omega) | clear s2
        have w1' : IntKind.i64.wrap ((nx : Int) + 1) = (nx : Int) + 1 := IntWalk.i64_in _ (by omega)
        have w2' : IntKind.i64.wrap ((nx : Int) - (lj : Int)) = (nx : Int) - (lj : Int) := IntWalk.i64_in _ (by omega)
        have w3' : IntKind.i64.wrap ((k : Int) - (i : Int)) = (k : Int) - (i : Int) := IntWalk.i64_in _ (by omega)
        have w4' : IntKind.i64.wrap ((k : Int) - (i : Int) + 1) = (k : Int) - (i : Int) + 1 := IntWalk.i64_in _ (by omega)
        have g3 : decide ((lj : Int) < 0) = false := by simp
        have g4 : decide ((nx : Int) ≤ (lj : Int)) = false := by simp; omega
        have g4' : decide (nx ≤ lj) = false := by simp; omega
        have g6 : decide ((m : Int) < (nx : Int)) = false := by simp <;> omega
        have g6' : decide (m < nx) = false := by simp <;> omega
        have g7 : decide ((k : Int) - (i : Int) + 1 < (nx : Int) - (lj : Int)) = false := by simp; omega
        have k6 := fun w' (hh : Ext wj w') => ((E6.out.below (bt HB4.out HXJ.out)).below hh).cells
        simp only [cellsAre, Nat.zero_add, Nat.reduceAdd, and_true] at k6
        have hst : Ext wj wj.drew := Ext.drew _
        refine wp_region_adv 60 [] [(0, true, some 103, none), (1, true, some 104, none), (2, true, some 105, none), (3, true, some 106, none), (4, true, some 107, none), (5, true, some 108, none), (6, true, some 109, some (108, false)), (7, true, some 110, some (108, false)), (8, true, some 111, some (108, false)), (9, true, some 112, some (108, false)), (10, true, some 113, some (108, false)), (11, true, some 114, some (108, false)), (12, true, some 115, none), (13, true, some 116, none), (14, true, some 117, some (116, false)), (15, true, some 118, some (116, false)), (16, true, some 119, some (116, false)), (17, true, some 120, some (116, false)), (18, true, some 121, none), (19, true, some 122, none), (20, true, some 123, some (122, false)), (21, true, some 124, some (122, false)), (22, true, some 125, some (122, false)), (23, true, some 126, some (122, false)), (24, true, some 127, some (122, false)), (25, true, some 128, some (122, false)), (26, true, some 129, some (122, false)), (27, true, some 130, some (122, false)), (28, false, some 131, some (122, false)), (29, true, some 132, some (122, false)), (30, true, some 133, none), (31, true, some 134, none), (32, true, some 135, some (134, false)), (33, true, some 136, some (134, false)), (34, true, some 137, some (134, false)), (35, true, some 138, some (134, false)), (36, true, some 139, some (134, false)), (37, true, some 140, some (139, true)), (38, true, some 141, some (139, true)), (39, true, some 142, some (139, true)), (40, true, some 143, some (139, true)), (41, true, some 144, some (139, true)), (42, true, some 145, some (139, true)), (43, true, some 146, some (139, true)), (44, true, some 147, some (139, true)), (45, true, some 148, some (139, true)), (46, false, some 149, some (139, true)), (47, true, some 150, some (134, false)), (48, true, some 151, none), (49, true, some 152, none), (50, true, some 153, some (152, false)), (51, true, some 154, some (152, false)), (52, true, some 155, some (152, false)), (53, true, some 156, some (152, false)), (54, true, some 157, some (152, false)), (55, true, some 158, some (152, false)), (56, true, some 159, some (152, false)), (57, true, some 160, some (152, false)), (58, true, some 161, some (152, false)), (59, true, some 162, some (152, false))] (by kernel_rfl) (by kernel_rfl) (by kernel_rfl) (by intro it hit; (repeat (rcases List.mem_cons.1 hit with rfl | hit; (focus (intro o ho ev w; injection ho with ho; subst ho; kernel_rfl)))); cases hit) (fun _ _ _ _ _ => ⟨fun h => h, fun h => h⟩) hst ?_
        repeat (first | (refine wpSeq_pure (v := ?_) rfl ?_ ?_; rotate_left 1; (focus (intro wq_ hSq_; (try dsimp only at hSq_); go_simp; (try with_reducible rfl); done)); (try simp only [Act.put, List.setIfInBounds_toArray, List.set_cons_zero, List.set_cons_succ])) | (refine wpSeq_pureG (v := ?_) rfl rfl ?_ ?_; rotate_left 1; (focus (intro wq_ hSq_; (try dsimp only at hSq_); go_simp; (try with_reducible rfl); done)); (try simp only [Act.put, List.setIfInBounds_toArray, List.set_cons_zero, List.set_cons_succ])) | (refine wpSeq_off rfl rfl ?_; (try simp only [Act.put, List.setIfInBounds_toArray, List.set_cons_zero, List.set_cons_succ])))
        first | refine wpSeq_call rfl (fun u1 g1' s1' K hK => ?_) | refine wpSeq_callG rfl rfl (fun u1 g1' s1' K hK => ?_)
        go_simp
        refine (HLW.out u1 lj nx (bt HXJ.out s1') (by omega) (by omega)).mono ?_
        rintro e y1 ⟨z1, rfl, hv1', b1'⟩
        rw [HW1.out] at hv1'
        subst hv1'
        (try go_wp2_with fail)
        refine hK.out _ _ b1' ?_
        clear hK K
        (try simp only [Act.put, List.setIfInBounds_toArray, List.set_cons_zero, List.set_cons_succ])
        repeat (first | (refine wpSeq_pure (v := ?_) rfl ?_ ?_; rotate_left 1; (focus (intro wq_ hSq_; (try dsimp only at hSq_); go_simp; (try with_reducible rfl); done)); (try simp only [Act.put, List.setIfInBounds_toArray, List.set_cons_zero, List.set_cons_succ])) | (refine wpSeq_pureG (v := ?_) rfl rfl ?_ ?_; rotate_left 1; (focus (intro wq_ hSq_; (try dsimp only at hSq_); go_simp; (try with_reducible rfl); done)); (try simp only [Act.put, List.setIfInBounds_toArray, List.set_cons_zero, List.set_cons_succ])) | (refine wpSeq_off rfl rfl ?_; (try simp only [Act.put, List.setIfInBounds_toArray, List.set_cons_zero, List.set_cons_succ])))
        first | refine wpSeq_call rfl (fun u2 g2' s2' K hK => ?_) | refine wpSeq_callG rfl rfl (fun u2 g2' s2' K hK => ?_)
        go_simp
        refine (HLW.out u2 lj (nx + 1) (bt HXJ.out s2') (by omega) (by omega)).mono ?_
        rintro e y2 ⟨z2, rfl, hv2', b2'⟩
        rw [show nx + 1 - 1 = nx by omega, HW2.out] at hv2'
        subst hv2'
        (try go_wp2_with fail)
        refine hK.out _ _ b2' ?_
        clear hK K
        (try simp only [Act.put, List.setIfInBounds_toArray, List.set_cons_zero, List.set_cons_succ])
        repeat (first | (refine wpSeq_pure (v := ?_) rfl ?_ ?_; rotate_left 1; (focus (intro wq_ hSq_; (try dsimp only at hSq_); go_simp; (try with_reducible rfl); done)); (try simp only [Act.put, List.setIfInBounds_toArray, List.set_cons_zero, List.set_cons_succ])) | (refine wpSeq_pureG (v := ?_) rfl rfl ?_ ?_; rotate_left 1; (focus (intro wq_ hSq_; (try dsimp only at hSq_); go_simp; (try with_reducible rfl); done)); (try simp only [Act.put, List.setIfInBounds_toArray, List.set_cons_zero, List.set_cons_succ])) | (refine wpSeq_off rfl rfl ?_; (try simp only [Act.put, List.setIfInBounds_toArray, List.set_cons_zero, List.set_cons_succ])))
        intro wz2 gz sz_
        (try simp only [endJ, List.drop_succ_cons, List.drop_zero])
        have HZ2 := Lib.hid (show Ext w4 wz2 from bt HXJ.out sz_)
        clear s1 w1' w2' w3' w4' k6 hst gz sz_ cj
        go_wp2
        go_roundw
        case rel => exact ⟨j + 1, by go_num, by omega, HZ2.out⟩
        case measure => first | (simp [intOf]; done) | (simp [intOf]; omega)
      · have g2 : decide ((j : Int) + 1 < (n4 : Int)) = false := by simp; omega
        have hjl : j = n4 - 1 := by omega
        have hw1 : Wi (tq rs) (yq rs) x lj (m - 1) := by
          have := HPC.out.2.2
          rw [HN4.out, ← hjl, HLJ.out] at this
          exact this
        have HW1 := Lib.hid (wiB_t hw1)
        have hlen := HG.out.2.2.2.1 lj (m - 1) (by omega) (by omega) hw1
        have r5 : (n4 : Int) ≤ (j : Int) + 1 := by omega
        clear hw1 hjl
        have g5 : decide ((m : Int) < (m : Int)) = false := by simp
        have g5' : decide (m < m) = false := by simp
        go_upto_region 15 with fail
        have s1 := fun w => rd_slice_lh bb oo m c1 lj m w (by omega) (by omega) (by omega)
        have s2 : m + 1 ≤ m → ∀ w, (Instr.sliceAt TRS (.slice (some ⟨bb, oo, none⟩) m c1) (some (.int .i64 (lj : Int))) (some (.int .i64 ((m : Int) + 1))) none).run Try.prog w = .ok (.slice (some ⟨bb, oo + lj * 2, none⟩) (m + 1 - lj) (c1 - lj)) w := fun hle w => by
          have := rd_slice_lh bb oo m c1 lj (m + 1) w (by omega) (by omega) (by omega)
          rw [show (((m + 1 : Nat) : Int)) = (m : Int) + 1 by omega] at this
          exact this
        first | have s2 := s2 (by omega) | clear s2
        have w1' : IntKind.i64.wrap ((m : Int) + 1) = (m : Int) + 1 := IntWalk.i64_in _ (by omega)
        have w2' : IntKind.i64.wrap ((m : Int) - (lj : Int)) = (m : Int) - (lj : Int) := IntWalk.i64_in _ (by omega)
        have w3' : IntKind.i64.wrap ((k : Int) - (i : Int)) = (k : Int) - (i : Int) := IntWalk.i64_in _ (by omega)
        have w4' : IntKind.i64.wrap ((k : Int) - (i : Int) + 1) = (k : Int) - (i : Int) + 1 := IntWalk.i64_in _ (by omega)
        have g3 : decide ((lj : Int) < 0) = false := by simp
        have g4 : decide ((m : Int) ≤ (lj : Int)) = false := by simp; omega
        have g4' : decide (m ≤ lj) = false := by simp; omega
        have g6 : decide ((m : Int) < (m : Int)) = false := by simp <;> omega
        have g6' : decide (m < m) = false := by simp <;> omega
        have g7 : decide ((k : Int) - (i : Int) + 1 < (m : Int) - (lj : Int)) = false := by simp; omega
        have k6 := fun w' (hh : Ext wj w') => ((E6.out.below (bt HB4.out HXJ.out)).below hh).cells
        simp only [cellsAre, Nat.zero_add, Nat.reduceAdd, and_true] at k6
        have hst : Ext wj wj.drew := Ext.drew _
        refine wp_region_adv 60 [] [(0, true, some 103, none), (1, true, some 104, none), (2, true, some 105, none), (3, true, some 106, none), (4, true, some 107, none), (5, true, some 108, none), (6, true, some 109, some (108, false)), (7, true, some 110, some (108, false)), (8, true, some 111, some (108, false)), (9, true, some 112, some (108, false)), (10, true, some 113, some (108, false)), (11, true, some 114, some (108, false)), (12, true, some 115, none), (13, true, some 116, none), (14, true, some 117, some (116, false)), (15, true, some 118, some (116, false)), (16, true, some 119, some (116, false)), (17, true, some 120, some (116, false)), (18, true, some 121, none), (19, true, some 122, none), (20, true, some 123, some (122, false)), (21, true, some 124, some (122, false)), (22, true, some 125, some (122, false)), (23, true, some 126, some (122, false)), (24, true, some 127, some (122, false)), (25, true, some 128, some (122, false)), (26, true, some 129, some (122, false)), (27, true, some 130, some (122, false)), (28, false, some 131, some (122, false)), (29, true, some 132, some (122, false)), (30, true, some 133, none), (31, true, some 134, none), (32, true, some 135, some (134, false)), (33, true, some 136, some (134, false)), (34, true, some 137, some (134, false)), (35, true, some 138, some (134, false)), (36, true, some 139, some (134, false)), (37, true, some 140, some (139, true)), (38, true, some 141, some (139, true)), (39, true, some 142, some (139, true)), (40, true, some 143, some (139, true)), (41, true, some 144, some (139, true)), (42, true, some 145, some (139, true)), (43, true, some 146, some (139, true)), (44, true, some 147, some (139, true)), (45, true, some 148, some (139, true)), (46, false, some 149, some (139, true)), (47, true, some 150, some (134, false)), (48, true, some 151, none), (49, true, some 152, none), (50, true, some 153, some (152, false)), (51, true, some 154, some (152, false)), (52, true, some 155, some (152, false)), (53, true, some 156, some (152, false)), (54, true, some 157, some (152, false)), (55, true, some 158, some (152, false)), (56, true, some 159, some (152, false)), (57, true, some 160, some (152, false)), (58, true, some 161, some (152, false)), (59, true, some 162, some (152, false))] (by kernel_rfl) (by kernel_rfl) (by kernel_rfl) (by intro it hit; (repeat (rcases List.mem_cons.1 hit with rfl | hit; (focus (intro o ho ev w; injection ho with ho; subst ho; kernel_rfl)))); cases hit) (fun _ _ _ _ _ => ⟨fun h => h, fun h => h⟩) hst ?_
        repeat (first | (refine wpSeq_pure (v := ?_) rfl ?_ ?_; rotate_left 1; (focus (intro wq_ hSq_; (try dsimp only at hSq_); go_simp; (try with_reducible rfl); done)); (try simp only [Act.put, List.setIfInBounds_toArray, List.set_cons_zero, List.set_cons_succ])) | (refine wpSeq_pureG (v := ?_) rfl rfl ?_ ?_; rotate_left 1; (focus (intro wq_ hSq_; (try dsimp only at hSq_); go_simp; (try with_reducible rfl); done)); (try simp only [Act.put, List.setIfInBounds_toArray, List.set_cons_zero, List.set_cons_succ])) | (refine wpSeq_off rfl rfl ?_; (try simp only [Act.put, List.setIfInBounds_toArray, List.set_cons_zero, List.set_cons_succ])))
        first | refine wpSeq_call rfl (fun u1 g1' s1' K hK => ?_) | refine wpSeq_callG rfl rfl (fun u1 g1' s1' K hK => ?_)
        go_simp
        refine (HLW.out u1 lj m (bt HXJ.out s1') (by omega) (by omega)).mono ?_
        rintro e y1 ⟨z1, rfl, hv1', b1'⟩
        rw [HW1.out] at hv1'
        subst hv1'
        (try go_wp2_with fail)
        refine hK.out _ _ b1' ?_
        clear hK K
        (try simp only [Act.put, List.setIfInBounds_toArray, List.set_cons_zero, List.set_cons_succ])
        repeat (first | (refine wpSeq_pure (v := ?_) rfl ?_ ?_; rotate_left 1; (focus (intro wq_ hSq_; (try dsimp only at hSq_); go_simp; (try with_reducible rfl); done)); (try simp only [Act.put, List.setIfInBounds_toArray, List.set_cons_zero, List.set_cons_succ])) | (refine wpSeq_pureG (v := ?_) rfl rfl ?_ ?_; rotate_left 1; (focus (intro wq_ hSq_; (try dsimp only at hSq_); go_simp; (try with_reducible rfl); done)); (try simp only [Act.put, List.setIfInBounds_toArray, List.set_cons_zero, List.set_cons_succ])) | (refine wpSeq_off rfl rfl ?_; (try simp only [Act.put, List.setIfInBounds_toArray, List.set_cons_zero, List.set_cons_succ])))
        intro wz2 gz sz_
        (try simp only [endJ, List.drop_succ_cons, List.drop_zero])
        have HZ2 := Lib.hid (show Ext w4 wz2 from bt HXJ.out sz_)
        clear s1 w1' w2' w3' w4' k6 hst gz sz_ cj
        go_wp2
        go_roundw
        case rel => exact ⟨j + 1, by go_num, by omega, HZ2.out⟩
        case measure => first | (simp [intOf]; done) | (simp [intOf]; omega)
    · have : j = n4 := by omega
      subst this
      have g1 : decide ((j : Int) < (j : Int)) = false := by simp
      go_wp2
      go_returns
      exact ⟨_, rfl, rfl, bt HB1.out (bt HB3.out (bt HB4.out HXJ.out))⟩
end Go.Proofs.Tb
