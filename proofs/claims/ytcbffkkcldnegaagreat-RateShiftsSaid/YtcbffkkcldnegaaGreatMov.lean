/- RateShifts: its function value, which holds two lines against each other. -/
import Derived.Test.YtcbffkkcldnegaaGreatRef3
import Derived.Test.YtcbffkkcldnegaaGreatRefU
set_option linter.unusedVariables false
set_option linter.unusedSimpArgs false
namespace Go.Proofs.Tb
open Go.RowKit
attribute [local go_sem] cell_set_same

/-- A fraction's numbers as they should be. -/
structure FOk (n d : Int) : Prop where
  v : vF n d = true
  n1 : -9223372036854775808 ≤ n
  n2 : n ≤ 9223372036854775807
  d0 : 0 < d
  d1 : -9223372036854775808 ≤ d
  d2 : d ≤ 9223372036854775807
set_option maxHeartbeats 3200000 in
set_option maxRecDepth 100000 in
theorem moved_any (a1 a2 a3 a4 c1 c2 c3 c4 b s : Int) (p4 p5 : Nat) (w : World) (h1 : FOk a1 a2) (h2 : FOk a3 a4) (h3 : FOk c1 c2) (h4 : FOk c3 c4) (hb : -99 ≤ b ∧ b ≤ 99) (hs : -999 ≤ s ∧ s ≤ 999)
    (e1 : qv a1 a2 + (b : Rat) = qv c1 c2) (e2 : qv a3 a4 + (s : Rat) = qv c3 c4) (k4 : w.cell? ⟨p4, 0, none⟩ = some (.int .i64 b)) (k5 : w.cell? ⟨p5, 0, none⟩ = some (.int .i64 s)) :
    Calls Tryz.prog 22 #[.agg #[.int .i64 a1, .int .i64 a2, .int .i64 a3, .int .i64 a4], .agg #[.int .i64 c1, .int .i64 c2, .int .i64 c3, .int .i64 c4], .pointer (some ⟨p4, 0, none⟩), .pointer (some ⟨p5, 0, none⟩)] w (Ret (fun v _ => v = .bool true) w) := by
  have H1 := Lib.hid h1
  have H2 := Lib.hid h2
  have H3 := Lib.hid h3
  have H4 := Lib.hid h4
  have HBD := Lib.hid (And.intro hb hs)
  have Z1 : Hid (cmpR (qv a1 a2 + (b : Rat)) (qv c1 c2) = 0) := cmpR_eq.2 e1
  have Z2 : Hid (cmpR (qv a3 a4 + (s : Rat)) (qv c3 c4) = 0) := cmpR_eq.2 e2
  have HK := Lib.hid (And.intro k4 k5)
  clear h1 h2 h3 h4 hb hs e1 e2 k4 k5
  go_enter Tryz.func22, Tryz.ntmps22
  go_upto_region 1 with fail
  refine wp_world (fun W0 => Blk W0 w.heap.size TAL #[.int .i64 a1, .int .i64 a2, .int .i64 a3, .int .i64 a4] ∧ Blk W0 (w.heap.size + 1) TAL #[.int .i64 c1, .int .i64 c2, .int .i64 c3, .int .i64 c4] ∧ Below w.heap.size w W0) (by exact ⟨(Blk.new_ _ _ rfl).alloc _, Blk.new_ _ _ (by simp), by go_grown⟩) ?_
  rintro W0 ⟨b0, b1, hbw⟩
  have ka := cells4 b0
  have kc := cells4 b1
  have kb := fun w' (hh : Ext W0 w') => (show w'.cell? ⟨p4, 0, none⟩ = some (.int .i64 b) ∧ w'.cell? ⟨p5, 0, none⟩ = some (.int .i64 s) from ⟨Ext.cell (bt hbw hh) HK.out.1, Ext.cell (bt hbw hh) HK.out.2⟩)
  have hst : Ext W0 W0.drew := Ext.drew _
  clear b0 b1
  refine wp_region_adv 40 [] [(0, true, some 7, none), (1, true, some 8, none), (2, false, some 9, none), (3, true, some 10, none), (4, true, some 11, some (10, true)), (5, true, some 12, some (10, true)), (6, false, some 13, some (10, true)), (7, true, some 14, none), (8, true, some 15, none), (9, true, some 16, some (15, true)), (10, true, some 17, some (15, true)), (11, false, some 18, some (15, true)), (12, true, some 19, none), (13, true, some 20, none), (14, true, some 21, some (20, true)), (15, true, some 22, some (20, true)), (16, false, some 23, some (20, true)), (17, true, some 24, none), (18, true, some 25, none), (19, true, some 26, some (25, true)), (20, true, some 27, some (25, true)), (22, true, some 29, some (25, true)), (25, true, some 32, some (25, true)), (26, true, some 33, some (25, true)), (21, false, some 28, some (25, true)), (23, false, some 30, some (25, true)), (24, false, some 31, some (25, true)), (27, false, some 34, some (25, true)), (28, false, some 35, some (25, true)), (29, true, some 36, some (25, true)), (30, true, some 37, none), (31, true, some 38, none), (32, true, some 39, some (38, true)), (33, true, some 40, some (38, true)), (35, true, some 42, some (38, true)), (38, true, some 45, some (38, true)), (39, true, some 46, some (38, true)), (34, false, some 41, some (38, true)), (36, false, some 43, some (38, true)), (37, false, some 44, some (38, true))] (by kernel_rfl) (by kernel_rfl) (by kernel_rfl) (by intro it hit; (repeat (rcases List.mem_cons.1 hit with rfl | hit; (focus (intro o ho ev w; injection ho with ho; subst ho; kernel_rfl)))); cases hit) (fun _ _ _ _ _ => ⟨fun h => h, fun h => h⟩) hst ?_
  repeat (first | (refine wpSeq_pure (v := ?_) rfl ?_ ?_; rotate_left 1; (focus (intro wq_ hSq_; (try dsimp only at hSq_); go_simp; (try with_reducible rfl); done)); (try simp only [Act.put, List.setIfInBounds_toArray, List.set_cons_zero, List.set_cons_succ])) | (refine wpSeq_pureG (v := ?_) rfl rfl ?_ ?_; rotate_left 1; (focus (intro wq_ hSq_; (try dsimp only at hSq_); go_simp; (try with_reducible rfl); done)); (try simp only [Act.put, List.setIfInBounds_toArray, List.set_cons_zero, List.set_cons_succ])) | (refine wpSeq_off rfl rfl ?_; (try simp only [Act.put, List.setIfInBounds_toArray, List.set_cons_zero, List.set_cons_succ])))
  first | refine wpSeq_call rfl (fun u1 g1 s1 K hK => ?_) | refine wpSeq_callG rfl rfl (fun u1 g1 s1 K hK => ?_)
  go_simp
  refine (zvalid_any a1 a2 u1 (H1).out.n1 (H1).out.n2 (H1).out.d1 (H1).out.d2).mono ?_
  rintro ex1 y1 ⟨z1, rfl, hz1, b1⟩
  rw [(H1).out.v] at hz1
  subst hz1
  (try go_wp2_with fail)
  refine hK.out _ _ b1 ?_
  clear hK K
  (try simp only [Act.put, List.setIfInBounds_toArray, List.set_cons_zero, List.set_cons_succ])
  repeat (first | (refine wpSeq_pure (v := ?_) rfl ?_ ?_; rotate_left 1; (focus (intro wq_ hSq_; (try dsimp only at hSq_); go_simp; (try with_reducible rfl); done)); (try simp only [Act.put, List.setIfInBounds_toArray, List.set_cons_zero, List.set_cons_succ])) | (refine wpSeq_pureG (v := ?_) rfl rfl ?_ ?_; rotate_left 1; (focus (intro wq_ hSq_; (try dsimp only at hSq_); go_simp; (try with_reducible rfl); done)); (try simp only [Act.put, List.setIfInBounds_toArray, List.set_cons_zero, List.set_cons_succ])) | (refine wpSeq_off rfl rfl ?_; (try simp only [Act.put, List.setIfInBounds_toArray, List.set_cons_zero, List.set_cons_succ])))
  first | refine wpSeq_call rfl (fun u2 g2 s2 K hK => ?_) | refine wpSeq_callG rfl rfl (fun u2 g2 s2 K hK => ?_)
  go_simp
  refine (zvalid_any a3 a4 u2 (H2).out.n1 (H2).out.n2 (H2).out.d1 (H2).out.d2).mono ?_
  rintro ex2 y2 ⟨z2, rfl, hz2, b2⟩
  rw [(H2).out.v] at hz2
  subst hz2
  (try go_wp2_with fail)
  refine hK.out _ _ b2 ?_
  clear hK K
  (try simp only [Act.put, List.setIfInBounds_toArray, List.set_cons_zero, List.set_cons_succ])
  repeat (first | (refine wpSeq_pure (v := ?_) rfl ?_ ?_; rotate_left 1; (focus (intro wq_ hSq_; (try dsimp only at hSq_); go_simp; (try with_reducible rfl); done)); (try simp only [Act.put, List.setIfInBounds_toArray, List.set_cons_zero, List.set_cons_succ])) | (refine wpSeq_pureG (v := ?_) rfl rfl ?_ ?_; rotate_left 1; (focus (intro wq_ hSq_; (try dsimp only at hSq_); go_simp; (try with_reducible rfl); done)); (try simp only [Act.put, List.setIfInBounds_toArray, List.set_cons_zero, List.set_cons_succ])) | (refine wpSeq_off rfl rfl ?_; (try simp only [Act.put, List.setIfInBounds_toArray, List.set_cons_zero, List.set_cons_succ])))
  first | refine wpSeq_call rfl (fun u3 g3 s3 K hK => ?_) | refine wpSeq_callG rfl rfl (fun u3 g3 s3 K hK => ?_)
  go_simp
  refine (zvalid_any c1 c2 u3 (H3).out.n1 (H3).out.n2 (H3).out.d1 (H3).out.d2).mono ?_
  rintro ex3 y3 ⟨z3, rfl, hz3, b3⟩
  rw [(H3).out.v] at hz3
  subst hz3
  (try go_wp2_with fail)
  refine hK.out _ _ b3 ?_
  clear hK K
  (try simp only [Act.put, List.setIfInBounds_toArray, List.set_cons_zero, List.set_cons_succ])
  repeat (first | (refine wpSeq_pure (v := ?_) rfl ?_ ?_; rotate_left 1; (focus (intro wq_ hSq_; (try dsimp only at hSq_); go_simp; (try with_reducible rfl); done)); (try simp only [Act.put, List.setIfInBounds_toArray, List.set_cons_zero, List.set_cons_succ])) | (refine wpSeq_pureG (v := ?_) rfl rfl ?_ ?_; rotate_left 1; (focus (intro wq_ hSq_; (try dsimp only at hSq_); go_simp; (try with_reducible rfl); done)); (try simp only [Act.put, List.setIfInBounds_toArray, List.set_cons_zero, List.set_cons_succ])) | (refine wpSeq_off rfl rfl ?_; (try simp only [Act.put, List.setIfInBounds_toArray, List.set_cons_zero, List.set_cons_succ])))
  first | refine wpSeq_call rfl (fun u4 g4 s4 K hK => ?_) | refine wpSeq_callG rfl rfl (fun u4 g4 s4 K hK => ?_)
  go_simp
  refine (zvalid_any c3 c4 u4 (H4).out.n1 (H4).out.n2 (H4).out.d1 (H4).out.d2).mono ?_
  rintro ex4 y4 ⟨z4, rfl, hz4, b4⟩
  rw [(H4).out.v] at hz4
  subst hz4
  (try go_wp2_with fail)
  refine hK.out _ _ b4 ?_
  clear hK K
  (try simp only [Act.put, List.setIfInBounds_toArray, List.set_cons_zero, List.set_cons_succ])
  repeat (first | (refine wpSeq_pure (v := ?_) rfl ?_ ?_; rotate_left 1; (focus (intro wq_ hSq_; (try dsimp only at hSq_); go_simp; (try with_reducible rfl); done)); (try simp only [Act.put, List.setIfInBounds_toArray, List.set_cons_zero, List.set_cons_succ])) | (refine wpSeq_pureG (v := ?_) rfl rfl ?_ ?_; rotate_left 1; (focus (intro wq_ hSq_; (try dsimp only at hSq_); go_simp; (try with_reducible rfl); done)); (try simp only [Act.put, List.setIfInBounds_toArray, List.set_cons_zero, List.set_cons_succ])) | (refine wpSeq_off rfl rfl ?_; (try simp only [Act.put, List.setIfInBounds_toArray, List.set_cons_zero, List.set_cons_succ])))
  first | refine wpSeq_call rfl (fun u5 g5 s5 K hK => ?_) | refine wpSeq_callG rfl rfl (fun u5 g5 s5 K hK => ?_)
  go_simp
  refine (xof_any a1 a2 u5 (H1).out.n1 (H1).out.n2 (H1).out.d0 (H1).out.d2).mono ?_
  rintro ex5 y5 ⟨z5, rfl, x5, b5⟩
  (try go_wp2_with fail)
  refine hK.out _ _ b5 ?_
  clear hK K
  (try simp only [Act.put, List.setIfInBounds_toArray, List.set_cons_zero, List.set_cons_succ])
  repeat (first | (refine wpSeq_pure (v := ?_) rfl ?_ ?_; rotate_left 1; (focus (intro wq_ hSq_; (try dsimp only at hSq_); go_simp; (try with_reducible rfl); done)); (try simp only [Act.put, List.setIfInBounds_toArray, List.set_cons_zero, List.set_cons_succ])) | (refine wpSeq_pureG (v := ?_) rfl rfl ?_ ?_; rotate_left 1; (focus (intro wq_ hSq_; (try dsimp only at hSq_); go_simp; (try with_reducible rfl); done)); (try simp only [Act.put, List.setIfInBounds_toArray, List.set_cons_zero, List.set_cons_succ])) | (refine wpSeq_off rfl rfl ?_; (try simp only [Act.put, List.setIfInBounds_toArray, List.set_cons_zero, List.set_cons_succ])))
  first | refine wpSeq_call rfl (fun u6 g6 s6 K hK => ?_) | refine wpSeq_callG rfl rfl (fun u6 g6 s6 K hK => ?_)
  go_simp
  refine (xwhole_any b u6 (by have := HBD.out; omega) (by have := HBD.out; omega)).mono ?_
  rintro ex6 y6 ⟨z6, rfl, x6, b6⟩
  (try go_wp2_with fail)
  refine hK.out _ _ b6 ?_
  clear hK K
  (try simp only [Act.put, List.setIfInBounds_toArray, List.set_cons_zero, List.set_cons_succ])
  repeat (first | (refine wpSeq_pure (v := ?_) rfl ?_ ?_; rotate_left 1; (focus (intro wq_ hSq_; (try dsimp only at hSq_); go_simp; (try with_reducible rfl); done)); (try simp only [Act.put, List.setIfInBounds_toArray, List.set_cons_zero, List.set_cons_succ])) | (refine wpSeq_pureG (v := ?_) rfl rfl ?_ ?_; rotate_left 1; (focus (intro wq_ hSq_; (try dsimp only at hSq_); go_simp; (try with_reducible rfl); done)); (try simp only [Act.put, List.setIfInBounds_toArray, List.set_cons_zero, List.set_cons_succ])) | (refine wpSeq_off rfl rfl ?_; (try simp only [Act.put, List.setIfInBounds_toArray, List.set_cons_zero, List.set_cons_succ])))
  first | refine wpSeq_call rfl (fun u7 g7 s7 K hK => ?_) | refine wpSeq_callG rfl rfl (fun u7 g7 s7 K hK => ?_)
  go_simp
  refine (xadd_any (((x5.below g6).below b6).below g7) (x6.below g7) (by omega)).mono ?_
  rintro ex7 y7 ⟨z7, rfl, x7, b7⟩
  (try go_wp2_with fail)
  refine hK.out _ _ b7 ?_
  clear hK K
  (try simp only [Act.put, List.setIfInBounds_toArray, List.set_cons_zero, List.set_cons_succ])
  repeat (first | (refine wpSeq_pure (v := ?_) rfl ?_ ?_; rotate_left 1; (focus (intro wq_ hSq_; (try dsimp only at hSq_); go_simp; (try with_reducible rfl); done)); (try simp only [Act.put, List.setIfInBounds_toArray, List.set_cons_zero, List.set_cons_succ])) | (refine wpSeq_pureG (v := ?_) rfl rfl ?_ ?_; rotate_left 1; (focus (intro wq_ hSq_; (try dsimp only at hSq_); go_simp; (try with_reducible rfl); done)); (try simp only [Act.put, List.setIfInBounds_toArray, List.set_cons_zero, List.set_cons_succ])) | (refine wpSeq_off rfl rfl ?_; (try simp only [Act.put, List.setIfInBounds_toArray, List.set_cons_zero, List.set_cons_succ])))
  first | refine wpSeq_call rfl (fun u8 g8 s8 K hK => ?_) | refine wpSeq_callG rfl rfl (fun u8 g8 s8 K hK => ?_)
  go_simp
  refine (xof_any c1 c2 u8 (H3).out.n1 (H3).out.n2 (H3).out.d0 (H3).out.d2).mono ?_
  rintro ex8 y8 ⟨z8, rfl, x8, b8⟩
  (try go_wp2_with fail)
  refine hK.out _ _ b8 ?_
  clear hK K
  (try simp only [Act.put, List.setIfInBounds_toArray, List.set_cons_zero, List.set_cons_succ])
  repeat (first | (refine wpSeq_pure (v := ?_) rfl ?_ ?_; rotate_left 1; (focus (intro wq_ hSq_; (try dsimp only at hSq_); go_simp; (try with_reducible rfl); done)); (try simp only [Act.put, List.setIfInBounds_toArray, List.set_cons_zero, List.set_cons_succ])) | (refine wpSeq_pureG (v := ?_) rfl rfl ?_ ?_; rotate_left 1; (focus (intro wq_ hSq_; (try dsimp only at hSq_); go_simp; (try with_reducible rfl); done)); (try simp only [Act.put, List.setIfInBounds_toArray, List.set_cons_zero, List.set_cons_succ])) | (refine wpSeq_off rfl rfl ?_; (try simp only [Act.put, List.setIfInBounds_toArray, List.set_cons_zero, List.set_cons_succ])))
  first | refine wpSeq_call rfl (fun u9 g9 s9 K hK => ?_) | refine wpSeq_callG rfl rfl (fun u9 g9 s9 K hK => ?_)
  go_simp
  refine (xcmp_any (((x7.below g8).below b8).below g9) (x8.below g9) (by omega)).mono ?_
  rintro ex9 y9 ⟨z9, rfl, hz9, b9⟩
  rw [Z1.out] at hz9
  subst hz9
  (try go_wp2_with fail)
  refine hK.out _ _ b9 ?_
  clear hK K
  (try simp only [Act.put, List.setIfInBounds_toArray, List.set_cons_zero, List.set_cons_succ])
  repeat (first | (refine wpSeq_pure (v := ?_) rfl ?_ ?_; rotate_left 1; (focus (intro wq_ hSq_; (try dsimp only at hSq_); go_simp; (try with_reducible rfl); done)); (try simp only [Act.put, List.setIfInBounds_toArray, List.set_cons_zero, List.set_cons_succ])) | (refine wpSeq_pureG (v := ?_) rfl rfl ?_ ?_; rotate_left 1; (focus (intro wq_ hSq_; (try dsimp only at hSq_); go_simp; (try with_reducible rfl); done)); (try simp only [Act.put, List.setIfInBounds_toArray, List.set_cons_zero, List.set_cons_succ])) | (refine wpSeq_off rfl rfl ?_; (try simp only [Act.put, List.setIfInBounds_toArray, List.set_cons_zero, List.set_cons_succ])))
  first | refine wpSeq_call rfl (fun u10 g10 s10 K hK => ?_) | refine wpSeq_callG rfl rfl (fun u10 g10 s10 K hK => ?_)
  go_simp
  refine (xof_any a3 a4 u10 (H2).out.n1 (H2).out.n2 (H2).out.d0 (H2).out.d2).mono ?_
  rintro ex10 y10 ⟨z10, rfl, x10, b10⟩
  (try go_wp2_with fail)
  refine hK.out _ _ b10 ?_
  clear hK K
  (try simp only [Act.put, List.setIfInBounds_toArray, List.set_cons_zero, List.set_cons_succ])
  repeat (first | (refine wpSeq_pure (v := ?_) rfl ?_ ?_; rotate_left 1; (focus (intro wq_ hSq_; (try dsimp only at hSq_); go_simp; (try with_reducible rfl); done)); (try simp only [Act.put, List.setIfInBounds_toArray, List.set_cons_zero, List.set_cons_succ])) | (refine wpSeq_pureG (v := ?_) rfl rfl ?_ ?_; rotate_left 1; (focus (intro wq_ hSq_; (try dsimp only at hSq_); go_simp; (try with_reducible rfl); done)); (try simp only [Act.put, List.setIfInBounds_toArray, List.set_cons_zero, List.set_cons_succ])) | (refine wpSeq_off rfl rfl ?_; (try simp only [Act.put, List.setIfInBounds_toArray, List.set_cons_zero, List.set_cons_succ])))
  first | refine wpSeq_call rfl (fun u11 g11 s11 K hK => ?_) | refine wpSeq_callG rfl rfl (fun u11 g11 s11 K hK => ?_)
  go_simp
  refine (xwhole_any s u11 (by have := HBD.out; omega) (by have := HBD.out; omega)).mono ?_
  rintro ex11 y11 ⟨z11, rfl, x11, b11⟩
  (try go_wp2_with fail)
  refine hK.out _ _ b11 ?_
  clear hK K
  (try simp only [Act.put, List.setIfInBounds_toArray, List.set_cons_zero, List.set_cons_succ])
  repeat (first | (refine wpSeq_pure (v := ?_) rfl ?_ ?_; rotate_left 1; (focus (intro wq_ hSq_; (try dsimp only at hSq_); go_simp; (try with_reducible rfl); done)); (try simp only [Act.put, List.setIfInBounds_toArray, List.set_cons_zero, List.set_cons_succ])) | (refine wpSeq_pureG (v := ?_) rfl rfl ?_ ?_; rotate_left 1; (focus (intro wq_ hSq_; (try dsimp only at hSq_); go_simp; (try with_reducible rfl); done)); (try simp only [Act.put, List.setIfInBounds_toArray, List.set_cons_zero, List.set_cons_succ])) | (refine wpSeq_off rfl rfl ?_; (try simp only [Act.put, List.setIfInBounds_toArray, List.set_cons_zero, List.set_cons_succ])))
  first | refine wpSeq_call rfl (fun u12 g12 s12 K hK => ?_) | refine wpSeq_callG rfl rfl (fun u12 g12 s12 K hK => ?_)
  go_simp
  refine (xadd_any (((x10.below g11).below b11).below g12) (x11.below g12) (by omega)).mono ?_
  rintro ex12 y12 ⟨z12, rfl, x12, b12⟩
  (try go_wp2_with fail)
  refine hK.out _ _ b12 ?_
  clear hK K
  (try simp only [Act.put, List.setIfInBounds_toArray, List.set_cons_zero, List.set_cons_succ])
  repeat (first | (refine wpSeq_pure (v := ?_) rfl ?_ ?_; rotate_left 1; (focus (intro wq_ hSq_; (try dsimp only at hSq_); go_simp; (try with_reducible rfl); done)); (try simp only [Act.put, List.setIfInBounds_toArray, List.set_cons_zero, List.set_cons_succ])) | (refine wpSeq_pureG (v := ?_) rfl rfl ?_ ?_; rotate_left 1; (focus (intro wq_ hSq_; (try dsimp only at hSq_); go_simp; (try with_reducible rfl); done)); (try simp only [Act.put, List.setIfInBounds_toArray, List.set_cons_zero, List.set_cons_succ])) | (refine wpSeq_off rfl rfl ?_; (try simp only [Act.put, List.setIfInBounds_toArray, List.set_cons_zero, List.set_cons_succ])))
  intro wz gz sz_
  (try simp only [endJ, List.drop_succ_cons, List.drop_zero])
  have X12 := Lib.hid (x12.below gz)
  have SZ := Lib.hid (bt hbw sz_)
  clear x5 x6 x7 x8 x10 x11 x12 b5 b6 b7 b8 b9 b10 b11 b12 g1 g2 g3 g4 g5 g6 g7 g8 g9 g10 g11 g12 s1 s2 s3 s4 s5 s6 s7 s8 s9 s10 s11 s12 ka kc kb hst gz sz_ hbw
  go_wp2_with fail
  refine (xof_any c3 c4 _ H4.out.n1 H4.out.n2 H4.out.d0 H4.out.d2).mono ?_
  rintro ex13 w13 ⟨z13, rfl, x13, b13⟩
  go_wp2_with fail
  refine (xcmp_any (X12.out.below b13) x13 (by omega)).mono ?_
  rintro ex14 w14 ⟨z14, rfl, hz14, b14⟩
  rw [Z2.out] at hz14
  subst hz14
  go_wp2
  go_returns
  exact ⟨_, rfl, rfl, bt SZ.out (bt b13 b14)⟩
end Go.Proofs.Tb
