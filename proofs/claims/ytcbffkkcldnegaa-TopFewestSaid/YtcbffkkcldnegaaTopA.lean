/- Contracts of package gear for TopFewest: valid (of valid fractions), order, Cmp, Make, Nearest; TopFewest's readings. -/
import Derived.Test.YtcbffkkcldnegaaRateP
set_option linter.unusedVariables false
set_option linter.unusedSimpArgs false
namespace Go.Proofs.Tb
open Go.RowKit
attribute [local go_sem] cell_set_same

set_option maxHeartbeats 1600000 in
set_option maxRecDepth 100000 in
theorem gvalidN_any (f : Nat → Int × Int) (n b o : Nat) (w : World) (hn : n ≤ 2) (hr : ∀ k, k < n → rngI (f k).1 ∧ rngI (f k).2 ∧ VF (f k).1 (f k).2)
    (hc : ∀ k, k < n → w.cell? ⟨b, o + k * 2, none⟩ = some (.int .i64 (f k).1) ∧ w.cell? ⟨b, o + k * 2 + 1, none⟩ = some (.int .i64 (f k).2)) :
    Calls Try.prog 93 #[.slice (some ⟨b, o, none⟩) n n] w (Ret (fun v _ => v = .bool true) w) := by
  have HC := Lib.hid hc
  have HR := Lib.hid hr
  clear hc hr
  go_enter Try.func93, Try.ntmps93
  go_wp2
  go_loopw [7] (fun i wr => ∃ k : Nat, k ≤ n ∧ i = .int .i64 k ∧ Below w.heap.size w wr) (fun i _ => n - (intOf i).toNat)
  case atStart => exact ⟨0, by omega, rfl, Below.refl _ _⟩
  case round =>
    obtain ⟨k, hk, rfl, hbw⟩ := hrel
    by_cases hkn : k < n
    · have g1 : decide ((k : Int) < (n : Int)) = true := by simp; omega
      have p1 : (k : Int) < (n : Int) := by omega
      have hcc := HC.out k hkn
      have hlt : b < w.heap.size := World.block_lt_of_cell? w _ hcc.1
      have k0 := (hbw.cell (p := ⟨b, o + k * 2, none⟩) hlt).trans hcc.1
      have k1 := (hbw.cell (p := ⟨b, o + k * 2 + 1, none⟩) hlt).trans hcc.2
      obtain ⟨r1, r2, hvf⟩ := HR.out k hkn
      obtain ⟨xn, hxn⟩ : ∃ z, (f k).1 = z := ⟨_, rfl⟩
      obtain ⟨xd, hxd⟩ : ∃ z, (f k).2 = z := ⟨_, rfl⟩
      rw [hxn] at k0 r1 hvf
      rw [hxd] at k1 r2 hvf
      obtain ⟨S, hS⟩ : ∃ S, xn.natAbs = S := ⟨_, rfl⟩
      obtain ⟨D, hD⟩ : ∃ D, xd.natAbs = D := ⟨_, rfl⟩
      have hG : Nat.gcd S D = 1 := by rw [← hS, ← hD]; exact hvf.2
      have HSN : Hid (∀ W, Calls Try.prog 119 #[.int .i64 xn] W fun e w' => e = .returned (.int .u64 (S : Int)) ∧ w' = W) := fun W => by rw [← hS]; exact gsize_any xn W r1.1 r1.2
      have HSD : Hid (∀ W, Calls Try.prog 119 #[.int .i64 xd] W fun e w' => e = .returned (.int .u64 (D : Int)) ∧ w' = W) := fun W => by rw [← hD]; exact gsize_any xd W r2.1 r2.2
      have HGG : Hid (∀ W, Calls Try.prog 120 #[.int .u64 (S : Int), .int .u64 (D : Int)] W fun e w' => e = .returned (.int .u64 1) ∧ ∃ m, w' = W.drewN m) := fun W => by
        have := ggcd_any S D W (by unfold rngI at r1; omega) (by unfold rngI at r2; omega)
        rw [hG] at this
        exact this
      obtain ⟨⟨v1, v2, v3, v4⟩, _⟩ := hvf
      have d1 : decide (xd < 1) = false := by simp; omega
      have d2 : decide (4611686018427387904 < xd) = false := by simp; omega
      have d3 : decide ((4611686018427387904 : Int) < (S : Int)) = false := by simp; omega
      have HW1 : Hid (∀ nq o, Below w.heap.size w ((wr.alloc o).drewN nq)) := fun nq o => ⟨hbw.os, hbw.tape, hbw.output, (hbw.alloc hbw.size o).size, (hbw.alloc hbw.size o).block⟩
      clear hS hD hG hxn hxd hcc r1 r2 v1 v2 v3 v4
      go_wp2
      go_quiet ((first | (go_at_call_of 119 xn; exact Calls.quiet_of_same (HSN.out _)) | (go_at_call_of 119 xd; exact Calls.quiet_of_same (HSD.out _)) | (go_at_call 120; exact Calls.quiet_of (HGG.out _))))
      go_wp2
      go_roundw
      case rel => exact ⟨k + 1, by omega, by go_num, HW1.out _ _⟩
      case measure => first | (simp [intOf]; done) | (simp [intOf]; omega)
    · have : k = n := by omega
      subst this
      have g1 : decide ((k : Int) < (k : Int)) = false := by simp
      go_wp2
      go_returns
      exact ⟨_, rfl, rfl, hbw⟩

set_option maxHeartbeats 1600000 in
theorem gorder_any (a b c d : Int) (w : World) (ha : rngI a) (hb : 0 < b ∧ rngI b) (hc : rngI c) (hd : 0 < d ∧ rngI d) :
    Calls Try.prog 94 #[.agg #[.int .i64 a, .int .i64 b], .agg #[.int .i64 c, .int .i64 d]] w (Ret (fun v _ => v = .int .i64 (cmpR (qv a b) (qv c d))) w) := by
  have HA := Lib.hid ha
  have HB := Lib.hid hb
  have HC := Lib.hid hc
  have HD := Lib.hid hd
  obtain ⟨x, hx⟩ : ∃ x, qv a b = x := ⟨_, rfl⟩
  obtain ⟨y, hy⟩ : ∃ x, qv c d = x := ⟨_, rfl⟩
  have HF1 : Hid (∀ W, Calls Try.prog 87 #[.agg #[.int .i64 a, .int .i64 b]] W (Ret (fun v w' => WX w' v x 2) W)) := fun W => by
    rw [← hx]; exact vfrom_any a b W ha.1 ha.2 hb.1 hb.2.2
  have HF2 : Hid (∀ W, Calls Try.prog 87 #[.agg #[.int .i64 c, .int .i64 d]] W (Ret (fun v w' => WX w' v y 2) W)) := fun W => by
    rw [← hy]; exact vfrom_any c d W hc.1 hc.2 hd.1 hd.2.2
  rw [hx, hy]
  clear ha hb hc hd hx hy
  go_enter Try.func94, Try.ntmps94
  go_upto_region 1 with fail
  refine wp_world (fun W => Blk W w.heap.size TF #[.int .i64 a, .int .i64 b] ∧ Blk W (w.heap.size + 1) TF #[.int .i64 c, .int .i64 d] ∧ Below w.heap.size w W) (by exact ⟨(Blk.new_ _ _ rfl).alloc _, Blk.new_ _ _ (by simp), by go_grown⟩) ?_
  rintro W0 ⟨e2, e3, hbw⟩
  have k2 := fun w' (hh : Ext W0 w') => (e2.below hh).cells
  have k3 := fun w' (hh : Ext W0 w') => (e3.below hh).cells
  simp only [cellsAre, Nat.zero_add, Nat.reduceAdd, and_true] at k2 k3
  have HB0 := Lib.hid hbw
  have hst : Ext W0 W0.drew := Ext.drew _
  clear hbw
  refine wp_region_adv 3 [] [(0, true, some 5, none), (2, true, some 7, none), (1, false, some 6, none)] (by kernel_rfl) (by kernel_rfl) (by kernel_rfl) (by intro it hit; (repeat (rcases List.mem_cons.1 hit with rfl | hit; (focus (intro o ho ev w; injection ho with ho; subst ho; kernel_rfl)))); cases hit) (fun _ _ _ _ _ => ⟨fun h => h, fun h => h⟩) hst ?_
  repeat (first | (refine wpSeq_pure (v := ?_) rfl ?_ ?_; rotate_left 1; (focus (intro wq_ hSq_; (try dsimp only at hSq_); go_simp; (try with_reducible rfl); done)); (try simp only [Act.put, List.setIfInBounds_toArray, List.set_cons_zero, List.set_cons_succ])) | (refine wpSeq_pureG (v := ?_) rfl rfl ?_ ?_; rotate_left 1; (focus (intro wq_ hSq_; (try dsimp only at hSq_); go_simp; (try with_reducible rfl); done)); (try simp only [Act.put, List.setIfInBounds_toArray, List.set_cons_zero, List.set_cons_succ])) | (refine wpSeq_off rfl rfl ?_; (try simp only [Act.put, List.setIfInBounds_toArray, List.set_cons_zero, List.set_cons_succ])))
  first | refine wpSeq_call rfl (fun u1 g1' s1 K hK => ?_) | refine wpSeq_callG rfl rfl (fun u1 g1' s1 K hK => ?_)
  go_simp
  refine (HF1.out u1).mono ?_
  rintro e y1 ⟨z1, rfl, x1, b1'⟩
  obtain ⟨d1, D1, p1, e1, d1', D1', p1', e1', rfl⟩ := x1.form
  (try go_wp2_with fail)
  refine hK.out _ _ b1' ?_
  clear hK K
  (try simp only [Act.put, List.setIfInBounds_toArray, List.set_cons_zero, List.set_cons_succ])
  repeat (first | (refine wpSeq_pure (v := ?_) rfl ?_ ?_; rotate_left 1; (focus (intro wq_ hSq_; (try dsimp only at hSq_); go_simp; (try with_reducible rfl); done)); (try simp only [Act.put, List.setIfInBounds_toArray, List.set_cons_zero, List.set_cons_succ])) | (refine wpSeq_pureG (v := ?_) rfl rfl ?_ ?_; rotate_left 1; (focus (intro wq_ hSq_; (try dsimp only at hSq_); go_simp; (try with_reducible rfl); done)); (try simp only [Act.put, List.setIfInBounds_toArray, List.set_cons_zero, List.set_cons_succ])) | (refine wpSeq_off rfl rfl ?_; (try simp only [Act.put, List.setIfInBounds_toArray, List.set_cons_zero, List.set_cons_succ])))
  intro wz gz sz_
  (try simp only [endJ, List.drop_succ_cons, List.drop_zero])
  have X1 := Lib.hid (x1.below gz)
  have HZ := Lib.hid (show Ext W0 wz from sz_)
  clear k2 k3 e2 e3 hst g1' s1 b1' x1 gz sz_
  go_wp2_with fail
  refine (HF2.out _).mono ?_
  rintro e w2 ⟨v2, rfl, x2, hb2⟩
  obtain ⟨d2, D2, p2, e2, d2', D2', p2', e2', rfl⟩ := x2.form
  have X2 := Lib.hid x2
  have X1 := Lib.hid (X1.out.below hb2)
  have HB2 := Lib.hid (bt HB0.out (bt HZ.out hb2))
  clear x2 hb2
  go_wp2_with fail
  refine (vcmp_any X1.out X2.out (by omega)).mono ?_
  rintro e w3 ⟨v3, rfl, rfl, hb3⟩
  go_wp2
  go_returns
  exact ⟨_, rfl, rfl, bt HB2.out hb3⟩

set_option maxHeartbeats 1600000 in
set_option maxRecDepth 100000 in
theorem gcmp_any (a b c d : Int) (w : World) (ha : rngI a) (hb : 0 < b ∧ rngI b) (hc : rngI c) (hd : 0 < d ∧ rngI d) (h1 : VF a b) (h2 : VF c d) :
    Calls Try.prog 54 #[.agg #[.int .i64 a, .int .i64 b], .agg #[.int .i64 c, .int .i64 d]] w (Ret (fun v _ => v = .tuple #[.int .i64 (cmpR (qv a b) (qv c d)), .int .i64 0]) w) := by
  have HV : Hid (∀ W g, Blk W g TF #[.int .i64 a, .int .i64 b, .int .i64 c, .int .i64 d] → Calls Try.prog 93 #[.slice (some ⟨g, 0, none⟩) 2 2] W (Ret (fun v _ => v = .bool true) W)) := fun W g hg => by
    have k := hg.cells
    simp only [cellsAre, Nat.zero_add, Nat.reduceAdd, and_true] at k
    refine gvalidN_any (fun k => if k = 0 then (a, b) else (c, d)) 2 g 0 W (by omega) (fun k hk => ?_) (fun k hk => ?_)
    · by_cases h0 : k = 0
      · simp only [h0, if_true]; exact ⟨ha, hb.2, h1⟩
      · simp only [h0, if_false]; exact ⟨hc, hd.2, h2⟩
    · have : k = 0 ∨ k = 1 := by omega
      rcases this with rfl | rfl
      · exact ⟨k.1, k.2.1⟩
      · exact ⟨k.2.2.1, k.2.2.2⟩
  have HO : Hid (∀ W, Calls Try.prog 94 #[.agg #[.int .i64 a, .int .i64 b], .agg #[.int .i64 c, .int .i64 d]] W (Ret (fun v _ => v = .int .i64 (cmpR (qv a b) (qv c d))) W)) := fun W => gorder_any a b c d W ha hb hc hd
  obtain ⟨u, hu⟩ : ∃ u, cmpR (qv a b) (qv c d) = u := ⟨_, rfl⟩
  rw [hu] at HO ⊢
  clear ha hb hc hd h1 h2 hu
  go_enter Try.func54, Try.ntmps54
  go_wp2_with fail
  obtain ⟨W0, hW0⟩ : ∃ W0, W0 = ((w.alloc (.cells #[.int .i64 a, .int .i64 b] TF)).alloc (.cells #[.int .i64 c, .int .i64 d] TF)).alloc (.cells #[.int .i64 a, .int .i64 b, .int .i64 c, .int .i64 d] TF) := ⟨_, rfl⟩
  have e2 : Blk W0 w.heap.size TF #[.int .i64 a, .int .i64 b] := by rw [hW0]; exact ((Blk.new_ _ _ rfl).alloc _).alloc _
  have e3 : Blk W0 (w.heap.size + 1) TF #[.int .i64 c, .int .i64 d] := by rw [hW0]; exact (Blk.new_ _ _ (by simp)).alloc _
  have e4 : Blk W0 (w.heap.size + 1 + 1) TF #[.int .i64 a, .int .i64 b, .int .i64 c, .int .i64 d] := by rw [hW0]; exact Blk.new_ _ _ (by simp)
  have hb0 : Below w.heap.size w W0 := by rw [hW0]; go_grown
  rw [← hW0]
  clear hW0
  refine (HV.out W0 _ e4).mono ?_
  rintro e w1 ⟨v1, rfl, rfl, hb1⟩
  have k2 := (e2.below hb1).cells
  have k3 := (e3.below hb1).cells
  simp only [cellsAre, Nat.zero_add, Nat.reduceAdd, and_true] at k2 k3
  have HB1 := Lib.hid (bt hb0 hb1)
  clear e2 e3 e4 hb0 hb1
  go_wp2_with fail
  refine (HO.out _).mono ?_
  rintro e w2 ⟨v2, rfl, rfl, hb2⟩
  go_wp2
  go_ret2
  exact ⟨_, rfl, rfl, bt HB1.out hb2⟩

set_option maxHeartbeats 1600000 in
set_option maxRecDepth 100000 in
theorem gmake_any (p q : Int) (w : World) (h1 : 0 ≤ p ∧ p ≤ 1000000) (h2 : 0 < q ∧ q ≤ 1000000) :
    Calls Try.prog 53 #[.int .i64 p, .int .i64 q] w (Ret (fun v _ => v = .tuple #[.agg #[.int .i64 (qv p q).num, .int .i64 ((qv p q).den : Int)], .int .i64 0]) w) := by
  have H1 := Lib.hid h1
  have H2 := Lib.hid h2
  have HF := Lib.hid (fit_small h1 h2)
  have g1 : (q == 0) = false := by rw [beq_eq_false_iff_ne]; omega
  obtain ⟨x, hx⟩ : ∃ x, qv p q = x := ⟨_, rfl⟩
  rw [hx] at HF ⊢
  have HX := Lib.hid hx
  clear h1 h2 hx
  go_enter Try.func53, Try.ntmps53
  go_wp2_with fail
  obtain ⟨W0, hW0⟩ : ∃ W0, W0 = w.alloc (.cells #[.int .i64 0, .int .i64 0] TF) := ⟨_, rfl⟩
  have b4 : Blk W0 w.heap.size TF #[.int .i64 0, .int .i64 0] := by rw [hW0]; exact Blk.new_ _ _ rfl
  have hb0 : Below w.heap.size w W0 := by rw [hW0]; go_grown
  rw [← hW0]
  clear hW0
  refine (wof_any p W0 (by have := H1.out; omega) (by have := H1.out; omega)).mono ?_
  rintro e w1 ⟨v1, rfl, z1, hb1⟩
  obtain ⟨A1, n1, c1, rfl, s1⟩ := id z1
  have Z1 := Lib.hid z1
  have B4 := Lib.hid (b4.below hb1)
  have HB1 := Lib.hid (bt hb0 hb1)
  clear z1 s1 b4 hb0 hb1
  go_wp2_with fail
  refine (wof_any q w1 (by have := H2.out; omega) (by have := H2.out; omega)).mono ?_
  rintro e w2 ⟨v2, rfl, z2, hb2⟩
  obtain ⟨A2, n2, c2, rfl, s2⟩ := id z2
  have Z2 := Lib.hid z2
  have Z1 := Lib.hid (show WI w2 _ p by obtain ⟨A, n, c, he, hs⟩ := Z1.out; exact ⟨A, n, c, he, hs.below hb2⟩)
  have B4 := Lib.hid (B4.out.below hb2)
  have HB2 := Lib.hid (bt HB1.out hb2)
  clear z2 s2 hb2
  go_wp2_with fail
  refine (wratio_any _ _ p q w2 Z1.out Z2.out (by have := H2.out; omega)).mono ?_
  rintro e w3 ⟨v3, rfl, z3, hb3⟩
  have x3 : WX w3 v3 x 2 := ⟨_, _, z3, by rw [qv_rn (by have := H2.out; omega)]; exact HX.out, by rw [sz_rn]; exact sz_small p (by have := H1.out; omega) (by have := H1.out; omega), by rw [sz_rd]; exact sz_small q (by have := H2.out; omega) (by have := H2.out; omega)⟩
  obtain ⟨d, D, m, e, d', D', m', e', rfl⟩ := x3.form
  have X3 := Lib.hid x3
  have B4 := Lib.hid (B4.out.below hb3)
  have HB3 := Lib.hid (bt HB2.out hb3)
  clear z3 x3 hb3
  go_wp2_with fail
  refine (vfrac_any X3.out (by omega)).mono ?_
  rintro e w4 ⟨v4, rfl, hf, hb4⟩
  have hv4 := hf.1 HF.out
  subst hv4
  have B5 := Lib.hid (B4.out.below hb4)
  have k4 := B5.out.cells
  have kf4 := B5.out.free
  simp only [cellsAre, Nat.zero_add, Nat.reduceAdd, and_true] at k4
  have HB4 := Lib.hid (bt HB3.out hb4)
  have HBF : Hid (∀ a b, Below w.heap.size w ((w4.setCell ⟨w.heap.size, 0, none⟩ a).setCell ⟨w.heap.size, 1, none⟩ b)) := fun a b => (HB4.out.setCell (Nat.le_refl _) a).setCell (Nat.le_refl _) b
  clear hf hb4
  go_wp2
  (try simp only [Exit.inBlock, Exit.then])
  refine bodyPost_ret (v := .tuple #[.agg #[.int .i64 x.num, .int .i64 (x.den : Int)], .int .i64 0]) (by simp [results, Try.results53, go_sem, k4]) rfl ?_
  exact ⟨_, rfl, rfl, HBF.out _ _⟩

theorem vf12 : VF 1 2 := by unfold VF; decide
set_option maxHeartbeats 1600000 in
set_option maxRecDepth 100000 in
theorem gnear_any (w : World) :
    Calls Try.prog 55 #[.agg #[.int .i64 1, .int .i64 2], .int .i64 2] w (Ret (fun v _ => v = .tuple #[.agg #[.int .i64 1, .int .i64 2], .int .i64 0]) w) := by
  have HV : Hid (∀ W g, Blk W g TF #[.int .i64 1, .int .i64 2] → Calls Try.prog 93 #[.slice (some ⟨g, 0, none⟩) 1 1] W (Ret (fun v _ => v = .bool true) W)) := fun W g hg => by
    have k_ := hg.cells
    simp only [cellsAre, Nat.zero_add, Nat.reduceAdd, and_true] at k_
    refine gvalidN_any (fun k => (1, 2)) 1 g 0 W (by omega) (fun k hk => ⟨⟨by show -9223372036854775808 ≤ (1 : Int); omega, by show (1 : Int) ≤ 9223372036854775807; omega⟩, ⟨by show -9223372036854775808 ≤ (2 : Int); omega, by show (2 : Int) ≤ 9223372036854775807; omega⟩, vf12⟩) (fun k hk => ?_)
    have : k = 0 := by omega
    subst this
    exact ⟨k_.1, k_.2⟩
  go_enter Try.func55, Try.ntmps55
  go_wp2_with fail
  obtain ⟨W0, hW0⟩ : ∃ W0, W0 = ((w.alloc (.cells #[.int .i64 1, .int .i64 2] TF)).alloc (.cells #[.int .i64 0, .int .i64 0] TF)).alloc (.cells #[.int .i64 1, .int .i64 2] TF) := ⟨_, rfl⟩
  have e2 : Blk W0 w.heap.size TF #[.int .i64 1, .int .i64 2] := by rw [hW0]; exact ((Blk.new_ _ _ rfl).alloc _).alloc _
  have e4 : Blk W0 (w.heap.size + 1) TF #[.int .i64 0, .int .i64 0] := by rw [hW0]; exact (Blk.new_ _ _ (by simp)).alloc _
  have e5 : Blk W0 (w.heap.size + 1 + 1) TF #[.int .i64 1, .int .i64 2] := by rw [hW0]; exact Blk.new_ _ _ (by simp)
  have hb0 : Below w.heap.size w W0 := by rw [hW0]; go_grown
  rw [← hW0]
  clear hW0
  refine (HV.out W0 _ e5).mono ?_
  rintro e w1 ⟨v1, rfl, rfl, hb1⟩
  have k2 := (e2.below hb1).cells
  have B4 := Lib.hid (e4.below hb1)
  have k4 := B4.out.cells
  have kf4 := B4.out.free
  simp only [cellsAre, Nat.zero_add, Nat.reduceAdd, and_true] at k2 k4
  have HB1 := Lib.hid (bt hb0 hb1)
  have HBF : Hid (∀ a b, Below w.heap.size w ((w1.setCell ⟨w.heap.size + 1, 0, none⟩ a).setCell ⟨w.heap.size + 1, 1, none⟩ b)) := fun a b => (HB1.out.setCell (Nat.le_succ _) a).setCell (Nat.le_succ _) b
  clear e2 e4 e5 hb0 hb1
  go_wp2
  (try simp only [Exit.inBlock, Exit.then])
  refine bodyPost_ret (v := .tuple #[.agg #[.int .i64 1, .int .i64 2], .int .i64 0]) (by simp [results, Try.results55, go_sem, k4]) rfl ?_
  exact ⟨_, rfl, rfl, HBF.out _ _⟩

/-- What holds of reading k of TopFewest's readings. -/
def TpAt (rs : List Rdg) (k : Nat) : Prop :=
  (1 ≤ (rs.getD k (0, 0)).1 ∧ (rs.getD k (0, 0)).1 ≤ 8 * (k + 1)) ∧ (-99 ≤ (rs.getD k (0, 0)).2 ∧ (rs.getD k (0, 0)).2 ≤ 99) ∧ (0 < k → (rs.getD (k - 1) (0, 0)).1 < (rs.getD k (0, 0)).1)
/-- Such readings, so far; the last one's time is a. -/
def TpL (rs : List Rdg) (a : Nat) : Prop := (∀ k, k < rs.length → TpAt rs k) ∧ a ≤ 8 * rs.length ∧ (rs.length = 0 → a = 0) ∧ (0 < rs.length → (rs.getD (rs.length - 1) (0, 0)).1 = (a : Int))
theorem TpL.snoc {rs : List Rdg} {a : Nat} (h : TpL rs a) (d : Nat) (y : Int) (hd : 1 ≤ d) (hd' : d ≤ 8) (hy : -99 ≤ y) (hy' : y ≤ 99) : TpL (rs ++ [(((a + d : Nat) : Int), y)]) (a + d) := by
  obtain ⟨h1, h2, h3, h4⟩ := h
  refine ⟨fun k hk => ?_, by simp; omega, by simp, fun _ => ?_⟩
  · simp at hk
    by_cases hlt : k < rs.length
    · have := h1 k hlt
      unfold TpAt at this ⊢
      rw [getD_snoc, if_pos hlt]
      refine ⟨this.1, this.2.1, fun h0 => ?_⟩
      rw [getD_snoc, if_pos (by omega)]
      exact this.2.2 h0
    · have hk' : k = rs.length := by omega
      unfold TpAt
      rw [getD_snoc, if_neg hlt, if_pos hk']
      refine ⟨?_, ⟨hy, hy'⟩, fun h0 => ?_⟩
      · subst hk'; constructor
        · show 1 ≤ ((a + d : Nat) : Int); omega
        · show ((a + d : Nat) : Int) ≤ 8 * ((rs.length : Int) + 1); omega
      · rw [getD_snoc, if_pos (by omega), hk', h4 (by omega)]
        show (a : Int) < ((a + d : Nat) : Int); omega
  · rw [List.length_append, List.length_singleton, Nat.add_sub_cancel, getD_snoc, if_neg (by omega), if_pos rfl]
/-- TopFewest's readings: at most most, or two. -/
def Topr (most : Nat) (rs : List Rdg) : Prop := 2 ≤ rs.length ∧ rs.length ≤ max 2 most ∧ ∀ k, k < rs.length → TpAt rs k
theorem Topr.vld {most : Nat} {rs : List Rdg} (h : Topr most rs) (hm : most ≤ 64) : Vld rs := by
  obtain ⟨h1, h2, h3⟩ := h
  refine ⟨h1, by omega, fun k hk => ?_⟩
  have := h3 k hk
  unfold TpAt at this
  unfold okAt
  have hk64 : k < 64 := by omega
  refine ⟨by omega, by omega, by omega, by omega, this.2.2⟩
theorem Topr.small {most : Nat} {rs : List Rdg} (h : Topr most rs) (hm : most ≤ 64) : SmallR rs := by
  obtain ⟨h1, h2, h3⟩ := h
  intro k hk
  have := h3 k hk
  unfold TpAt at this
  unfold tm ofs
  omega
theorem TpL.rng {rs : List Rdg} {a : Nat} (h : TpL rs a) (hl : rs.length ≤ 64) : ∀ x, x ∈ rs → rngI x.1 ∧ rngI x.2 := by
  intro x hx
  obtain ⟨k, hk, rfl⟩ := List.getElem_of_mem hx
  have := h.1 k hk
  unfold TpAt at this
  have e : rs.getD k (0, 0) = rs[k] := by simp [List.getD, hk]
  rw [e] at this
  unfold rngI
  omega
theorem and7 (x : Int) : 0 ≤ bits .and .i64 x 7 ∧ bits .and .i64 x 7 ≤ 7 := by
  have h : (BitVec.ofInt 64 x &&& BitVec.ofInt 64 7).toNat ≤ 7 := by
    rw [BitVec.toNat_and]
    exact Nat.and_le_right
  have e : bits .and .i64 x 7 = IntKind.i64.wrap ((BitVec.ofInt 64 x &&& BitVec.ofInt 64 7).toNat : Int) := rfl
  rw [e, IntWalk.i64_in _ (by omega)]
  omega
def ToprV (most : Nat) (v : Value) (w : World) : Prop := ∃ rs, Topr most rs ∧ RdV w v rs

set_option maxHeartbeats 3200000 in
set_option maxRecDepth 100000 in
theorem readings_any (A : Option Addr) (n c : Nat) (xs : List Rdg) (most : Nat) (w : World) (h : Rd w A n c xs) (hm : most ≤ 64) :
    Calls Try.prog 52 #[.slice A n c, .int .i64 (most : Int)] w (Ret (ToprV most) w) := by
  have hn := h.le
  have hc := h.cap
  have H := Lib.hid h
  clear h
  go_enter Try.func52, Try.ntmps52
  go_wp2
  go_loopw [5, 6, 7] (fun v at_ i wr => ∃ (k a : Nat) (cs : List Rdg), k ≤ n ∧ k ≤ most ∧ i = .int .i64 k ∧ at_ = .int .i64 a ∧ cs.length = k ∧ TpL cs a ∧ OwR w.heap.size wr v cs ∧ Below w.heap.size w wr) (fun _ _ i _ => n - (intOf i).toNat)
  case atStart => exact ⟨0, 0, [], by omega, by omega, rfl, rfl, rfl, ⟨fun k hk => absurd hk (by simp), by simp, fun _ => rfl, fun h => absurd h (by simp)⟩, OwR.empty _ _ (Nat.le_refl _), by go_grown⟩
  case round =>
    obtain ⟨k, a, cs, hk, hkm, rfl, rfl, hcl, htm, hown, hbw⟩ := hrel
    have ha : a ≤ 1024 := by have := htm.2.1; omega
    have HCL := Lib.hid hcl
    have HTM := Lib.hid htm
    have HO := Lib.hid hown
    clear hcl htm hown
    by_cases hkn : k < n
    · have g1 : decide ((k : Int) < (n : Int)) = true := by simp; omega
      by_cases hkmo : k < most
      · have g2 : decide ((k : Int) < (most : Int)) = true := by simp; omega
        obtain ⟨t, o, rfl, hcell⟩ := (H.out.below hbw).at_ (by omega)
        obtain ⟨ck1, ck2⟩ := hcell k hkn
        obtain ⟨t1, t2, y1, y2⟩ := H.out.getD_rng k
        obtain ⟨x, hx⟩ : ∃ x, (xs.getD k (0, 0)).1 = x := ⟨_, rfl⟩
        obtain ⟨y, hy⟩ : ∃ y, (xs.getD k (0, 0)).2 = y := ⟨_, rfl⟩
        rw [hx] at ck1 t1 t2
        rw [hy] at ck2 y1 y2
        obtain ⟨b1, b2⟩ := and7 x
        obtain ⟨d, hd⟩ : ∃ d : Nat, bits .and .i64 x 7 = (d : Int) := ⟨(bits .and .i64 x 7).toNat, by omega⟩
        have hd15 : d ≤ 7 := by omega
        have z1 : -99 ≤ y.tmod 100 := by have := Int.lt_tmod_of_pos y (b := 100) (by omega); omega
        have z2 : y.tmod 100 ≤ 99 := by have := Int.tmod_lt_of_pos y (b := 100) (by omega); omega
        obtain ⟨r, hr⟩ : ∃ r, y.tmod 100 = r := ⟨_, rfl⟩
        rw [hr] at z1 z2
        clear hcell hx hy b1 b2
        go_wp2_with (at_builtin; refine wp_app1R rfl _ _ rfl w.heap.size _ cs rfl HO.out _ _ rfl (by rw [HCL.out]; omega) hbw.size ?_; intro v' w1 hown1 hb1)
        have e : (a : Int) + (1 + (d : Int)) = ((a + (d + 1) : Nat) : Int) := by omega
        rw [e] at hown1
        go_roundw
        case rel => exact ⟨k + 1, a + (d + 1), _, by omega, by omega, by go_num, i64eB (by omega), by simp [HCL.out], HTM.out.snoc (d + 1) r (by omega) (by omega) z1 z2, hown1, hbw.trans hb1⟩
        case measure => simp [intOf]; omega
      · have hkm2 : k = most := by omega
        have g2 : decide ((k : Int) < (most : Int)) = false := by simp; omega
        go_wp2
        go_loopw [5, 6] (fun v at_ wx => ∃ (a : Nat) (cs : List Rdg), at_ = .int .i64 a ∧ cs.length ≤ max 2 most ∧ TpL cs a ∧ OwR w.heap.size wx v cs ∧ Below w.heap.size w wx) (fun v _ _ => match v with | .slice _ n _ => 2 - n | _ => 0)
        case atStart => exact ⟨a, cs, rfl, by have := HCL.out; omega, HTM.out, HO.out, hbw⟩
        case round =>
          clear HCL HTM HO hbw ha
          obtain ⟨a2, cs2, rfl, hcl2, htm2, hown2, hbw2⟩ := hrel
          have hl64 : cs2.length ≤ 64 := by omega
          have ha2 : a2 ≤ 1024 := by have := htm2.2.1; omega
          obtain ⟨A2, c2, rfl, hrd⟩ := hown2.rd (htm2.rng hl64)
          have HTM2 := Lib.hid htm2
          have HO2 := Lib.hid hown2
          have HR2 := Lib.hid hrd
          have hc2 := hrd.cap
          have hn2 := hrd.le
          obtain ⟨l2, hl2⟩ : ∃ l, cs2.length = l := ⟨_, rfl⟩
          rw [hl2] at hl64 hcl2 hn2 HR2 HO2 ⊢
          have HL2 := Lib.hid hl2
          clear htm2 hown2 hrd hl2
          by_cases hlt : l2 < 2
          · go_wp2_with (at_builtin; refine wp_app1R rfl _ _ rfl w.heap.size _ cs2 rfl HO2.out _ _ rfl (by rw [HL2.out]; omega) hbw2.size ?_; intro v' w1 hown1 hb1)
            have e : (a2 : Int) + 1 = ((a2 + 1 : Nat) : Int) := by omega
            rw [e] at hown1
            have q1 : -99 ≤ ((a2 + 1 : Nat) : Int) % 3 := by omega
            have q2 : ((a2 + 1 : Nat) : Int) % 3 ≤ 99 := by omega
            have hsn := HTM2.out.snoc 1 (((a2 + 1 : Nat) : Int) % 3) (by omega) (by omega) q1 q2
            have hlen : (cs2 ++ [(((a2 + 1 : Nat) : Int), ((a2 + 1 : Nat) : Int) % 3)]).length = l2 + 1 := by simp [HL2.out]
            obtain ⟨A3, c3, rfl, _⟩ := hown1.rd (hsn.rng (by rw [hlen]; omega))
            go_roundw
            case rel => exact ⟨a2 + 1, _, by go_num, by rw [hlen]; omega, hsn, hown1, hbw2.trans hb1⟩
            case measure => simp only [hlen]; simp; omega
          · go_wp2
            go_returns
            have HT : Topr most cs2 := ⟨by rw [HL2.out]; omega, by rw [HL2.out]; omega, HTM2.out.1⟩
            have HV : RdV _ (.slice A2 l2 c2) cs2 := ⟨A2, c2, by rw [HL2.out], by rw [HL2.out]; exact HR2.out⟩
            exact ⟨_, rfl, ⟨cs2, HT, HV⟩, hbw2⟩
    · have g1 : decide ((k : Int) < (n : Int)) = false := by simp; omega
      go_wp2
      go_loopw [5, 6] (fun v at_ wx => ∃ (a : Nat) (cs : List Rdg), at_ = .int .i64 a ∧ cs.length ≤ max 2 most ∧ TpL cs a ∧ OwR w.heap.size wx v cs ∧ Below w.heap.size w wx) (fun v _ _ => match v with | .slice _ n _ => 2 - n | _ => 0)
      case atStart => exact ⟨a, cs, rfl, by have := HCL.out; omega, HTM.out, HO.out, hbw⟩
      case round =>
        clear HCL HTM HO hbw ha
        obtain ⟨a2, cs2, rfl, hcl2, htm2, hown2, hbw2⟩ := hrel
        have hl64 : cs2.length ≤ 64 := by omega
        have ha2 : a2 ≤ 1024 := by have := htm2.2.1; omega
        obtain ⟨A2, c2, rfl, hrd⟩ := hown2.rd (htm2.rng hl64)
        have HTM2 := Lib.hid htm2
        have HO2 := Lib.hid hown2
        have HR2 := Lib.hid hrd
        have hc2 := hrd.cap
        have hn2 := hrd.le
        obtain ⟨l2, hl2⟩ : ∃ l, cs2.length = l := ⟨_, rfl⟩
        rw [hl2] at hl64 hcl2 hn2 HR2 HO2 ⊢
        have HL2 := Lib.hid hl2
        clear htm2 hown2 hrd hl2
        by_cases hlt : l2 < 2
        · go_wp2_with (at_builtin; refine wp_app1R rfl _ _ rfl w.heap.size _ cs2 rfl HO2.out _ _ rfl (by rw [HL2.out]; omega) hbw2.size ?_; intro v' w1 hown1 hb1)
          have e : (a2 : Int) + 1 = ((a2 + 1 : Nat) : Int) := by omega
          rw [e] at hown1
          have q1 : -99 ≤ ((a2 + 1 : Nat) : Int) % 3 := by omega
          have q2 : ((a2 + 1 : Nat) : Int) % 3 ≤ 99 := by omega
          have hsn := HTM2.out.snoc 1 (((a2 + 1 : Nat) : Int) % 3) (by omega) (by omega) q1 q2
          have hlen : (cs2 ++ [(((a2 + 1 : Nat) : Int), ((a2 + 1 : Nat) : Int) % 3)]).length = l2 + 1 := by simp [HL2.out]
          obtain ⟨A3, c3, rfl, _⟩ := hown1.rd (hsn.rng (by rw [hlen]; omega))
          go_roundw
          case rel => exact ⟨a2 + 1, _, by go_num, by rw [hlen]; omega, hsn, hown1, hbw2.trans hb1⟩
          case measure => simp only [hlen]; simp; omega
        · go_wp2
          go_returns
          have HT : Topr most cs2 := ⟨by rw [HL2.out]; omega, by rw [HL2.out]; omega, HTM2.out.1⟩
          have HV : RdV _ (.slice A2 l2 c2) cs2 := ⟨A2, c2, by rw [HL2.out], by rw [HL2.out]; exact HR2.out⟩
          exact ⟨_, rfl, ⟨cs2, HT, HV⟩, hbw2⟩
end Go.Proofs.Tb
