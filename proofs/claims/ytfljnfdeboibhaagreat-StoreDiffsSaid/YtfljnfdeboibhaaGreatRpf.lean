/- StoreDiffs: the walk. -/
import Derived.Test.YtfljnfdeboibhaaGreatRpe
import Derived.Test.YtfljnfdeboibhaaGreatRos
set_option linter.unusedVariables false
set_option linter.unusedSimpArgs false
namespace Go.Proofs.Tb
open Go.Maps Go.RowKit Go.Lib
theorem binOp_string_leq' (t : TypeId) (a b : ByteArray) : binOp .leq t (.string a) (.string b) = pure (.bool (Op.bytesLess a.toList b.toList || a.toList == b.toList)) := by
  simp [binOp, Op.stringOp]
attribute [local go_sem] cell_set_same neqMapL binOp_string_leq'

theorem cycD (x : Int) (L : Nat) (h1 : 1 ≤ L) (h2 : L ≤ 1000000) : ∃ e : Nat, e < L ∧ (IntKind.i64.wrap (x.tmod L + L)).tmod L = (e : Int) := by
  have hL : (0 : Int) < (L : Int) := by omega
  have a1 := Int.tmod_lt_of_pos x hL
  have a2 := Int.lt_tmod_of_pos x hL
  obtain ⟨r, hr⟩ : ∃ r, x.tmod (L : Int) = r := ⟨_, rfl⟩
  rw [hr] at a1 a2 ⊢
  rw [IntWalk.i64_in _ (by omega)]
  have b1 := Int.tmod_lt_of_pos (r + L) hL
  have b2 := Int.tmod_nonneg (L : Int) (show 0 ≤ r + L by omega)
  exact ⟨((r + L).tmod L).toNat, by omega, by omega⟩
theorem wrapD {N O q : Nat} (h : N - O + 1 = q) (h2 : O ≤ N) (h3 : N ≤ 1000) : IntKind.i64.wrap ((N : Int) - (O : Int) + 1) = (q : Int) := by
  rw [IntWalk.i64_in _ (by omega)]; omega
theorem rngAB {N O q ea eb a b : Nat} (hNq : N + 1 = O + q) (hq : q ≤ 8) (hea : ea < q) (heb : eb < q) (ha : O + ea = a) (hb : O + eb = b) : a < N + 1 ∧ b < N + 1 ∧ N - a ≤ 7 ∧ N - b ≤ 7 := by omega
theorem wrapO {o e a : Nat} (h : o + e = a) (ha : a ≤ 1000000) : IntKind.i64.wrap ((o : Int) + (e : Int)) = (a : Int) := by
  rw [IntWalk.i64_in _ (by omega)]; omega
set_option maxHeartbeats 12800000 in
set_option maxRecDepth 100000 in
theorem rdiffs_any (A : Option Addr) (nx cx : Nat) (fr tt : Int) (w : World) (h : OpX w A nx cx) :
    Calls Tryz.prog 7 #[.slice A nx cx, .int .i64 fr, .int .i64 tt] w (Ret (fun z _ => z = .bool true) w) := by
  have hle := h.le
  have hcp := h.cap
  have HX := Lib.hid h
  clear h
  go_enter Tryz.func7, Tryz.ntmps7
  go_wp2_with fail
  refine (rfilled_any A nx cx 10 7 (by omega) (by omega) w HX.out).mono ?_
  rintro e w1 ⟨v1, rfl, ⟨s, d, rv, Vs, rfl, hs, hr, hl1, hl2⟩, b1⟩
  obtain ⟨A1, m1, c1, rfl, hh1⟩ := hr.form
  clear hh1
  have HS1 := Lib.hid hs
  have HR1 := Lib.hid hr
  have X1 := Lib.hid b1
  have HL2 := Lib.hid hl2
  have hVp := STx.pos hs
  clear hs hr b1 hl2
  go_upto_region 2 with fail
  have x2 : Ext w1 (w1.alloc (.cells #[.slice A1 m1 c1, .int .i64 ((7 : Nat) : Int)] TRS)) := Ext.allocR _ _
  refine wp_world (fun W => STl (fun b => w.heap.size ≤ b) W s d 7 1536 Vs 0 ∧ RbX W w1.heap.size Vs 7 ∧ Ext w W) ⟨HS1.out.ext x2, ⟨A1, m1, c1, HR1.out.ext x2, Blk.new_ _ _ rfl⟩, bt X1.out x2⟩ ?_
  obtain ⟨H, hH⟩ : ∃ H, w1.heap.size = H := ⟨_, rfl⟩
  rw [hH]
  rintro W2 ⟨hs2, hr2, hx2⟩
  have HS2 := Lib.hid hs2
  have HR2 := Lib.hid hr2
  have X2 := Lib.hid hx2
  clear x2 hs2 hr2 hx2 HS1 HR1 X1 hH
  go_wp2_with fail
  refine (rlives_any W2).mono ?_
  rintro e w3 ⟨v3, rfl, rfl, b3⟩
  have HS3 := Lib.hid (HS2.out.ext b3)
  have HR3 := Lib.hid (HR2.out.ext b3)
  have X3 := Lib.hid (bt X2.out b3)
  clear b3 HS2 HR2 X2
  obtain ⟨N, hN⟩ : ∃ N, Vs.length - 1 = N := ⟨_, rfl⟩
  obtain ⟨O, hO⟩ : ∃ O, Vs.length - 1 - 7 = O := ⟨_, rfl⟩
  obtain ⟨q, hq⟩ : ∃ q, N - O + 1 = q := ⟨_, rfl⟩
  have HNN := Lib.hid (show ((Vs.length : Int) - 1) = (N : Int) by omega)
  have HOO := Lib.hid (show ((Vs.length - 1 - 7 : Nat) : Int) = (O : Int) by omega)
  have hq1 : 1 ≤ q := by omega
  have hq8 : q ≤ 8 := by omega
  have hNq : N + 1 = O + q := by omega
  have HVN := Lib.hid (show Vs.length = N + 1 by omega)
  have eq1 : IntKind.i64.wrap ((N : Int) - (O : Int) + 1) = (q : Int) := wrapD hq (by omega) (by omega)
  have hq0 : ¬ q = 0 := by omega
  obtain ⟨ea, hea, eqa⟩ := cycD fr q hq1 (by omega)
  obtain ⟨eb, heb, eqb⟩ := cycD tt q hq1 (by omega)
  obtain ⟨a, ha⟩ : ∃ a, O + ea = a := ⟨_, rfl⟩
  obtain ⟨b, hb⟩ : ∃ b, O + eb = b := ⟨_, rfl⟩
  have eqa2 : IntKind.i64.wrap ((O : Int) + (ea : Int)) = (a : Int) := wrapO ha (by omega)
  have eqb2 : IntKind.i64.wrap ((O : Int) + (eb : Int)) = (b : Int) := wrapO hb (by omega)
  have HAB := Lib.hid (rngAB hNq hq8 hea heb ha hb)
  clear hN hO hq hea heb ha hb
  obtain ⟨A3, m3, c3, hr3, hk3⟩ := HR3.out
  have R3 := Lib.hid hr3
  have K3 := Lib.hid hk3
  have kk := fun w' (hh : Ext w3 w') => (K3.out.below hh).cells
  simp only [cellsAre, Nat.zero_add, Nat.reduceAdd, and_true] at kk
  have hst : Ext w3 w3.drew := Ext.drew _
  clear hr3 hk3
  go_upto_region 4 with fail
  refine wp_region_adv 3 [] [(0, true, some 28, none), (2, true, some 30, none), (1, false, some 29, none)] (by kernel_rfl) (by kernel_rfl) (by kernel_rfl) (by intro it hit; (repeat (rcases List.mem_cons.1 hit with rfl | hit; (focus (intro o ho ev w; injection ho with ho; subst ho; kernel_rfl)))); cases hit) (fun _ _ _ _ _ => ⟨fun h => h, fun h => h⟩) hst ?_
  repeat (first | (refine wpSeq_pure (v := ?_) rfl ?_ ?_; rotate_left 1; (focus (intro wq_ hSq_; (try dsimp only at hSq_); go_simp; (try with_reducible rfl); done)); (try simp only [Act.put, List.setIfInBounds_toArray, List.set_cons_zero, List.set_cons_succ])) | (refine wpSeq_pureG (v := ?_) rfl rfl ?_ ?_; rotate_left 1; (focus (intro wq_ hSq_; (try dsimp only at hSq_); go_simp; (try with_reducible rfl); done)); (try simp only [Act.put, List.setIfInBounds_toArray, List.set_cons_zero, List.set_cons_succ])) | (refine wpSeq_off rfl rfl ?_; (try simp only [Act.put, List.setIfInBounds_toArray, List.set_cons_zero, List.set_cons_succ])) | (refine wpSeq_offU rfl ?_; (try simp only [Act.put, List.setIfInBounds_toArray, List.set_cons_zero, List.set_cons_succ])))
  first | refine wpSeq_call rfl (fun u1 g1 s1 K hK => ?_) | refine wpSeq_callG rfl rfl (fun u1 g1 s1 K hK => ?_)
  go_simp
  refine (znewest_any (R3.out.ext s1) (by omega)).mono ?_
  rintro e y1 ⟨z1, rfl, rfl, b1⟩
  rw [HNN.out]
  (try go_wp2_with fail)
  refine hK.out _ _ b1 ?_
  clear hK K
  (try simp only [Act.put, List.setIfInBounds_toArray, List.set_cons_zero, List.set_cons_succ])
  repeat (first | (refine wpSeq_pure (v := ?_) rfl ?_ ?_; rotate_left 1; (focus (intro wq_ hSq_; (try dsimp only at hSq_); go_simp; (try with_reducible rfl); done)); (try simp only [Act.put, List.setIfInBounds_toArray, List.set_cons_zero, List.set_cons_succ])) | (refine wpSeq_pureG (v := ?_) rfl rfl ?_ ?_; rotate_left 1; (focus (intro wq_ hSq_; (try dsimp only at hSq_); go_simp; (try with_reducible rfl); done)); (try simp only [Act.put, List.setIfInBounds_toArray, List.set_cons_zero, List.set_cons_succ])) | (refine wpSeq_off rfl rfl ?_; (try simp only [Act.put, List.setIfInBounds_toArray, List.set_cons_zero, List.set_cons_succ])) | (refine wpSeq_offU rfl ?_; (try simp only [Act.put, List.setIfInBounds_toArray, List.set_cons_zero, List.set_cons_succ])))
  intro w4 g4 s4
  (try simp only [endJ, List.drop_succ_cons, List.drop_zero])
  have X4 := Lib.hid s4
  have k4 := kk w4 s4
  clear hst g1 s1 b1 g4 s4 kk
  go_wp2_with fail
  refine (zoldest_any (R3.out.ext X4.out) (by omega) (by omega)).mono ?_
  rintro e w5 ⟨z5, rfl, rfl, b5⟩
  rw [HOO.out]
  have X5 := Lib.hid (bt X4.out b5)
  clear b5 k4 X4
  have kk := fun w' (hh : Ext w5 w') => (K3.out.below (bt X5.out hh)).cells
  simp only [cellsAre, Nat.zero_add, Nat.reduceAdd, and_true] at kk
  have hst : Ext w5 w5.drew := Ext.drew _
  go_upto_region 5 with fail
  refine wp_region_adv 21 [] [(0, true, some 34, none), (2, true, some 36, none), (3, true, some 37, none), (4, true, some 38, none), (5, true, some 39, none), (6, true, some 40, none), (7, true, some 41, none), (8, true, some 42, none), (10, true, some 44, none), (12, true, some 46, none), (13, true, some 47, none), (14, true, some 48, none), (15, true, some 49, none), (16, true, some 50, none), (17, true, some 51, none), (18, true, some 52, none), (1, false, some 35, none), (9, true, some 43, none), (11, false, some 45, none), (19, true, some 53, none), (20, false, some 1, none)] (by kernel_rfl) (by kernel_rfl) (by kernel_rfl) (by intro it hit; (repeat (rcases List.mem_cons.1 hit with rfl | hit; (focus (intro o ho ev w; injection ho with ho; subst ho; kernel_rfl)))); cases hit) (fun _ _ _ _ _ => ⟨fun h => h, fun h => h⟩) hst ?_
  repeat (first | (refine wpSeq_pure (v := ?_) rfl ?_ ?_; rotate_left 1; (focus (intro wq_ hSq_; (try dsimp only at hSq_); go_simp; (try with_reducible rfl); done)); (try simp only [Act.put, List.setIfInBounds_toArray, List.set_cons_zero, List.set_cons_succ])) | (refine wpSeq_pureG (v := ?_) rfl rfl ?_ ?_; rotate_left 1; (focus (intro wq_ hSq_; (try dsimp only at hSq_); go_simp; (try with_reducible rfl); done)); (try simp only [Act.put, List.setIfInBounds_toArray, List.set_cons_zero, List.set_cons_succ])) | (refine wpSeq_off rfl rfl ?_; (try simp only [Act.put, List.setIfInBounds_toArray, List.set_cons_zero, List.set_cons_succ])) | (refine wpSeq_offU rfl ?_; (try simp only [Act.put, List.setIfInBounds_toArray, List.set_cons_zero, List.set_cons_succ])))
  first | refine wpSeq_call rfl (fun u1 g1 s1 K hK => ?_) | refine wpSeq_callG rfl rfl (fun u1 g1 s1 K hK => ?_)
  go_simp
  refine (zoldest_any (R3.out.ext (bt X5.out s1)) (by omega) (by omega)).mono ?_
  rintro e y1 ⟨z1, rfl, rfl, b1⟩
  rw [HOO.out]
  (try go_wp2_with fail)
  refine hK.out _ _ b1 ?_
  clear hK K
  (try simp only [Act.put, List.setIfInBounds_toArray, List.set_cons_zero, List.set_cons_succ])
  repeat (first | (refine wpSeq_pure (v := ?_) rfl ?_ ?_; rotate_left 1; (focus (intro wq_ hSq_; (try dsimp only at hSq_); go_simp; (try with_reducible rfl); done)); (try simp only [Act.put, List.setIfInBounds_toArray, List.set_cons_zero, List.set_cons_succ])) | (refine wpSeq_pureG (v := ?_) rfl rfl ?_ ?_; rotate_left 1; (focus (intro wq_ hSq_; (try dsimp only at hSq_); go_simp; (try with_reducible rfl); done)); (try simp only [Act.put, List.setIfInBounds_toArray, List.set_cons_zero, List.set_cons_succ])) | (refine wpSeq_off rfl rfl ?_; (try simp only [Act.put, List.setIfInBounds_toArray, List.set_cons_zero, List.set_cons_succ])) | (refine wpSeq_offU rfl ?_; (try simp only [Act.put, List.setIfInBounds_toArray, List.set_cons_zero, List.set_cons_succ])))
  first | refine wpSeq_call rfl (fun u2 g2 s2 K hK => ?_) | refine wpSeq_callG rfl rfl (fun u2 g2 s2 K hK => ?_)
  go_simp
  refine (zoldest_any (R3.out.ext (bt X5.out s2)) (by omega) (by omega)).mono ?_
  rintro e y2 ⟨z2, rfl, rfl, b2⟩
  rw [HOO.out]
  (try go_wp2_with fail)
  refine hK.out _ _ b2 ?_
  clear hK K
  (try simp only [Act.put, List.setIfInBounds_toArray, List.set_cons_zero, List.set_cons_succ])
  repeat (first | (refine wpSeq_pure (v := ?_) rfl ?_ ?_; rotate_left 1; (focus (intro wq_ hSq_; (try dsimp only at hSq_); go_simp; (try with_reducible rfl); done)); (try simp only [Act.put, List.setIfInBounds_toArray, List.set_cons_zero, List.set_cons_succ])) | (refine wpSeq_pureG (v := ?_) rfl rfl ?_ ?_; rotate_left 1; (focus (intro wq_ hSq_; (try dsimp only at hSq_); go_simp; (try with_reducible rfl); done)); (try simp only [Act.put, List.setIfInBounds_toArray, List.set_cons_zero, List.set_cons_succ])) | (refine wpSeq_off rfl rfl ?_; (try simp only [Act.put, List.setIfInBounds_toArray, List.set_cons_zero, List.set_cons_succ])) | (refine wpSeq_offU rfl ?_; (try simp only [Act.put, List.setIfInBounds_toArray, List.set_cons_zero, List.set_cons_succ])))
  first | refine wpSeq_call rfl (fun u3 g3 s3 K hK => ?_) | refine wpSeq_callG rfl rfl (fun u3 g3 s3 K hK => ?_)
  go_simp
  (try go_wp2_with fail)
  refine hK.out _ _ (Ext.refl _) ?_
  clear hK K
  (try simp only [Act.put, List.setIfInBounds_toArray, List.set_cons_zero, List.set_cons_succ])
  repeat (first | (refine wpSeq_pure (v := ?_) rfl ?_ ?_; rotate_left 1; (focus (intro wq_ hSq_; (try dsimp only at hSq_); go_simp; (try with_reducible rfl); done)); (try simp only [Act.put, List.setIfInBounds_toArray, List.set_cons_zero, List.set_cons_succ])) | (refine wpSeq_pureG (v := ?_) rfl rfl ?_ ?_; rotate_left 1; (focus (intro wq_ hSq_; (try dsimp only at hSq_); go_simp; (try with_reducible rfl); done)); (try simp only [Act.put, List.setIfInBounds_toArray, List.set_cons_zero, List.set_cons_succ])) | (refine wpSeq_off rfl rfl ?_; (try simp only [Act.put, List.setIfInBounds_toArray, List.set_cons_zero, List.set_cons_succ])) | (refine wpSeq_offU rfl ?_; (try simp only [Act.put, List.setIfInBounds_toArray, List.set_cons_zero, List.set_cons_succ])))
  intro w6 g6 s6
  (try simp only [endJ, List.drop_succ_cons, List.drop_zero])
  have X6 := Lib.hid (bt X5.out s6)
  have HS6 := Lib.hid (HS3.out.ext X6.out)
  have HS3' := HS3
  clear hst g1 s1 b1 g2 s2 b2 g3 s3 g6 s6 kk
  go_wp2_with fail
  refine (st_diff_ok HS6.out (by omega) (a := a) (b := b) (by have := HVN.out; have := HAB.out; omega) (by have := HVN.out; have := HAB.out; omega) (by have := HVN.out; have := HAB.out; omega) (by have := HVN.out; have := HAB.out; omega) (fun l hl => by have := HL2.out l hl; omega)).mono ?_
  rintro e w7 ⟨v7, rfl, ⟨z7, l, rfl, hdf, ho7⟩, b7⟩
  unfold ansR
  obtain ⟨A7, c7, rfl, hrv7⟩ := ho7.rv
  have HS7 := Lib.hid (HS6.out.ext b7)
  have X7 := Lib.hid (bt X6.out b7)
  have HDF := Lib.hid hdf
  have R7 := Lib.hid hrv7
  clear b7 hdf ho7 hrv7 HS6 X6
  go_wp2_with fail
  refine (st_diff_ok HS7.out (by omega) (a := a) (b := a) (by have := HVN.out; have := HAB.out; omega) (by have := HVN.out; have := HAB.out; omega) (by have := HVN.out; have := HAB.out; omega) (by have := HVN.out; have := HAB.out; omega) (fun l hl => by have := HL2.out l hl; omega)).mono ?_
  rintro e w8 ⟨v8, rfl, ⟨z8, l0, rfl, hdf0, ho8⟩, b8⟩
  unfold ansR
  obtain rfl := hdf0.self
  obtain ⟨A8, c8, rfl, _⟩ := ho8.rv
  have X8 := Lib.hid (bt X7.out b8)
  have R8 := Lib.hid (R7.out.below b8)
  clear b8 hdf0 ho8 HS7 X7 R7
  obtain ⟨nl, hnl⟩ : ∃ nl, l.length = nl := ⟨_, rfl⟩
  have HNL := Lib.hid hnl
  have R3' := Lib.hid (R3.out.ext X8.out)
  obtain ⟨A3', m3', c3', e3, hov, hm3, hmc3, hcc3⟩ := R3'.out.form
  injection e3 with e3
  injection e3 with e3
  injection e3 with e3 e3b
  injection e3 with e3 e3c e3d
  subst e3 e3c e3d
  have hVa : a < Vs.length := by have := HVN.out; have := HAB.out; omega
  have hVb : b < Vs.length := by have := HVN.out; have := HAB.out; omega
  obtain ⟨La, hLa⟩ : ∃ La, Vs[a] = La := ⟨_, rfl⟩
  obtain ⟨Lb, hLb⟩ : ∃ Lb, Vs[b] = Lb := ⟨_, rfl⟩
  have hga : Vs.getD a [] = La := by rw [← hLa]; simp [List.getD, hVa]
  have hgb : Vs.getD b [] = Lb := by rw [← hLb]; simp [List.getD, hVb]
  have hla : La.length ≤ 360 := by rw [← hLa]; exact HL2.out _ (List.getElem_mem _)
  have hlb : Lb.length ≤ 360 := by rw [← hLb]; exact HL2.out _ (List.getElem_mem _)
  have HSR := Lib.hid (show Srtd La ∧ Srtd Lb by
    obtain ⟨vs, B, h1, h2⟩ := HS3'.out.sr
    rw [← hLa, ← hLb]
    exact ⟨(h2.ok _ (List.getElem_mem _)).1, (h2.ok _ (List.getElem_mem _)).1⟩)
  have HD := Lib.hid (show Dif La Lb l by rw [← hga, ← hgb]; exact HDF.out)
  have hnl2 : nl ≤ 720 := by have := HD.out.len; omega
  obtain ⟨bb, oo, Aa, ca, e1, ka, ra⟩ := hov.at_ hVa
  obtain ⟨bb', oo', Ab, cb, e2, kb, rb⟩ := hov.at_ hVb
  rw [e1] at e2
  injection e2 with e2
  injection e2 with e2 e2b
  subst e1 e2 e2b
  rw [hLa] at ka ra
  rw [hLb] at kb rb
  have pa : (a : Int) < (m3 : Int) := by omega
  have pb : (b : Int) < (m3 : Int) := by omega
  have RA := Lib.hid ra
  have RB := Lib.hid rb
  have XX := Lib.hid (bt X3.out X8.out)
  have KA := Lib.hid (And.intro ka kb)
  have k8 := fun w' (hh : Ext w8 w') => (K3.out.below (bt X8.out hh)).cells
  have ka8 := fun w' (hh : Ext w8 w') => ext_cell hh KA.out.1
  have kb8 := fun w' (hh : Ext w8 w') => ext_cell hh KA.out.2
  simp only [cellsAre, Nat.zero_add, Nat.reduceAdd, and_true] at k8
  have hst : Ext w8 w8.drew := Ext.drew _
  rw [hnl] at R8
  rw [hnl]
  clear hov ka kb ra rb hLa hLb hga hgb HDF hnl hVa hVb hm3 hmc3 hcc3 eqa eqb eqa2 eqb2 eq1
  go_upto_region 8 with fail
  refine wp_region_adv 24 [] [(0, true, some 68, none), (1, true, some 69, none), (2, true, some 70, none), (3, true, some 71, some (70, false)), (4, true, some 72, some (70, false)), (5, true, some 73, none), (6, true, some 74, none), (7, true, some 75, some (74, false)), (8, true, some 76, some (74, false)), (9, true, some 77, some (74, false)), (10, true, some 78, none), (11, true, some 79, none), (12, true, some 80, some (79, false)), (13, true, some 81, some (79, false)), (14, true, some 82, some (79, false)), (15, true, some 83, some (79, false)), (16, true, some 84, some (79, false)), (17, true, some 85, some (79, false)), (19, true, some 87, some (79, false)), (20, true, some 88, some (79, false)), (21, true, some 89, some (79, false)), (22, true, some 90, some (79, false)), (23, true, some 91, some (79, false)), (18, false, some 86, some (79, false))] (by kernel_rfl) (by kernel_rfl) (by kernel_rfl) (by intro it hit; (repeat (rcases List.mem_cons.1 hit with rfl | hit; (focus (intro o ho ev w; injection ho with ho; subst ho; kernel_rfl)))); cases hit) (fun _ _ _ _ _ => ⟨fun h => h, fun h => h⟩) hst ?_
  repeat (first | (refine wpSeq_pure (v := ?_) rfl ?_ ?_; rotate_left 1; (focus (intro wq_ hSq_; (try dsimp only at hSq_); go_simp; (try with_reducible rfl); done)); (try simp only [Act.put, List.setIfInBounds_toArray, List.set_cons_zero, List.set_cons_succ])) | (refine wpSeq_pureG (v := ?_) rfl rfl ?_ ?_; rotate_left 1; (focus (intro wq_ hSq_; (try dsimp only at hSq_); go_simp; (try with_reducible rfl); done)); (try simp only [Act.put, List.setIfInBounds_toArray, List.set_cons_zero, List.set_cons_succ])) | (refine wpSeq_off rfl rfl ?_; (try simp only [Act.put, List.setIfInBounds_toArray, List.set_cons_zero, List.set_cons_succ])) | (refine wpSeq_offU rfl ?_; (try simp only [Act.put, List.setIfInBounds_toArray, List.set_cons_zero, List.set_cons_succ])))
  first | refine wpSeq_call rfl (fun u1 g1 s1 K hK => ?_) | refine wpSeq_callG rfl rfl (fun u1 g1 s1 K hK => ?_)
  go_simp
  refine (zafter_any Aa La.length ca La A7 nl c7 l u1 (RA.out.below s1) (R8.out.below s1) (by omega) (by have := HNL.out; omega)).mono ?_
  rintro e y1 ⟨z1, rfl, ho1, b1⟩
  rw [HD.out.aft HSR.out.1 HSR.out.2] at ho1
  obtain ⟨A9, c9, rfl, r9⟩ := OwP.rv ho1
  (try go_wp2_with fail)
  refine hK.out _ _ b1 ?_
  clear hK K
  (try simp only [Act.put, List.setIfInBounds_toArray, List.set_cons_zero, List.set_cons_succ])
  repeat (first | (refine wpSeq_pure (v := ?_) rfl ?_ ?_; rotate_left 1; (focus (intro wq_ hSq_; (try dsimp only at hSq_); go_simp; (try with_reducible rfl); done)); (try simp only [Act.put, List.setIfInBounds_toArray, List.set_cons_zero, List.set_cons_succ])) | (refine wpSeq_pureG (v := ?_) rfl rfl ?_ ?_; rotate_left 1; (focus (intro wq_ hSq_; (try dsimp only at hSq_); go_simp; (try with_reducible rfl); done)); (try simp only [Act.put, List.setIfInBounds_toArray, List.set_cons_zero, List.set_cons_succ])) | (refine wpSeq_off rfl rfl ?_; (try simp only [Act.put, List.setIfInBounds_toArray, List.set_cons_zero, List.set_cons_succ])) | (refine wpSeq_offU rfl ?_; (try simp only [Act.put, List.setIfInBounds_toArray, List.set_cons_zero, List.set_cons_succ])))
  intro w9 g9 s9
  (try simp only [endJ, List.drop_succ_cons, List.drop_zero])
  have R9 := Lib.hid (r9.below g9)
  have X9 := Lib.hid s9
  clear hst g1 s1 b1 g9 s9 ho1 r9 k8 ka8 kb8
  go_wp2_with fail
  refine (zsame_any A9 Ab Lb.length c9 Lb.length cb Lb w9 R9.out (RB.out.below X9.out) (by omega)).mono ?_
  rintro e wa ⟨va, rfl, rfl, ba⟩
  have XA := Lib.hid (bt XX.out (bt X9.out ba))
  have RL := Lib.hid (R8.out.below (bt X9.out ba))
  clear ba X9 R9 R8 RA RB XX KA
  have hlen := HNL.out
  go_wp2_with fail
  go_loopw [15] (fun i wr => ∃ j : Nat, j ≤ nl ∧ i = .int .i64 (j : Int) ∧ Ext wa wr) (fun i _ => nl - (intOf i).toNat)
  case atStart => exact ⟨0, by omega, rfl, Ext.refl _⟩
  case round =>
    obtain ⟨j, hj, rfl, hx⟩ := hrel
    have X := Lib.hid hx
    by_cases hjn : j < nl
    · have pj : (j : Int) < (nl : Int) := by omega
      have hjl : j < l.length := by rw [hlen]; exact hjn
      have wj : IntKind.i64.wrap ((j : Int) + 1) = ((j + 1 : Nat) : Int) := by rw [IntWalk.i64_in _ (by omega)]; rfl
      obtain ⟨b7, o7, rfl, hc⟩ := (RL.out.below hx).at_ (by omega)
      obtain ⟨g1, g2, g3⟩ := ccs_at l j hjl
      have k1 := hc _ _ g1
      have k2 := hc _ _ g2
      have k3 := hc _ _ g3
      rw [← Nat.add_assoc] at k2 k3
      obtain ⟨x, hx0⟩ : ∃ x, l[j] = x := ⟨_, rfl⟩
      rw [hx0] at k1 k2 k3
      have hmem := (HD.out.mem x).1 (by rw [← hx0]; exact List.getElem_mem _)
      obtain ⟨xk, xv, xg⟩ := x
      have HG := Lib.hid (show xg = true → xv = ByteArray.empty from fun hg => by
        rcases hmem with ⟨h1, _⟩ | ⟨_, h1, _⟩
        · dsimp only at h1; rw [hg] at h1; cases h1
        · exact h1)
      have m1 := fun w' (hh : Ext wr w') => ext_cell hh k1
      have m2 := fun w' (hh : Ext wr w') => ext_cell hh k2
      have m3_ := fun w' (hh : Ext wr w') => ext_cell hh k3
      have hst : Ext wr wr.drew := Ext.drew _
      by_cases hj0 : 0 < j
      · have p0 : (0 : Int) < (j : Int) := by omega
        obtain ⟨i, hi⟩ : ∃ i, j - 1 = i := ⟨_, rfl⟩
        have hij : i < j := by omega
        have wi : IntKind.i64.wrap ((j : Int) - 1) = (i : Int) := by rw [IntWalk.i64_in _ (by omega)]; omega
        have pi : (i : Int) < (nl : Int) := by omega
        have hil : i < l.length := by omega
        have k4 := hc _ _ (ccs_at l i hil).1
        have hlt := List.pairwise_iff_getElem.1 HD.out.srt i j hil hjl hij
        rw [hx0] at hlt
        obtain ⟨yk, hyk⟩ : ∃ yk, (l[i]).k = yk := ⟨_, rfl⟩
        rw [hyk] at k4 hlt
        have d1 : Op.bytesLess xk.toList yk.toList = false := sl_asymm hlt
        have d2 : (xk.toList == yk.toList) = false := str_beq_f (Ne.symm (sl_ne hlt))
        have m4 := fun w' (hh : Ext wr w') => ext_cell hh k4
        clear hc g1 g2 g3 hx0 hmem hx hjl k1 k2 k3 k4 hyk hlt hil hij hi
        cases xg with
        | false =>
          go_upto_region 13 with fail
          refine wp_region_adv 25 [] [(0, true, some 101, none), (1, true, some 102, none), (2, true, some 103, none), (3, true, some 104, some (103, true)), (4, true, some 105, some (103, true)), (5, true, some 106, some (103, true)), (6, true, some 107, some (103, true)), (7, true, some 108, some (103, true)), (8, true, some 109, some (103, true)), (9, true, some 110, some (103, true)), (10, true, some 111, some (103, true)), (11, true, some 112, some (103, true)), (12, true, some 113, some (103, true)), (13, true, some 114, some (103, true)), (14, true, some 115, some (103, true)), (15, true, some 116, none), (16, true, some 117, none), (17, true, some 118, some (117, false)), (18, true, some 119, some (117, false)), (19, true, some 120, some (117, false)), (20, true, some 121, some (117, false)), (21, true, some 122, some (117, false)), (22, true, some 123, some (117, false)), (23, true, some 124, some (123, true)), (24, true, some 125, some (123, true))] (by kernel_rfl) (by kernel_rfl) (by kernel_rfl) (by intro it hit; (repeat (rcases List.mem_cons.1 hit with rfl | hit; (focus (intro o ho ev w; injection ho with ho; subst ho; kernel_rfl)))); cases hit) (fun _ _ _ _ _ => ⟨fun h => h, fun h => h⟩) hst ?_
          repeat (first | (refine wpSeq_pure (v := ?_) rfl ?_ ?_; rotate_left 1; (focus (intro wq_ hSq_; (try dsimp only at hSq_); go_simp; (try with_reducible rfl); done)); (try simp only [Act.put, List.setIfInBounds_toArray, List.set_cons_zero, List.set_cons_succ])) | (refine wpSeq_pureG (v := ?_) rfl rfl ?_ ?_; rotate_left 1; (focus (intro wq_ hSq_; (try dsimp only at hSq_); go_simp; (try with_reducible rfl); done)); (try simp only [Act.put, List.setIfInBounds_toArray, List.set_cons_zero, List.set_cons_succ])) | (refine wpSeq_off rfl rfl ?_; (try simp only [Act.put, List.setIfInBounds_toArray, List.set_cons_zero, List.set_cons_succ])) | (refine wpSeq_offU rfl ?_; (try simp only [Act.put, List.setIfInBounds_toArray, List.set_cons_zero, List.set_cons_succ])))
          intro wz gz sz_
          (try simp only [endJ, List.drop_succ_cons, List.drop_zero])
          have XZ := Lib.hid (bt X.out sz_)
          have k2z := m2 wz sz_
          clear m1 m2 m3_ hst gz sz_
          go_wp2_with fail
          exact ⟨⟨j + 1, by omega, by go_num, XZ.out⟩, by simp [intOf]; omega⟩
        | true =>
          obtain rfl := HG.out rfl
          have hv0 : (ByteArray.empty).toList = [] := by rw [ByteArray.toList, ByteArray.toList.loop]; rfl
          have hv1 : (ByteArray.empty).toList.isEmpty = true := by rw [hv0]; rfl
          go_upto_region 13 with fail
          refine wp_region_adv 25 [] [(0, true, some 101, none), (1, true, some 102, none), (2, true, some 103, none), (3, true, some 104, some (103, true)), (4, true, some 105, some (103, true)), (5, true, some 106, some (103, true)), (6, true, some 107, some (103, true)), (7, true, some 108, some (103, true)), (8, true, some 109, some (103, true)), (9, true, some 110, some (103, true)), (10, true, some 111, some (103, true)), (11, true, some 112, some (103, true)), (12, true, some 113, some (103, true)), (13, true, some 114, some (103, true)), (14, true, some 115, some (103, true)), (15, true, some 116, none), (16, true, some 117, none), (17, true, some 118, some (117, false)), (18, true, some 119, some (117, false)), (19, true, some 120, some (117, false)), (20, true, some 121, some (117, false)), (21, true, some 122, some (117, false)), (22, true, some 123, some (117, false)), (23, true, some 124, some (123, true)), (24, true, some 125, some (123, true))] (by kernel_rfl) (by kernel_rfl) (by kernel_rfl) (by intro it hit; (repeat (rcases List.mem_cons.1 hit with rfl | hit; (focus (intro o ho ev w; injection ho with ho; subst ho; kernel_rfl)))); cases hit) (fun _ _ _ _ _ => ⟨fun h => h, fun h => h⟩) hst ?_
          repeat (first | (refine wpSeq_pure (v := ?_) rfl ?_ ?_; rotate_left 1; (focus (intro wq_ hSq_; (try dsimp only at hSq_); go_simp; (try with_reducible rfl); done)); (try simp only [Act.put, List.setIfInBounds_toArray, List.set_cons_zero, List.set_cons_succ])) | (refine wpSeq_pureG (v := ?_) rfl rfl ?_ ?_; rotate_left 1; (focus (intro wq_ hSq_; (try dsimp only at hSq_); go_simp; (try with_reducible rfl); done)); (try simp only [Act.put, List.setIfInBounds_toArray, List.set_cons_zero, List.set_cons_succ])) | (refine wpSeq_off rfl rfl ?_; (try simp only [Act.put, List.setIfInBounds_toArray, List.set_cons_zero, List.set_cons_succ])) | (refine wpSeq_offU rfl ?_; (try simp only [Act.put, List.setIfInBounds_toArray, List.set_cons_zero, List.set_cons_succ])))
          intro wz gz sz_
          (try simp only [endJ, List.drop_succ_cons, List.drop_zero])
          have XZ := Lib.hid (bt X.out sz_)
          have k2z := m2 wz sz_
          clear m1 m2 m3_ hst gz sz_
          go_wp2_with fail
          exact ⟨⟨j + 1, by omega, by go_num, XZ.out⟩, by simp [intOf]; omega⟩
      · have p0 : ¬ (0 : Int) < (j : Int) := by omega
        have p0' : ¬ 0 < j := hj0
        clear hc g1 g2 g3 hx0 hmem hx hjl k1 k2 k3 hj0
        cases xg with
        | false =>
          go_upto_region 13 with fail
          refine wp_region_adv 25 [] [(0, true, some 101, none), (1, true, some 102, none), (2, true, some 103, none), (3, true, some 104, some (103, true)), (4, true, some 105, some (103, true)), (5, true, some 106, some (103, true)), (6, true, some 107, some (103, true)), (7, true, some 108, some (103, true)), (8, true, some 109, some (103, true)), (9, true, some 110, some (103, true)), (10, true, some 111, some (103, true)), (11, true, some 112, some (103, true)), (12, true, some 113, some (103, true)), (13, true, some 114, some (103, true)), (14, true, some 115, some (103, true)), (15, true, some 116, none), (16, true, some 117, none), (17, true, some 118, some (117, false)), (18, true, some 119, some (117, false)), (19, true, some 120, some (117, false)), (20, true, some 121, some (117, false)), (21, true, some 122, some (117, false)), (22, true, some 123, some (117, false)), (23, true, some 124, some (123, true)), (24, true, some 125, some (123, true))] (by kernel_rfl) (by kernel_rfl) (by kernel_rfl) (by intro it hit; (repeat (rcases List.mem_cons.1 hit with rfl | hit; (focus (intro o ho ev w; injection ho with ho; subst ho; kernel_rfl)))); cases hit) (fun _ _ _ _ _ => ⟨fun h => h, fun h => h⟩) hst ?_
          repeat (first | (refine wpSeq_pure (v := ?_) rfl ?_ ?_; rotate_left 1; (focus (intro wq_ hSq_; (try dsimp only at hSq_); go_simp; (try with_reducible rfl); done)); (try simp only [Act.put, List.setIfInBounds_toArray, List.set_cons_zero, List.set_cons_succ])) | (refine wpSeq_pureG (v := ?_) rfl rfl ?_ ?_; rotate_left 1; (focus (intro wq_ hSq_; (try dsimp only at hSq_); go_simp; (try with_reducible rfl); done)); (try simp only [Act.put, List.setIfInBounds_toArray, List.set_cons_zero, List.set_cons_succ])) | (refine wpSeq_off rfl rfl ?_; (try simp only [Act.put, List.setIfInBounds_toArray, List.set_cons_zero, List.set_cons_succ])) | (refine wpSeq_offU rfl ?_; (try simp only [Act.put, List.setIfInBounds_toArray, List.set_cons_zero, List.set_cons_succ])))
          intro wz gz sz_
          (try simp only [endJ, List.drop_succ_cons, List.drop_zero])
          have XZ := Lib.hid (bt X.out sz_)
          have k2z := m2 wz sz_
          clear m1 m2 m3_ hst gz sz_
          go_wp2_with fail
          exact ⟨⟨j + 1, by omega, by go_num, XZ.out⟩, by simp [intOf]; omega⟩
        | true =>
          obtain rfl := HG.out rfl
          have hv0 : (ByteArray.empty).toList = [] := by rw [ByteArray.toList, ByteArray.toList.loop]; rfl
          have hv1 : (ByteArray.empty).toList.isEmpty = true := by rw [hv0]; rfl
          go_upto_region 13 with fail
          refine wp_region_adv 25 [] [(0, true, some 101, none), (1, true, some 102, none), (2, true, some 103, none), (3, true, some 104, some (103, true)), (4, true, some 105, some (103, true)), (5, true, some 106, some (103, true)), (6, true, some 107, some (103, true)), (7, true, some 108, some (103, true)), (8, true, some 109, some (103, true)), (9, true, some 110, some (103, true)), (10, true, some 111, some (103, true)), (11, true, some 112, some (103, true)), (12, true, some 113, some (103, true)), (13, true, some 114, some (103, true)), (14, true, some 115, some (103, true)), (15, true, some 116, none), (16, true, some 117, none), (17, true, some 118, some (117, false)), (18, true, some 119, some (117, false)), (19, true, some 120, some (117, false)), (20, true, some 121, some (117, false)), (21, true, some 122, some (117, false)), (22, true, some 123, some (117, false)), (23, true, some 124, some (123, true)), (24, true, some 125, some (123, true))] (by kernel_rfl) (by kernel_rfl) (by kernel_rfl) (by intro it hit; (repeat (rcases List.mem_cons.1 hit with rfl | hit; (focus (intro o ho ev w; injection ho with ho; subst ho; kernel_rfl)))); cases hit) (fun _ _ _ _ _ => ⟨fun h => h, fun h => h⟩) hst ?_
          repeat (first | (refine wpSeq_pure (v := ?_) rfl ?_ ?_; rotate_left 1; (focus (intro wq_ hSq_; (try dsimp only at hSq_); go_simp; (try with_reducible rfl); done)); (try simp only [Act.put, List.setIfInBounds_toArray, List.set_cons_zero, List.set_cons_succ])) | (refine wpSeq_pureG (v := ?_) rfl rfl ?_ ?_; rotate_left 1; (focus (intro wq_ hSq_; (try dsimp only at hSq_); go_simp; (try with_reducible rfl); done)); (try simp only [Act.put, List.setIfInBounds_toArray, List.set_cons_zero, List.set_cons_succ])) | (refine wpSeq_off rfl rfl ?_; (try simp only [Act.put, List.setIfInBounds_toArray, List.set_cons_zero, List.set_cons_succ])) | (refine wpSeq_offU rfl ?_; (try simp only [Act.put, List.setIfInBounds_toArray, List.set_cons_zero, List.set_cons_succ])))
          intro wz gz sz_
          (try simp only [endJ, List.drop_succ_cons, List.drop_zero])
          have XZ := Lib.hid (bt X.out sz_)
          have k2z := m2 wz sz_
          clear m1 m2 m3_ hst gz sz_
          go_wp2_with fail
          exact ⟨⟨j + 1, by omega, by go_num, XZ.out⟩, by simp [intOf]; omega⟩
    · obtain rfl : j = nl := by omega
      clear hx
      go_wp2
      go_returns
      exact ⟨_, rfl, rfl, bt XA.out X.out⟩
end Go.Proofs.Tb
