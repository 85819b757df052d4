/- Contract of the reference for rates: three. -/
import Derived.Test.YtcbffkkcldnegaaRef3
import Derived.Test.YtcbffkkcldnegaaAdv
import Derived.Deep.DeepCutAuto
set_option linter.unusedVariables false
set_option linter.unusedSimpArgs false
namespace Go.Proofs.Tb
open Go.RowKit
attribute [local go_sem] cell_set_same

theorem cells4 {w : World} {g : Nat} {T : TypeId} {a b c d : Value} (h : Blk w g T #[a, b, c, d]) : ∀ w', Ext w w' → w'.cell? ⟨g, 0, none⟩ = some a ∧ w'.cell? ⟨g, 1, none⟩ = some b ∧ w'.cell? ⟨g, 2, none⟩ = some c ∧ w'.cell? ⟨g, 3, none⟩ = some d := fun w' hh => by
  have k := (h.below hh).cells
  simp only [cellsAre, Nat.zero_add, Nat.reduceAdd, and_true] at k
  exact k
/-- The shift of the line half way between the outer two readings and the one between them. -/
def thH (rs : List Rdg) (i j k : Nat) : Rat := (yq rs i - slQ rs i k * tq rs i + (yq rs j - slQ rs i k * tq rs j)) / 2

set_option maxHeartbeats 1600000 in
set_option maxRecDepth 100000 in
theorem zthree_any (A : Option Addr) (n c : Nat) (rs : List Rdg) (I J L : Nat) (w : World) (h : Rd w A n c rs) (hv : Vld rs) (h1 : I < J) (h2 : J < L) (h3 : L < n) :
    Calls Try.prog 82 #[.slice A n c, .int .i64 (I : Int), .int .i64 (J : Int), .int .i64 (L : Int)] w (Ret (fun v w' => ZL w' v (slQ rs I L) (thH rs I J L) 48) w) := by
  have hn := h.le
  have hc := h.cap
  have hl := h.len
  obtain ⟨ti1, ti2, yi1, yi2⟩ := hv.tm_bd (i := I) (by omega)
  obtain ⟨tj1, tj2, yj1, yj2⟩ := hv.tm_bd (i := J) (by omega)
  obtain ⟨b, o, rfl, _⟩ := h.at_ (by omega)
  have HR := Lib.hid h
  have HV := Lib.hid hv
  have HKC : Hid (∀ w', Ext w w' → w'.cell? ⟨b, o + I * 2, none⟩ = some (.int .i64 (tm rs I)) ∧ w'.cell? ⟨b, o + I * 2 + 1, none⟩ = some (.int .i64 (ofs rs I)) ∧ w'.cell? ⟨b, o + J * 2, none⟩ = some (.int .i64 (tm rs J)) ∧ w'.cell? ⟨b, o + J * 2 + 1, none⟩ = some (.int .i64 (ofs rs J))) := fun w' hb => by
    obtain ⟨b', o', he, hcell⟩ := (HR.out.below hb).at_ (by omega)
    injection he with he
    injection he with h1 h2 _
    subst h1 h2
    exact ⟨(hcell I (by omega)).1, (hcell I (by omega)).2, (hcell J (by omega)).1, (hcell J (by omega)).2⟩
  have HSH := Lib.hid (show ((ofs rs I : Rat) - slQ rs I L * (tm rs I : Rat) + ((ofs rs J : Rat) - slQ rs I L * (tm rs J : Rat))) / ((2 : Int) : Rat) = thH rs I J L from rfl)
  obtain ⟨ti, hti⟩ : ∃ x, tm rs I = x := ⟨_, rfl⟩
  obtain ⟨yi, hyi⟩ : ∃ x, ofs rs I = x := ⟨_, rfl⟩
  obtain ⟨tj, htj⟩ : ∃ x, tm rs J = x := ⟨_, rfl⟩
  obtain ⟨yj, hyj⟩ : ∃ x, ofs rs J = x := ⟨_, rfl⟩
  rw [hti, hyi, htj, hyj] at HKC HSH
  rw [hti] at ti1 ti2
  rw [hyi] at yi1 yi2
  rw [htj] at tj1 tj2
  rw [hyj] at yj1 yj2
  have hi' : (I : Int) < (n : Int) := by omega
  have hj' : (J : Int) < (n : Int) := by omega
  have HLT := Lib.hid (show I < n ∧ L < n ∧ I ≠ L by omega)
  clear hti hyi htj hyj h hv hl h1 h2 h3
  go_enter Try.func82, Try.ntmps82
  go_wp2_with fail
  obtain ⟨W0, hW0⟩ : ∃ W0, W0 = (w).alloc (.cells #[.bool false, .slice none 0 0, .bool false, .slice none 0 0, .bool false, .slice none 0 0, .bool false, .slice none 0 0] TQL) := ⟨_, rfl⟩
  have e0 : Blk W0 w.heap.size TQL #[.bool false, .slice none 0 0, .bool false, .slice none 0 0, .bool false, .slice none 0 0, .bool false, .slice none 0 0] := by rw [hW0]; exact Blk.new_ _ _ rfl
  have hbw : Below w.heap.size w W0 := by rw [hW0]; go_grown
  rw [← hW0]
  clear hW0
  refine (zslope_any _ n c rs I L W0 (HR.out.below hbw) HV.out HLT.out.1 HLT.out.2.1 HLT.out.2.2).mono ?_
  rintro e w1 ⟨v1, rfl, hz1, hb1⟩
  have hx1 := hz1.zx
  obtain ⟨d1, A1, n1, c1, d1', A1', n1', c1', rfl⟩ := hx1.form
  go_upto_region 2 with fail
  refine wp_world (fun W => Blk W w1.heap.size TQ #[.bool d1, .slice A1 n1 c1, .bool d1', .slice A1' n1' c1'] ∧ Below w1.heap.size w1 W) (by exact ⟨Blk.new_ _ _ rfl, by go_grown⟩) ?_
  rintro W2 ⟨e2, hb2⟩
  have HX1 := Lib.hid (hx1.below hb2)
  have HE0 := Lib.hid ((e0.below hb1).below hb2)
  have HB2 := Lib.hid (bt hbw (bt hb1 hb2))
  have k9 := cells4 e2
  have kr := fun w' (hh : Ext W2 w') => HKC.out w' (bt HB2.out hh)
  have HE2 := Lib.hid e2
  have hst : Ext W2 W2.drew := Ext.drew _
  clear hx1 hz1 e0 hb1 hb2 hbw e2
  refine wp_region_adv 16 [⟨15, 10, TQ, #[.bool false, .slice none 0 0, .bool false, .slice none 0 0]⟩] [(0, true, some 16, none), (1, true, some 17, none), (2, true, some 18, none), (3, true, some 19, none), (4, true, some 20, none), (6, true, some 22, none), (7, true, some 23, none), (8, true, some 24, none), (9, true, some 25, none), (10, true, some 26, none), (11, true, some 27, none), (5, false, some 21, none), (12, false, some 28, none), (13, false, some 29, none), (14, false, some 30, none)] (by kernel_rfl) (by kernel_rfl) (by kernel_rfl) (by intro it hit; (repeat (rcases List.mem_cons.1 hit with rfl | hit; (focus (intro o ho ev w; injection ho with ho; subst ho; kernel_rfl)))); cases hit) (fun _ _ _ _ _ => ⟨fun h => h, fun h => h⟩) hst ?_
  repeat (first | (refine wpSeq_pure (v := ?_) rfl ?_ ?_; rotate_left 1; (focus (intro wq_ hSq_; (try dsimp only at hSq_); go_simp; (try with_reducible rfl); done)); (try simp only [Act.put, List.setIfInBounds_toArray, List.set_cons_zero, List.set_cons_succ])) | (refine wpSeq_pureG (v := ?_) rfl rfl ?_ ?_; rotate_left 1; (focus (intro wq_ hSq_; (try dsimp only at hSq_); go_simp; (try with_reducible rfl); done)); (try simp only [Act.put, List.setIfInBounds_toArray, List.set_cons_zero, List.set_cons_succ])) | (refine wpSeq_off rfl rfl ?_; (try simp only [Act.put, List.setIfInBounds_toArray, List.set_cons_zero, List.set_cons_succ])))
  first | refine wpSeq_call rfl (fun u1 g1 s1 K hK => ?_) | refine wpSeq_callG rfl rfl (fun u1 g1 s1 K hK => ?_)
  go_simp
  refine (xwh_any yi u1 (by omega) (by omega)).mono ?_
  rintro e y1 ⟨z1, rfl, x1, b1⟩
  obtain ⟨d2, A2, n2, c2, d2', A2', n2', c2', rfl⟩ := x1.form
  (try go_wp2_with fail)
  refine hK.out _ _ b1 ?_
  clear hK K
  (try simp only [Act.put, List.setIfInBounds_toArray, List.set_cons_zero, List.set_cons_succ])
  repeat (first | (refine wpSeq_pure (v := ?_) rfl ?_ ?_; rotate_left 1; (focus (intro wq_ hSq_; (try dsimp only at hSq_); go_simp; (try with_reducible rfl); done)); (try simp only [Act.put, List.setIfInBounds_toArray, List.set_cons_zero, List.set_cons_succ])) | (refine wpSeq_pureG (v := ?_) rfl rfl ?_ ?_; rotate_left 1; (focus (intro wq_ hSq_; (try dsimp only at hSq_); go_simp; (try with_reducible rfl); done)); (try simp only [Act.put, List.setIfInBounds_toArray, List.set_cons_zero, List.set_cons_succ])) | (refine wpSeq_off rfl rfl ?_; (try simp only [Act.put, List.setIfInBounds_toArray, List.set_cons_zero, List.set_cons_succ])))
  first | refine wpSeq_call rfl (fun u2 g2 s2 K hK => ?_) | refine wpSeq_callG rfl rfl (fun u2 g2 s2 K hK => ?_)
  go_simp
  refine (xwh_any ti u2 (by omega) (by omega)).mono ?_
  rintro e y2 ⟨z2, rfl, x2, b2⟩
  obtain ⟨d3, A3, n3, c3, d3', A3', n3', c3', rfl⟩ := x2.form
  (try go_wp2_with fail)
  refine hK.out _ _ b2 ?_
  clear hK K
  (try simp only [Act.put, List.setIfInBounds_toArray, List.set_cons_zero, List.set_cons_succ])
  repeat (first | (refine wpSeq_pure (v := ?_) rfl ?_ ?_; rotate_left 1; (focus (intro wq_ hSq_; (try dsimp only at hSq_); go_simp; (try with_reducible rfl); done)); (try simp only [Act.put, List.setIfInBounds_toArray, List.set_cons_zero, List.set_cons_succ])) | (refine wpSeq_pureG (v := ?_) rfl rfl ?_ ?_; rotate_left 1; (focus (intro wq_ hSq_; (try dsimp only at hSq_); go_simp; (try with_reducible rfl); done)); (try simp only [Act.put, List.setIfInBounds_toArray, List.set_cons_zero, List.set_cons_succ])) | (refine wpSeq_off rfl rfl ?_; (try simp only [Act.put, List.setIfInBounds_toArray, List.set_cons_zero, List.set_cons_succ])))
  first | refine wpSeq_call rfl (fun u3 g3 s3 K hK => ?_) | refine wpSeq_callG rfl rfl (fun u3 g3 s3 K hK => ?_)
  go_simp
  refine (xmul_any (HX1.out.below s3) (x2.below g3) (by omega)).mono ?_
  rintro e y3 ⟨z3, rfl, x3, b3⟩
  obtain ⟨d4, A4, n4, c4, d4', A4', n4', c4', rfl⟩ := x3.form
  (try go_wp2_with fail)
  refine hK.out _ _ b3 ?_
  clear hK K
  (try simp only [Act.put, List.setIfInBounds_toArray, List.set_cons_zero, List.set_cons_succ])
  repeat (first | (refine wpSeq_pure (v := ?_) rfl ?_ ?_; rotate_left 1; (focus (intro wq_ hSq_; (try dsimp only at hSq_); go_simp; (try with_reducible rfl); done)); (try simp only [Act.put, List.setIfInBounds_toArray, List.set_cons_zero, List.set_cons_succ])) | (refine wpSeq_pureG (v := ?_) rfl rfl ?_ ?_; rotate_left 1; (focus (intro wq_ hSq_; (try dsimp only at hSq_); go_simp; (try with_reducible rfl); done)); (try simp only [Act.put, List.setIfInBounds_toArray, List.set_cons_zero, List.set_cons_succ])) | (refine wpSeq_off rfl rfl ?_; (try simp only [Act.put, List.setIfInBounds_toArray, List.set_cons_zero, List.set_cons_succ])))
  first | refine wpSeq_call rfl (fun u4 g4 s4 K hK => ?_) | refine wpSeq_callG rfl rfl (fun u4 g4 s4 K hK => ?_)
  go_simp
  refine (xsub_any ((((((x1.below g2).below b2).below g3).below b3).below g4)) (x3.below g4) (by omega)).mono ?_
  rintro e y4 ⟨z4, rfl, x4, b4⟩
  obtain ⟨d5, A5, n5, c5, d5', A5', n5', c5', rfl⟩ := x4.form
  (try go_wp2_with fail)
  refine hK.out _ _ b4 ?_
  clear hK K
  (try simp only [Act.put, List.setIfInBounds_toArray, List.set_cons_zero, List.set_cons_succ])
  repeat (first | (refine wpSeq_pure (v := ?_) rfl ?_ ?_; rotate_left 1; (focus (intro wq_ hSq_; (try dsimp only at hSq_); go_simp; (try with_reducible rfl); done)); (try simp only [Act.put, List.setIfInBounds_toArray, List.set_cons_zero, List.set_cons_succ])) | (refine wpSeq_pureG (v := ?_) rfl rfl ?_ ?_; rotate_left 1; (focus (intro wq_ hSq_; (try dsimp only at hSq_); go_simp; (try with_reducible rfl); done)); (try simp only [Act.put, List.setIfInBounds_toArray, List.set_cons_zero, List.set_cons_succ])) | (refine wpSeq_off rfl rfl ?_; (try simp only [Act.put, List.setIfInBounds_toArray, List.set_cons_zero, List.set_cons_succ])))
  intro wz gz sz_
  (try simp only [endJ, List.drop_succ_cons, List.drop_zero])
  intro R1 hr1 hu_ hB1
  (try simp only [endJ, Act.put, ptr, List.setIfInBounds_toArray, List.set_cons_zero, List.set_cons_succ])
  clear hu_
  have kR := zcells hB1
  have kf := hB1.free
  have X4 := Lib.hid (x4.below gz)
  have SZ := Lib.hid sz_
  have HB1' := Lib.hid hB1
  clear x1 x2 x3 x4 b1 b2 b3 b4 g1 g2 g3 g4 s1 s2 s3 s4 k9 kr hst hB1 gz sz_
  go_upto_region 3 with fail
  refine wp_world (fun W => Blk W R1 TQ #[.bool d5, .slice A5 n5 c5, .bool d5', .slice A5' n5' c5'] ∧ Held R1 4 TQ wz W) (by exact ⟨HB1'.out.put4 _ _ _ _, heldPut HB1'.out _ _ _ _⟩) ?_
  rintro W3 ⟨e3, hh3⟩
  clear kR kf
  have hr1' : W2.heap.size ≤ R1 := hr1
  have HE2 := Lib.hid ((HE2.out.below SZ.out).held hh3 (by have := HE2.out.lt; omega))
  have HE0 := Lib.hid ((HE0.out.below SZ.out).held hh3 (by have := HE0.out.lt; omega))
  have X5 := Lib.hid (X4.out.held hh3 (by decide))
  have hb3 : Below W2.heap.size W2 W3 := hh3.below SZ.out hr1'
  have HB3 := Lib.hid (bt HB2.out hb3)
  have HX1 := Lib.hid (HX1.out.below hb3)
  have HE3 := Lib.hid e3
  clear hh3 e3 hb3 SZ HB1' X4 hr1 hr1' HB2
  have k9 := cells4 HE2.out
  have kr := fun w' (hh : Ext W3 w') => HKC.out w' (bt HB3.out hh)
  have hst : Ext W3 W3.drew := Ext.drew _
  refine wp_region_adv 16 [⟨15, 11, TQ, #[.bool false, .slice none 0 0, .bool false, .slice none 0 0]⟩] [(0, true, some 31, none), (1, true, some 32, none), (2, true, some 33, none), (3, true, some 34, none), (4, true, some 35, none), (6, true, some 37, none), (7, true, some 38, none), (8, true, some 39, none), (9, true, some 40, none), (10, true, some 41, none), (11, true, some 42, none), (5, false, some 36, none), (12, false, some 43, none), (13, false, some 44, none), (14, false, some 45, none)] (by kernel_rfl) (by kernel_rfl) (by kernel_rfl) (by intro it hit; (repeat (rcases List.mem_cons.1 hit with rfl | hit; (focus (intro o ho ev w; injection ho with ho; subst ho; kernel_rfl)))); cases hit) (fun _ _ _ _ _ => ⟨fun h => h, fun h => h⟩) hst ?_
  repeat (first | (refine wpSeq_pure (v := ?_) rfl ?_ ?_; rotate_left 1; (focus (intro wq_ hSq_; (try dsimp only at hSq_); go_simp; (try with_reducible rfl); done)); (try simp only [Act.put, List.setIfInBounds_toArray, List.set_cons_zero, List.set_cons_succ])) | (refine wpSeq_pureG (v := ?_) rfl rfl ?_ ?_; rotate_left 1; (focus (intro wq_ hSq_; (try dsimp only at hSq_); go_simp; (try with_reducible rfl); done)); (try simp only [Act.put, List.setIfInBounds_toArray, List.set_cons_zero, List.set_cons_succ])) | (refine wpSeq_off rfl rfl ?_; (try simp only [Act.put, List.setIfInBounds_toArray, List.set_cons_zero, List.set_cons_succ])))
  first | refine wpSeq_call rfl (fun u1 g1 s1 K hK => ?_) | refine wpSeq_callG rfl rfl (fun u1 g1 s1 K hK => ?_)
  go_simp
  refine (xwh_any yj u1 (by omega) (by omega)).mono ?_
  rintro e y1 ⟨z1, rfl, x1, b1⟩
  obtain ⟨d2, A2, n2, c2, d2', A2', n2', c2', rfl⟩ := x1.form
  (try go_wp2_with fail)
  refine hK.out _ _ b1 ?_
  clear hK K
  (try simp only [Act.put, List.setIfInBounds_toArray, List.set_cons_zero, List.set_cons_succ])
  repeat (first | (refine wpSeq_pure (v := ?_) rfl ?_ ?_; rotate_left 1; (focus (intro wq_ hSq_; (try dsimp only at hSq_); go_simp; (try with_reducible rfl); done)); (try simp only [Act.put, List.setIfInBounds_toArray, List.set_cons_zero, List.set_cons_succ])) | (refine wpSeq_pureG (v := ?_) rfl rfl ?_ ?_; rotate_left 1; (focus (intro wq_ hSq_; (try dsimp only at hSq_); go_simp; (try with_reducible rfl); done)); (try simp only [Act.put, List.setIfInBounds_toArray, List.set_cons_zero, List.set_cons_succ])) | (refine wpSeq_off rfl rfl ?_; (try simp only [Act.put, List.setIfInBounds_toArray, List.set_cons_zero, List.set_cons_succ])))
  first | refine wpSeq_call rfl (fun u2 g2 s2 K hK => ?_) | refine wpSeq_callG rfl rfl (fun u2 g2 s2 K hK => ?_)
  go_simp
  refine (xwh_any tj u2 (by omega) (by omega)).mono ?_
  rintro e y2 ⟨z2, rfl, x2, b2⟩
  obtain ⟨d3, A3, n3, c3, d3', A3', n3', c3', rfl⟩ := x2.form
  (try go_wp2_with fail)
  refine hK.out _ _ b2 ?_
  clear hK K
  (try simp only [Act.put, List.setIfInBounds_toArray, List.set_cons_zero, List.set_cons_succ])
  repeat (first | (refine wpSeq_pure (v := ?_) rfl ?_ ?_; rotate_left 1; (focus (intro wq_ hSq_; (try dsimp only at hSq_); go_simp; (try with_reducible rfl); done)); (try simp only [Act.put, List.setIfInBounds_toArray, List.set_cons_zero, List.set_cons_succ])) | (refine wpSeq_pureG (v := ?_) rfl rfl ?_ ?_; rotate_left 1; (focus (intro wq_ hSq_; (try dsimp only at hSq_); go_simp; (try with_reducible rfl); done)); (try simp only [Act.put, List.setIfInBounds_toArray, List.set_cons_zero, List.set_cons_succ])) | (refine wpSeq_off rfl rfl ?_; (try simp only [Act.put, List.setIfInBounds_toArray, List.set_cons_zero, List.set_cons_succ])))
  first | refine wpSeq_call rfl (fun u3 g3 s3 K hK => ?_) | refine wpSeq_callG rfl rfl (fun u3 g3 s3 K hK => ?_)
  go_simp
  refine (xmul_any (HX1.out.below s3) (x2.below g3) (by omega)).mono ?_
  rintro e y3 ⟨z3, rfl, x3, b3⟩
  obtain ⟨d4, A4, n4, c4, d4', A4', n4', c4', rfl⟩ := x3.form
  (try go_wp2_with fail)
  refine hK.out _ _ b3 ?_
  clear hK K
  (try simp only [Act.put, List.setIfInBounds_toArray, List.set_cons_zero, List.set_cons_succ])
  repeat (first | (refine wpSeq_pure (v := ?_) rfl ?_ ?_; rotate_left 1; (focus (intro wq_ hSq_; (try dsimp only at hSq_); go_simp; (try with_reducible rfl); done)); (try simp only [Act.put, List.setIfInBounds_toArray, List.set_cons_zero, List.set_cons_succ])) | (refine wpSeq_pureG (v := ?_) rfl rfl ?_ ?_; rotate_left 1; (focus (intro wq_ hSq_; (try dsimp only at hSq_); go_simp; (try with_reducible rfl); done)); (try simp only [Act.put, List.setIfInBounds_toArray, List.set_cons_zero, List.set_cons_succ])) | (refine wpSeq_off rfl rfl ?_; (try simp only [Act.put, List.setIfInBounds_toArray, List.set_cons_zero, List.set_cons_succ])))
  first | refine wpSeq_call rfl (fun u4 g4 s4 K hK => ?_) | refine wpSeq_callG rfl rfl (fun u4 g4 s4 K hK => ?_)
  go_simp
  refine (xsub_any ((((((x1.below g2).below b2).below g3).below b3).below g4)) (x3.below g4) (by omega)).mono ?_
  rintro e y4 ⟨z4, rfl, x4, b4⟩
  obtain ⟨d6, A6, n6, c6, d6', A6', n6', c6', rfl⟩ := x4.form
  (try go_wp2_with fail)
  refine hK.out _ _ b4 ?_
  clear hK K
  (try simp only [Act.put, List.setIfInBounds_toArray, List.set_cons_zero, List.set_cons_succ])
  repeat (first | (refine wpSeq_pure (v := ?_) rfl ?_ ?_; rotate_left 1; (focus (intro wq_ hSq_; (try dsimp only at hSq_); go_simp; (try with_reducible rfl); done)); (try simp only [Act.put, List.setIfInBounds_toArray, List.set_cons_zero, List.set_cons_succ])) | (refine wpSeq_pureG (v := ?_) rfl rfl ?_ ?_; rotate_left 1; (focus (intro wq_ hSq_; (try dsimp only at hSq_); go_simp; (try with_reducible rfl); done)); (try simp only [Act.put, List.setIfInBounds_toArray, List.set_cons_zero, List.set_cons_succ])) | (refine wpSeq_off rfl rfl ?_; (try simp only [Act.put, List.setIfInBounds_toArray, List.set_cons_zero, List.set_cons_succ])))
  intro wy gz sz_
  (try simp only [endJ, List.drop_succ_cons, List.drop_zero])
  intro R2 hr1 hu_ hB1
  (try simp only [endJ, Act.put, ptr, List.setIfInBounds_toArray, List.set_cons_zero, List.set_cons_succ])
  clear hu_
  have kR := zcells hB1
  have kf := hB1.free
  have X4 := Lib.hid (x4.below gz)
  have SZ := Lib.hid sz_
  have HB1' := Lib.hid hB1
  clear x1 x2 x3 x4 b1 b2 b3 b4 g1 g2 g3 g4 s1 s2 s3 s4 k9 kr hst hB1 gz sz_
  go_upto_region 4 with fail
  refine wp_world (fun W => Blk W R2 TQ #[.bool d6, .slice A6 n6 c6, .bool d6', .slice A6' n6' c6'] ∧ Held R2 4 TQ wy W) (by exact ⟨HB1'.out.put4 _ _ _ _, heldPut HB1'.out _ _ _ _⟩) ?_
  rintro W4 ⟨e4, hh3⟩
  clear kR kf
  have hr1' : W3.heap.size ≤ R2 := hr1
  have HE2 := Lib.hid ((HE2.out.below SZ.out).held hh3 (by have := HE2.out.lt; omega))
  have HE0 := Lib.hid ((HE0.out.below SZ.out).held hh3 (by have := HE0.out.lt; omega))
  have HE3 := Lib.hid ((HE3.out.below SZ.out).held hh3 (by have := HE3.out.lt; omega))
  have X6 := Lib.hid (X4.out.held hh3 (by decide))
  have hb3 : Below W3.heap.size W3 W4 := hh3.below SZ.out hr1'
  have HB4 := Lib.hid (bt HB3.out hb3)
  have HX1 := Lib.hid (HX1.out.below hb3)
  have X5 := Lib.hid (X5.out.below hb3)
  clear hh3 hb3 SZ HB1' X4 hr1 hr1' HB3
  have k9 := cells4 HE2.out
  have k10 := cells4 HE3.out
  have k11 := cells4 e4
  have hst : Ext W4 W4.drew := Ext.drew _
  clear e4 HE2 HE3
  refine wp_region_adv 7 [] [(0, true, some 46, none), (1, true, some 47, none), (2, true, some 48, none), (3, false, some 49, none), (4, false, some 50, none), (5, false, some 51, none), (6, false, some 52, none)] (by kernel_rfl) (by kernel_rfl) (by kernel_rfl) (by intro it hit; (repeat (rcases List.mem_cons.1 hit with rfl | hit; (focus (intro o ho ev w; injection ho with ho; subst ho; kernel_rfl)))); cases hit) (fun _ _ _ _ _ => ⟨fun h => h, fun h => h⟩) hst ?_
  repeat (first | (refine wpSeq_pure (v := ?_) rfl ?_ ?_; rotate_left 1; (focus (intro wq_ hSq_; (try dsimp only at hSq_); go_simp; (try with_reducible rfl); done)); (try simp only [Act.put, List.setIfInBounds_toArray, List.set_cons_zero, List.set_cons_succ])) | (refine wpSeq_pureG (v := ?_) rfl rfl ?_ ?_; rotate_left 1; (focus (intro wq_ hSq_; (try dsimp only at hSq_); go_simp; (try with_reducible rfl); done)); (try simp only [Act.put, List.setIfInBounds_toArray, List.set_cons_zero, List.set_cons_succ])) | (refine wpSeq_off rfl rfl ?_; (try simp only [Act.put, List.setIfInBounds_toArray, List.set_cons_zero, List.set_cons_succ])))
  first | refine wpSeq_call rfl (fun u1 g1 s1 K hK => ?_) | refine wpSeq_callG rfl rfl (fun u1 g1 s1 K hK => ?_)
  go_simp
  refine (xadd_any (X5.out.below s1) (X6.out.below s1) (by omega)).mono ?_
  rintro e y1 ⟨z1, rfl, x1, b1⟩
  obtain ⟨d2, A2, n2, c2, d2', A2', n2', c2', rfl⟩ := x1.form
  (try go_wp2_with fail)
  refine hK.out _ _ b1 ?_
  clear hK K
  (try simp only [Act.put, List.setIfInBounds_toArray, List.set_cons_zero, List.set_cons_succ])
  repeat (first | (refine wpSeq_pure (v := ?_) rfl ?_ ?_; rotate_left 1; (focus (intro wq_ hSq_; (try dsimp only at hSq_); go_simp; (try with_reducible rfl); done)); (try simp only [Act.put, List.setIfInBounds_toArray, List.set_cons_zero, List.set_cons_succ])) | (refine wpSeq_pureG (v := ?_) rfl rfl ?_ ?_; rotate_left 1; (focus (intro wq_ hSq_; (try dsimp only at hSq_); go_simp; (try with_reducible rfl); done)); (try simp only [Act.put, List.setIfInBounds_toArray, List.set_cons_zero, List.set_cons_succ])) | (refine wpSeq_off rfl rfl ?_; (try simp only [Act.put, List.setIfInBounds_toArray, List.set_cons_zero, List.set_cons_succ])))
  first | refine wpSeq_call rfl (fun u2 g2 s2 K hK => ?_) | refine wpSeq_callG rfl rfl (fun u2 g2 s2 K hK => ?_)
  go_simp
  refine (xwh_any 2 u2 (by omega) (by omega)).mono ?_
  rintro e y2 ⟨z2, rfl, x2, b2⟩
  obtain ⟨d3, A3, n3, c3, d3', A3', n3', c3', rfl⟩ := x2.form
  (try go_wp2_with fail)
  refine hK.out _ _ b2 ?_
  clear hK K
  (try simp only [Act.put, List.setIfInBounds_toArray, List.set_cons_zero, List.set_cons_succ])
  repeat (first | (refine wpSeq_pure (v := ?_) rfl ?_ ?_; rotate_left 1; (focus (intro wq_ hSq_; (try dsimp only at hSq_); go_simp; (try with_reducible rfl); done)); (try simp only [Act.put, List.setIfInBounds_toArray, List.set_cons_zero, List.set_cons_succ])) | (refine wpSeq_pureG (v := ?_) rfl rfl ?_ ?_; rotate_left 1; (focus (intro wq_ hSq_; (try dsimp only at hSq_); go_simp; (try with_reducible rfl); done)); (try simp only [Act.put, List.setIfInBounds_toArray, List.set_cons_zero, List.set_cons_succ])) | (refine wpSeq_off rfl rfl ?_; (try simp only [Act.put, List.setIfInBounds_toArray, List.set_cons_zero, List.set_cons_succ])))
  first | refine wpSeq_call rfl (fun u3 g3 s3 K hK => ?_) | refine wpSeq_callG rfl rfl (fun u3 g3 s3 K hK => ?_)
  go_simp
  refine (xdiv_any (((x1.below g2).below b2).below g3) (x2.below g3) (by decide) (by omega)).mono ?_
  rintro e y3 ⟨z3, rfl, x3, b3⟩
  obtain ⟨d4, A4, n4, c4, d4', A4', n4', c4', rfl⟩ := x3.form
  (try go_wp2_with fail)
  refine hK.out _ _ b3 ?_
  clear hK K
  (try simp only [Act.put, List.setIfInBounds_toArray, List.set_cons_zero, List.set_cons_succ])
  repeat (first | (refine wpSeq_pure (v := ?_) rfl ?_ ?_; rotate_left 1; (focus (intro wq_ hSq_; (try dsimp only at hSq_); go_simp; (try with_reducible rfl); done)); (try simp only [Act.put, List.setIfInBounds_toArray, List.set_cons_zero, List.set_cons_succ])) | (refine wpSeq_pureG (v := ?_) rfl rfl ?_ ?_; rotate_left 1; (focus (intro wq_ hSq_; (try dsimp only at hSq_); go_simp; (try with_reducible rfl); done)); (try simp only [Act.put, List.setIfInBounds_toArray, List.set_cons_zero, List.set_cons_succ])) | (refine wpSeq_off rfl rfl ?_; (try simp only [Act.put, List.setIfInBounds_toArray, List.set_cons_zero, List.set_cons_succ])))
  first | refine wpSeq_call rfl (fun u4 g4 s4 K hK => ?_) | refine wpSeq_callG rfl rfl (fun u4 g4 s4 K hK => ?_)
  go_simp
  refine (xlowest_any (x3.below g4) (by omega)).mono ?_
  rintro e y4 ⟨z4, rfl, hz4, b4⟩
  have x4 := hz4.zx
  obtain ⟨d7, A7, n7, c7, d7', A7', n7', c7', rfl⟩ := x4.form
  (try go_wp2_with fail)
  refine hK.out _ _ b4 ?_
  clear hK K
  (try simp only [Act.put, List.setIfInBounds_toArray, List.set_cons_zero, List.set_cons_succ])
  repeat (first | (refine wpSeq_pure (v := ?_) rfl ?_ ?_; rotate_left 1; (focus (intro wq_ hSq_; (try dsimp only at hSq_); go_simp; (try with_reducible rfl); done)); (try simp only [Act.put, List.setIfInBounds_toArray, List.set_cons_zero, List.set_cons_succ])) | (refine wpSeq_pureG (v := ?_) rfl rfl ?_ ?_; rotate_left 1; (focus (intro wq_ hSq_; (try dsimp only at hSq_); go_simp; (try with_reducible rfl); done)); (try simp only [Act.put, List.setIfInBounds_toArray, List.set_cons_zero, List.set_cons_succ])) | (refine wpSeq_off rfl rfl ?_; (try simp only [Act.put, List.setIfInBounds_toArray, List.set_cons_zero, List.set_cons_succ])))
  intro wx gz sz_
  (try simp only [endJ, List.drop_succ_cons, List.drop_zero])
  have hh1 : Held w.heap.size 8 TQL wx wx := (HE0.out.below sz_).heldS
  have kf := (HE0.out.below sz_).free
  have kc := (HE0.out.below sz_).cells
  simp only [cellsAre, Nat.zero_add, Nat.reduceAdd, and_true] at kc
  have r1 := (rules w.heap.size 8 TQL wx).some
  have X7 := Lib.hid (x4.below gz)
  have X1 := Lib.hid (HX1.out.below sz_)
  have SZ := Lib.hid (bt HB4.out sz_)
  clear x1 x2 x3 x4 b1 b2 b3 b4 g1 g2 g3 g4 s1 s2 s3 s4 k9 k10 k11 hst gz sz_ hz4
  go_wp2
  (try simp only [Exit.inBlock, Exit.then])
  refine bodyPost_ret (v := .agg #[.bool d1, .slice A1 n1 c1, .bool d1', .slice A1' n1' c1', .bool d7, .slice A7 n7 c7, .bool d7', .slice A7' n7' c7']) (by simp [results, Try.results82, go_sem, r1 _ hh1]) rfl ?_
  have hst2 := Held.set_ (Held.set_ (Held.set_ (Held.set_ (Held.set_ (Held.set_ (Held.set_ (Held.set_ (hh1.here) 0 (.bool d1)) 1 (.slice A1 n1 c1)) 2 (.bool d1')) 3 (.slice A1' n1' c1')) 4 (.bool d7)) 5 (.slice A7 n7 c7)) 6 (.bool d7')) 7 (.slice A7' n7' c7')
  exact ⟨_, rfl, ⟨_, _, _, _, _, _, _, _, _, _, _, _, _, _, _, _, rfl, (X1.out.le (by omega)).held hst2 (by decide), ((X7.out.eq HSH.out).le (by omega)).held hst2 (by decide)⟩, hst2.below SZ.out (by omega)⟩
end Go.Proofs.Tb
