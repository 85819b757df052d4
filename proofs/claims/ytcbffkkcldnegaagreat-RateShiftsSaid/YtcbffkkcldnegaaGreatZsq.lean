/- Contract of the reference for rates: Squares. -/
import Derived.Test.YtcbffkkcldnegaaGreatRefU
import Derived.Test.YtcbffkkcldnegaaGreatRate3
set_option linter.unusedVariables false
set_option linter.unusedSimpArgs false
namespace Go.Proofs.Tb
open Go.RowKit
attribute [local go_sem] cell_set_same

/-- The line of least squares. -/
def sqS (rs : List Rdg) : Rat := (sqN rs.length (sm g1 rs) (sm g2 rs) (sm g4 rs) : Rat) / (sqD rs.length (sm g1 rs) (sm g3 rs) : Rat)
def sqH (rs : List Rdg) : Rat := ((sm g2 rs : Rat) - sqS rs * (sm g1 rs : Rat)) / (rs.length : Rat)
theorem SquR.q {rs : List Rdg} {v : Value} {w : World} (hv : Vld rs) (h : SquR rs v w) : LineQ (sqS rs) (sqH rs) v := by
  obtain ⟨p, q, r, s, hq, hs, hl, h1, h2⟩ := h.2 hv
  have e1 : qv p q = sqS rs := h1
  have e2 : qv r s = sqH rs := by rw [h2, e1]; rfl
  rw [← e1, ← e2]
  exact hl.q hq hs

set_option maxHeartbeats 3200000 in
set_option maxRecDepth 100000 in
theorem zsqline_any (A : Option Addr) (n c : Nat) (rs : List Rdg) (w : World) (h : Rd w A n c rs) (hv : Vld rs) :
    Calls Tryz.prog 12 #[.slice A n c] w (Ret (fun v w' => ZL w' v (sqS rs) (sqH rs) 58) w) := by
  have hn := h.le
  have hc := h.cap
  have HL := Lib.hid h.len
  have H := Lib.hid h
  have HV := Lib.hid hv
  have hn64 : n ≤ 64 := by have := hv.2.1; have := HL.out; omega
  have hn2 : 2 ≤ n := by have := hv.1; have := HL.out; omega
  clear h hv
  go_enter Tryz.func12, Tryz.ntmps12
  go_wp2_with fail
  obtain ⟨W0, hW0⟩ : ∃ W0, W0 = w.alloc (.cells #[.bool false, .slice none 0 0, .bool false, .slice none 0 0, .bool false, .slice none 0 0, .bool false, .slice none 0 0] TQL) := ⟨_, rfl⟩
  have e0 : Blk W0 w.heap.size TQL #[.bool false, .slice none 0 0, .bool false, .slice none 0 0, .bool false, .slice none 0 0, .bool false, .slice none 0 0] := by rw [hW0]; exact Blk.new_ _ _ rfl
  have hbw : Below w.heap.size w W0 := by rw [hW0]; go_grown
  rw [← hW0]
  clear hW0
  have E0 := Lib.hid e0
  have HB0 := Lib.hid hbw
  clear e0 hbw
  go_loopw [4, 5, 6, 7, 8] (fun t y tt ty i wr => ∃ k : Nat, k ≤ n ∧ i = .int .i64 k ∧ t = .int .i64 (sm g1 (rs.take k)) ∧ y = .int .i64 (sm g2 (rs.take k)) ∧ tt = .int .i64 (sm g3 (rs.take k)) ∧ ty = .int .i64 (sm g4 (rs.take k)) ∧ Below W0.heap.size W0 wr) (fun _ _ _ _ i _ => n - (intOf i).toNat)
  case atStart => exact ⟨0, Nat.zero_le _, rfl, rfl, rfl, rfl, rfl, Below.refl _ _⟩
  case round =>
    obtain ⟨k, hk, rfl, rfl, rfl, rfl, rfl, hbw⟩ := hrel
    have HBW := Lib.hid hbw
    clear hbw
    have hsb := HV.out.sb k (by rw [HL.out]; exact hk)
    by_cases hkn : k < n
    · have g1' : decide ((k : Int) < (n : Int)) = true := by simp; omega
      have hsb' := HV.out.sb (k + 1) (by rw [HL.out]; omega)
      obtain ⟨t, o, rfl, hcell⟩ := (H.out.below (bt HB0.out HBW.out)).at_ (by omega)
      obtain ⟨ck1, ck2⟩ := hcell k hkn
      have ok := HV.out.2.2 k (by rw [HL.out]; exact hkn)
      unfold okAt at ok
      have s1 := sm_succ g1 rs k (by rw [HL.out]; exact hkn)
      have s2 := sm_succ g2 rs k (by rw [HL.out]; exact hkn)
      have s3 := sm_succ g3 rs k (by rw [HL.out]; exact hkn)
      have s4 := sm_succ g4 rs k (by rw [HL.out]; exact hkn)
      unfold g1 at s1
      unfold g2 at s2
      unfold g3 at s3
      unfold g4 at s4
      rw [show (fun x : Rdg => x.1) = g1 from rfl] at s1
      rw [show (fun x : Rdg => x.2) = g2 from rfl] at s2
      rw [show (fun x : Rdg => x.1 * x.1) = g3 from rfl] at s3
      rw [show (fun x : Rdg => x.1 * x.2) = g4 from rfl] at s4
      obtain ⟨a, ha⟩ : ∃ x, (rs.getD k (0, 0)).1 = x := ⟨_, rfl⟩
      obtain ⟨b, hb⟩ : ∃ x, (rs.getD k (0, 0)).2 = x := ⟨_, rfl⟩
      rw [ha] at ck1 s1 s3 s4 ok
      rw [hb] at ck2 s2 s4 ok
      obtain ⟨T, hT⟩ : ∃ x, sm g1 (rs.take k) = x := ⟨_, rfl⟩
      obtain ⟨Y, hY⟩ : ∃ x, sm g2 (rs.take k) = x := ⟨_, rfl⟩
      obtain ⟨TT, hTT⟩ : ∃ x, sm g3 (rs.take k) = x := ⟨_, rfl⟩
      obtain ⟨TY, hTY⟩ : ∃ x, sm g4 (rs.take k) = x := ⟨_, rfl⟩
      rw [hT] at s1 hsb
      rw [hY] at s2 hsb
      rw [hTT] at s3 hsb
      rw [hTY] at s4 hsb
      rw [hT, hY, hTT, hTY]
      rw [s1, s2, s3, s4] at hsb'
      obtain ⟨⟨x1, x2⟩, ⟨y1, y2⟩, ⟨z1, z2⟩, ⟨u1, u2⟩⟩ := hsb
      obtain ⟨⟨x1', x2'⟩, ⟨y1', y2'⟩, ⟨z1', z2'⟩, ⟨u1', u2'⟩⟩ := hsb'
      obtain ⟨o1, o2, o3, o4, _⟩ := ok
      have m1 := mul_bd' a a 1000000 1000000 o1 o2 o1 o2
      have m2 := mul_bd' a b 1000000 1000000 o1 o2 o3 o4
      obtain ⟨m11, m12⟩ := m1
      obtain ⟨m21, m22⟩ := m2
      have S1 := Lib.hid s1
      have S2 := Lib.hid s2
      have S3 := Lib.hid s3
      have S4 := Lib.hid s4
      have pk : (k : Int) < (n : Int) := by omega
      have wq1 : IntKind.i64.wrap (T + a) = T + a := IntWalk.i64_in _ (by omega)
      have wq2 : IntKind.i64.wrap (Y + b) = Y + b := IntWalk.i64_in _ (by omega)
      have wq3 : IntKind.i64.wrap (a * a) = a * a := IntWalk.i64_in _ (by omega)
      have wq4 : IntKind.i64.wrap (TT + a * a) = TT + a * a := IntWalk.i64_in _ (by omega)
      have wq5 : IntKind.i64.wrap (a * b) = a * b := IntWalk.i64_in _ (by omega)
      have wq6 : IntKind.i64.wrap (TY + a * b) = TY + a * b := IntWalk.i64_in _ (by omega)
      clear s1 s2 s3 s4 hT hY hTT hTY ha hb hcell
      go_upto_region 5 with fail
      have kr := fun w' (hh : Ext wr w') => (show w'.cell? ⟨t, o + k * 2, none⟩ = some (.int .i64 a) ∧ w'.cell? ⟨t, o + k * 2 + 1, none⟩ = some (.int .i64 b) from ⟨Ext.cell hh ck1, Ext.cell hh ck2⟩)
      have hst : Ext wr wr.drew := Ext.drew _
      clear g1' ck1 ck2
      refine wp_region_adv 15 [] [(0, true, some 18, none), (1, true, some 19, none), (2, true, some 20, none), (3, true, some 21, none), (4, true, some 22, none), (5, true, some 23, none), (6, true, some 24, none), (7, true, some 25, none), (8, true, some 26, none), (9, true, some 27, none), (10, true, some 28, none), (11, true, some 29, none), (12, true, some 30, none), (13, true, some 31, none), (14, false, some 4, none)] (by kernel_rfl) (by kernel_rfl) (by kernel_rfl) (by intro it hit; (repeat (rcases List.mem_cons.1 hit with rfl | hit; (focus (intro o ho ev w; injection ho with ho; subst ho; kernel_rfl)))); cases hit) (fun _ _ _ _ _ => ⟨fun h => h, fun h => h⟩) hst ?_
      repeat (first | (refine wpSeq_pure (v := ?_) rfl ?_ ?_; rotate_left 1; (focus (intro wq_ hSq_; (try dsimp only at hSq_); go_simp; (try with_reducible rfl); done)); (try simp only [Act.put, List.setIfInBounds_toArray, List.set_cons_zero, List.set_cons_succ])) | (refine wpSeq_pureG (v := ?_) rfl rfl ?_ ?_; rotate_left 1; (focus (intro wq_ hSq_; (try dsimp only at hSq_); go_simp; (try with_reducible rfl); done)); (try simp only [Act.put, List.setIfInBounds_toArray, List.set_cons_zero, List.set_cons_succ])) | (refine wpSeq_off rfl rfl ?_; (try simp only [Act.put, List.setIfInBounds_toArray, List.set_cons_zero, List.set_cons_succ])))
      first | refine wpSeq_call rfl (fun q1 h1' t1 K hK => ?_) | refine wpSeq_callG rfl rfl (fun q1 h1' t1 K hK => ?_)
      go_simp
      (try go_wp2_with fail)
      refine hK.out _ _ (Ext.refl _) ?_
      clear hK K
      (try simp only [Act.put, List.setIfInBounds_toArray, List.set_cons_zero, List.set_cons_succ])
      repeat (first | (refine wpSeq_pure (v := ?_) rfl ?_ ?_; rotate_left 1; (focus (intro wq_ hSq_; (try dsimp only at hSq_); go_simp; (try with_reducible rfl); done)); (try simp only [Act.put, List.setIfInBounds_toArray, List.set_cons_zero, List.set_cons_succ])) | (refine wpSeq_pureG (v := ?_) rfl rfl ?_ ?_; rotate_left 1; (focus (intro wq_ hSq_; (try dsimp only at hSq_); go_simp; (try with_reducible rfl); done)); (try simp only [Act.put, List.setIfInBounds_toArray, List.set_cons_zero, List.set_cons_succ])) | (refine wpSeq_off rfl rfl ?_; (try simp only [Act.put, List.setIfInBounds_toArray, List.set_cons_zero, List.set_cons_succ])))
      intro wz gz sz_
      (try simp only [endJ, List.drop_succ_cons, List.drop_zero])
      have SZ := Lib.hid (show Ext wr wz from sz_)
      clear h1' t1 gz sz_ hst
      go_upto_region 6 with fail
      have kr := fun w' (hh : Ext wz w') => kr w' (bt SZ.out hh)
      have hst : Ext wz wz.drew := Ext.drew _
      refine wp_region_adv 27 [] [(0, true, some 32, none), (1, true, some 33, none), (2, true, some 34, none), (3, true, some 35, none), (4, true, some 36, none), (5, true, some 37, none), (6, true, some 38, none), (7, true, some 39, none), (8, true, some 40, none), (9, true, some 41, none), (10, true, some 42, none), (11, true, some 43, none), (12, true, some 44, none), (13, true, some 45, none), (14, true, some 46, none), (15, true, some 47, none), (16, true, some 48, none), (17, true, some 49, none), (18, true, some 50, none), (19, true, some 51, none), (20, true, some 52, none), (21, true, some 53, none), (22, true, some 54, none), (23, true, some 55, none), (24, true, some 56, none), (25, true, some 57, none), (26, false, some 6, none)] (by kernel_rfl) (by kernel_rfl) (by kernel_rfl) (by intro it hit; (repeat (rcases List.mem_cons.1 hit with rfl | hit; (focus (intro o ho ev w; injection ho with ho; subst ho; kernel_rfl)))); cases hit) (fun _ _ _ _ _ => ⟨fun h => h, fun h => h⟩) hst ?_
      repeat (first | (refine wpSeq_pure (v := ?_) rfl ?_ ?_; rotate_left 1; (focus (intro wq_ hSq_; (try dsimp only at hSq_); go_simp; (try with_reducible rfl); done)); (try simp only [Act.put, List.setIfInBounds_toArray, List.set_cons_zero, List.set_cons_succ])) | (refine wpSeq_pureG (v := ?_) rfl rfl ?_ ?_; rotate_left 1; (focus (intro wq_ hSq_; (try dsimp only at hSq_); go_simp; (try with_reducible rfl); done)); (try simp only [Act.put, List.setIfInBounds_toArray, List.set_cons_zero, List.set_cons_succ])) | (refine wpSeq_off rfl rfl ?_; (try simp only [Act.put, List.setIfInBounds_toArray, List.set_cons_zero, List.set_cons_succ])))
      first | refine wpSeq_call rfl (fun q1 h1' t1 K hK => ?_) | refine wpSeq_callG rfl rfl (fun q1 h1' t1 K hK => ?_)
      go_simp
      (try go_wp2_with fail)
      refine hK.out _ _ (Ext.refl _) ?_
      clear hK K
      (try simp only [Act.put, List.setIfInBounds_toArray, List.set_cons_zero, List.set_cons_succ])
      repeat (first | (refine wpSeq_pure (v := ?_) rfl ?_ ?_; rotate_left 1; (focus (intro wq_ hSq_; (try dsimp only at hSq_); go_simp; (try with_reducible rfl); done)); (try simp only [Act.put, List.setIfInBounds_toArray, List.set_cons_zero, List.set_cons_succ])) | (refine wpSeq_pureG (v := ?_) rfl rfl ?_ ?_; rotate_left 1; (focus (intro wq_ hSq_; (try dsimp only at hSq_); go_simp; (try with_reducible rfl); done)); (try simp only [Act.put, List.setIfInBounds_toArray, List.set_cons_zero, List.set_cons_succ])) | (refine wpSeq_off rfl rfl ?_; (try simp only [Act.put, List.setIfInBounds_toArray, List.set_cons_zero, List.set_cons_succ])))
      intro wy gy sy_
      (try simp only [endJ, List.drop_succ_cons, List.drop_zero])
      have HN := Lib.hid (show Below W0.heap.size W0 wy from bt HBW.out (bt SZ.out sy_))
      clear h1' t1 gy sy_ hst kr wq1 wq2 wq3 wq4 wq5 wq6 m11 m12 m21 m22 x1 x2 y1 y2 z1 z2 u1 u2 x1' x2' y1' y2' z1' z2' u1' u2'
      go_wp2
      go_roundw
      case rel => exact ⟨k + 1, by omega, by go_num, by rw [S1.out], by rw [S2.out], by rw [S3.out], by rw [S4.out], HN.out⟩
      case measure => simp [intOf]; omega
    · have hkn2 : k = n := by omega
      subst hkn2
      have g1' : decide ((k : Int) < (k : Int)) = false := by simp
      have ht : rs.take k = rs := List.take_of_length_le (by rw [HL.out]; omega)
      rw [ht] at hsb ⊢
      have hD := HV.out.dets_pos
      unfold dets at hD
      have hD0 : sqD k (sm g1 rs) (sm g3 rs) ≠ 0 := by unfold sqD; have := HL.out; rw [this] at hD; omega
      have HD0 := Lib.hid (cast_ne hD0)
      have HS1 : Hid ((sqN k (sm g1 rs) (sm g2 rs) (sm g4 rs) : Rat) / (sqD k (sm g1 rs) (sm g3 rs) : Rat) = sqS rs) := by unfold sqS; rw [HL.out]; exact (rfl : _ = _)
      have HS2 : Hid (((sm g2 rs : Rat) - sqS rs * (sm g1 rs : Rat)) / (((k : Nat) : Int) : Rat) = sqH rs) := by unfold sqH; rw [HL.out]; exact (rfl : _ = _)
      have HN1 : Hid ((((k : Nat) : Int) : Rat) * (sm g4 rs : Rat) - (sm g1 rs : Rat) * (sm g2 rs : Rat) = (sqN k (sm g1 rs) (sm g2 rs) (sm g4 rs) : Rat)) := by
        show _ = _
        unfold sqN; rw [Rat.intCast_sub, Rat.intCast_mul, Rat.intCast_mul]
      have HN2 : Hid ((((k : Nat) : Int) : Rat) * (sm g3 rs : Rat) - (sm g1 rs : Rat) * (sm g1 rs : Rat) = (sqD k (sm g1 rs) (sm g3 rs) : Rat)) := by
        show _ = _
        unfold sqD; rw [Rat.intCast_sub, Rat.intCast_mul, Rat.intCast_mul]
      have HK0 : Hid ((((k : Nat) : Int) : Rat) ≠ 0) := cast_ne (by omega)
      obtain ⟨T, hT⟩ : ∃ x, sm g1 rs = x := ⟨_, rfl⟩
      obtain ⟨Y, hY⟩ : ∃ x, sm g2 rs = x := ⟨_, rfl⟩
      obtain ⟨TT, hTT⟩ : ∃ x, sm g3 rs = x := ⟨_, rfl⟩
      obtain ⟨TY, hTY⟩ : ∃ x, sm g4 rs = x := ⟨_, rfl⟩
      rw [hT, hY] at hsb HS2
      rw [hTT, hTY] at hsb
      rw [hT, hY, hTY] at HN1 HS1
      rw [hTT] at HS1
      rw [hT, hTT] at HN2 HD0
      rw [hT, hY, hTT, hTY]
      obtain ⟨N, hN⟩ : ∃ x, sqN k T Y TY = x := ⟨_, rfl⟩
      obtain ⟨D, hD_⟩ : ∃ x, sqD k T TT = x := ⟨_, rfl⟩
      rw [hN] at HN1 HS1
      rw [hD_] at HN2 HD0 HS1
      obtain ⟨⟨x1, x2⟩, ⟨y1, y2⟩, ⟨z1, z2⟩, ⟨u1, u2⟩⟩ := hsb
      clear hT hY hTT hTY hN hD_ hD hD0 ht hkn hk
      go_wp2_with fail
      refine (xwh_any (k : Int) _ (by omega) (by omega)).mono ?_
      rintro ex V1 ⟨R1, rfl, X1, B1⟩
      obtain ⟨d1, A1, n1, c1, d1', A1', n1', c1', rfl⟩ := X1.form
      go_wp2_with fail
      refine (xwh_any TY _ (by omega) (by omega)).mono ?_
      rintro ex V2 ⟨R2, rfl, X2, B2⟩
      obtain ⟨d2, A2, n2, c2, d2', A2', n2', c2', rfl⟩ := X2.form
      go_wp2_with fail
      refine (xmul_any (X1.below B2) X2 (by omega)).mono ?_
      rintro ex V3 ⟨R3, rfl, X3, B3⟩
      obtain ⟨d3, A3, n3, c3, d3', A3', n3', c3', rfl⟩ := X3.form
      go_wp2_with fail
      refine (xwh_any T _ (by omega) (by omega)).mono ?_
      rintro ex V4 ⟨R4, rfl, X4, B4⟩
      obtain ⟨d4, A4, n4, c4, d4', A4', n4', c4', rfl⟩ := X4.form
      go_wp2_with fail
      refine (xwh_any Y _ (by omega) (by omega)).mono ?_
      rintro ex V5 ⟨R5, rfl, X5, B5⟩
      obtain ⟨d5, A5, n5, c5, d5', A5', n5', c5', rfl⟩ := X5.form
      go_wp2_with fail
      refine (xmul_any (X4.below B5) X5 (by omega)).mono ?_
      rintro ex V6 ⟨R6, rfl, X6, B6⟩
      obtain ⟨d6, A6, n6, c6, d6', A6', n6', c6', rfl⟩ := X6.form
      go_wp2_with fail
      refine (xsub_any (((X3.below B4).below B5).below B6) X6 (by omega)).mono ?_
      rintro ex V7 ⟨R7, rfl, X7, B7⟩
      obtain ⟨d7, A7, n7, c7, d7', A7', n7', c7', rfl⟩ := X7.form
      have M1 := Lib.hid (X7.eq HN1.out)
      have MB1 := Lib.hid (bt B1 (bt B2 (bt B3 (bt B4 (bt B5 (bt B6 B7))))))
      clear X1 X2 X3 X4 X5 X6 X7 B1 B2 B3 B4 B5 B6 B7
      go_wp2_with fail
      refine (xwh_any (k : Int) _ (by omega) (by omega)).mono ?_
      rintro ex V8 ⟨R8, rfl, X8, B8⟩
      obtain ⟨d8, A8, n8, c8, d8', A8', n8', c8', rfl⟩ := X8.form
      go_wp2_with fail
      refine (xwh_any TT _ (by omega) (by omega)).mono ?_
      rintro ex V9 ⟨R9, rfl, X9, B9⟩
      obtain ⟨d9, A9, n9, c9, d9', A9', n9', c9', rfl⟩ := X9.form
      go_wp2_with fail
      refine (xmul_any (X8.below B9) X9 (by omega)).mono ?_
      rintro ex V10 ⟨R10, rfl, X10, B10⟩
      obtain ⟨d10, A10, n10, c10, d10', A10', n10', c10', rfl⟩ := X10.form
      go_wp2_with fail
      refine (xwh_any T _ (by omega) (by omega)).mono ?_
      rintro ex V11 ⟨R11, rfl, X11, B11⟩
      obtain ⟨d11, A11, n11, c11, d11', A11', n11', c11', rfl⟩ := X11.form
      go_wp2_with fail
      refine (xwh_any T _ (by omega) (by omega)).mono ?_
      rintro ex V12 ⟨R12, rfl, X12, B12⟩
      obtain ⟨d12, A12, n12, c12, d12', A12', n12', c12', rfl⟩ := X12.form
      go_wp2_with fail
      refine (xmul_any (X11.below B12) X12 (by omega)).mono ?_
      rintro ex V13 ⟨R13, rfl, X13, B13⟩
      obtain ⟨d13, A13, n13, c13, d13', A13', n13', c13', rfl⟩ := X13.form
      go_wp2_with fail
      refine (xsub_any (((X10.below B11).below B12).below B13) X13 (by omega)).mono ?_
      rintro ex V14 ⟨R14, rfl, X14, B14⟩
      obtain ⟨d14, A14, n14, c14, d14', A14', n14', c14', rfl⟩ := X14.form
      have M2 := Lib.hid (X14.eq HN2.out)
      have MB2 := Lib.hid (bt B8 (bt B9 (bt B10 (bt B11 (bt B12 (bt B13 B14))))))
      clear X8 X9 X10 X11 X12 X13 X14 B8 B9 B10 B11 B12 B13 B14
      go_wp2_with fail
      refine (xdiv_any (M1.out.below MB2.out) M2.out HD0.out (by omega)).mono ?_
      rintro ex V15 ⟨R15, rfl, X15, B15⟩
      obtain ⟨d15, A15, n15, c15, d15', A15', n15', c15', rfl⟩ := X15.form
      go_wp2_with fail
      refine (xlowest_any X15 (by omega)).mono ?_
      rintro ex V16 ⟨R16, rfl, Z16, B16⟩
      have X16 := Z16.zx.eq HS1.out
      obtain ⟨d16, A16, n16, c16, d16', A16', n16', c16', rfl⟩ := X16.form
      have HB16 := Lib.hid (show Below W0.heap.size W0 V16 from bt HBW.out (bt MB1.out (bt MB2.out (bt B15 B16))))
      have HX16 := Lib.hid X16
      clear X15 X16 Z16 B15 B16 M1 M2 MB1 MB2 HBW HN1 HN2 HD0 HS1
      go_upto_region 8 with fail
      refine wp_world (fun W => Blk W V16.heap.size TQ #[.bool d16, .slice A16 n16 c16, .bool d16', .slice A16' n16' c16'] ∧ Below V16.heap.size V16 W) (by exact ⟨Blk.new_ _ _ rfl, by go_grown⟩) ?_
      rintro W5 ⟨e9, hb5⟩
      have HS5 := Lib.hid (HX16.out.below hb5)
      have E5 := Lib.hid (E0.out.below (bt HB16.out hb5))
      have HB5 := Lib.hid (bt HB0.out (bt HB16.out hb5))
      have k9 := cells4 e9
      have hst : Ext W5 W5.drew := Ext.drew _
      clear e9 hb5 HX16 HB16
      refine wp_region_adv 12 [] [(0, true, some 82, none), (1, true, some 83, none), (3, true, some 85, none), (4, true, some 86, none), (8, true, some 90, none), (2, false, some 84, none), (5, false, some 87, none), (6, false, some 88, none), (7, false, some 89, none), (9, false, some 91, none), (10, false, some 92, none), (11, false, some 93, none)] (by kernel_rfl) (by kernel_rfl) (by kernel_rfl) (by intro it hit; (repeat (rcases List.mem_cons.1 hit with rfl | hit; (focus (intro o ho ev w; injection ho with ho; subst ho; kernel_rfl)))); cases hit) (fun _ _ _ _ _ => ⟨fun h => h, fun h => h⟩) hst ?_
      repeat (first | (refine wpSeq_pure (v := ?_) rfl ?_ ?_; rotate_left 1; (focus (intro wq_ hSq_; (try dsimp only at hSq_); go_simp; (try with_reducible rfl); done)); (try simp only [Act.put, List.setIfInBounds_toArray, List.set_cons_zero, List.set_cons_succ])) | (refine wpSeq_pureG (v := ?_) rfl rfl ?_ ?_; rotate_left 1; (focus (intro wq_ hSq_; (try dsimp only at hSq_); go_simp; (try with_reducible rfl); done)); (try simp only [Act.put, List.setIfInBounds_toArray, List.set_cons_zero, List.set_cons_succ])) | (refine wpSeq_off rfl rfl ?_; (try simp only [Act.put, List.setIfInBounds_toArray, List.set_cons_zero, List.set_cons_succ])))
      first | refine wpSeq_call rfl (fun q1 h1' t1 K hK => ?_) | refine wpSeq_callG rfl rfl (fun q1 h1' t1 K hK => ?_)
      go_simp
      refine (xwh_any Y q1 (by omega) (by omega)).mono ?_
      rintro ex1 w1' ⟨r1', rfl, X1, B1⟩
      obtain ⟨d1, A1, n1, c1, d1', A1', n1', c1', rfl⟩ := X1.form
      (try go_wp2_with fail)
      refine hK.out _ _ B1 ?_
      clear hK K
      (try simp only [Act.put, List.setIfInBounds_toArray, List.set_cons_zero, List.set_cons_succ])
      repeat (first | (refine wpSeq_pure (v := ?_) rfl ?_ ?_; rotate_left 1; (focus (intro wq_ hSq_; (try dsimp only at hSq_); go_simp; (try with_reducible rfl); done)); (try simp only [Act.put, List.setIfInBounds_toArray, List.set_cons_zero, List.set_cons_succ])) | (refine wpSeq_pureG (v := ?_) rfl rfl ?_ ?_; rotate_left 1; (focus (intro wq_ hSq_; (try dsimp only at hSq_); go_simp; (try with_reducible rfl); done)); (try simp only [Act.put, List.setIfInBounds_toArray, List.set_cons_zero, List.set_cons_succ])) | (refine wpSeq_off rfl rfl ?_; (try simp only [Act.put, List.setIfInBounds_toArray, List.set_cons_zero, List.set_cons_succ])))
      first | refine wpSeq_call rfl (fun q2 h2' t2 K hK => ?_) | refine wpSeq_callG rfl rfl (fun q2 h2' t2 K hK => ?_)
      go_simp
      refine (xwh_any T q2 (by omega) (by omega)).mono ?_
      rintro ex2 w2' ⟨r2', rfl, X2, B2⟩
      obtain ⟨d2, A2, n2, c2, d2', A2', n2', c2', rfl⟩ := X2.form
      (try go_wp2_with fail)
      refine hK.out _ _ B2 ?_
      clear hK K
      (try simp only [Act.put, List.setIfInBounds_toArray, List.set_cons_zero, List.set_cons_succ])
      repeat (first | (refine wpSeq_pure (v := ?_) rfl ?_ ?_; rotate_left 1; (focus (intro wq_ hSq_; (try dsimp only at hSq_); go_simp; (try with_reducible rfl); done)); (try simp only [Act.put, List.setIfInBounds_toArray, List.set_cons_zero, List.set_cons_succ])) | (refine wpSeq_pureG (v := ?_) rfl rfl ?_ ?_; rotate_left 1; (focus (intro wq_ hSq_; (try dsimp only at hSq_); go_simp; (try with_reducible rfl); done)); (try simp only [Act.put, List.setIfInBounds_toArray, List.set_cons_zero, List.set_cons_succ])) | (refine wpSeq_off rfl rfl ?_; (try simp only [Act.put, List.setIfInBounds_toArray, List.set_cons_zero, List.set_cons_succ])))
      first | refine wpSeq_call rfl (fun q3 h3' t3 K hK => ?_) | refine wpSeq_callG rfl rfl (fun q3 h3' t3 K hK => ?_)
      go_simp
      refine (xmul_any (HS5.out.below t3) (X2.below h3') (by omega)).mono ?_
      rintro ex3 w3' ⟨r3', rfl, X3, B3⟩
      obtain ⟨d3, A3, n3, c3, d3', A3', n3', c3', rfl⟩ := X3.form
      (try go_wp2_with fail)
      refine hK.out _ _ B3 ?_
      clear hK K
      (try simp only [Act.put, List.setIfInBounds_toArray, List.set_cons_zero, List.set_cons_succ])
      repeat (first | (refine wpSeq_pure (v := ?_) rfl ?_ ?_; rotate_left 1; (focus (intro wq_ hSq_; (try dsimp only at hSq_); go_simp; (try with_reducible rfl); done)); (try simp only [Act.put, List.setIfInBounds_toArray, List.set_cons_zero, List.set_cons_succ])) | (refine wpSeq_pureG (v := ?_) rfl rfl ?_ ?_; rotate_left 1; (focus (intro wq_ hSq_; (try dsimp only at hSq_); go_simp; (try with_reducible rfl); done)); (try simp only [Act.put, List.setIfInBounds_toArray, List.set_cons_zero, List.set_cons_succ])) | (refine wpSeq_off rfl rfl ?_; (try simp only [Act.put, List.setIfInBounds_toArray, List.set_cons_zero, List.set_cons_succ])))
      first | refine wpSeq_call rfl (fun q4 h4' t4 K hK => ?_) | refine wpSeq_callG rfl rfl (fun q4 h4' t4 K hK => ?_)
      go_simp
      refine (xsub_any ((((((X1.below h2').below B2).below h3').below B3).below h4')) (X3.below h4') (by omega)).mono ?_
      rintro ex4 w4' ⟨r4', rfl, X4, B4⟩
      obtain ⟨d4, A4, n4, c4, d4', A4', n4', c4', rfl⟩ := X4.form
      (try go_wp2_with fail)
      refine hK.out _ _ B4 ?_
      clear hK K
      (try simp only [Act.put, List.setIfInBounds_toArray, List.set_cons_zero, List.set_cons_succ])
      repeat (first | (refine wpSeq_pure (v := ?_) rfl ?_ ?_; rotate_left 1; (focus (intro wq_ hSq_; (try dsimp only at hSq_); go_simp; (try with_reducible rfl); done)); (try simp only [Act.put, List.setIfInBounds_toArray, List.set_cons_zero, List.set_cons_succ])) | (refine wpSeq_pureG (v := ?_) rfl rfl ?_ ?_; rotate_left 1; (focus (intro wq_ hSq_; (try dsimp only at hSq_); go_simp; (try with_reducible rfl); done)); (try simp only [Act.put, List.setIfInBounds_toArray, List.set_cons_zero, List.set_cons_succ])) | (refine wpSeq_off rfl rfl ?_; (try simp only [Act.put, List.setIfInBounds_toArray, List.set_cons_zero, List.set_cons_succ])))
      first | refine wpSeq_call rfl (fun q5 h5' t5 K hK => ?_) | refine wpSeq_callG rfl rfl (fun q5 h5' t5 K hK => ?_)
      go_simp
      refine (xwh_any (k : Int) q5 (by omega) (by omega)).mono ?_
      rintro ex5 w5' ⟨r5', rfl, X5, B5⟩
      obtain ⟨d5, A5, n5, c5, d5', A5', n5', c5', rfl⟩ := X5.form
      (try go_wp2_with fail)
      refine hK.out _ _ B5 ?_
      clear hK K
      (try simp only [Act.put, List.setIfInBounds_toArray, List.set_cons_zero, List.set_cons_succ])
      repeat (first | (refine wpSeq_pure (v := ?_) rfl ?_ ?_; rotate_left 1; (focus (intro wq_ hSq_; (try dsimp only at hSq_); go_simp; (try with_reducible rfl); done)); (try simp only [Act.put, List.setIfInBounds_toArray, List.set_cons_zero, List.set_cons_succ])) | (refine wpSeq_pureG (v := ?_) rfl rfl ?_ ?_; rotate_left 1; (focus (intro wq_ hSq_; (try dsimp only at hSq_); go_simp; (try with_reducible rfl); done)); (try simp only [Act.put, List.setIfInBounds_toArray, List.set_cons_zero, List.set_cons_succ])) | (refine wpSeq_off rfl rfl ?_; (try simp only [Act.put, List.setIfInBounds_toArray, List.set_cons_zero, List.set_cons_succ])))
      first | refine wpSeq_call rfl (fun q6 h6' t6 K hK => ?_) | refine wpSeq_callG rfl rfl (fun q6 h6' t6 K hK => ?_)
      go_simp
      refine (xdiv_any (((X4.below h5').below B5).below h6') (X5.below h6') HK0.out (by omega)).mono ?_
      rintro ex6 w6' ⟨r6', rfl, X6, B6⟩
      obtain ⟨d6, A6, n6, c6, d6', A6', n6', c6', rfl⟩ := X6.form
      (try go_wp2_with fail)
      refine hK.out _ _ B6 ?_
      clear hK K
      (try simp only [Act.put, List.setIfInBounds_toArray, List.set_cons_zero, List.set_cons_succ])
      repeat (first | (refine wpSeq_pure (v := ?_) rfl ?_ ?_; rotate_left 1; (focus (intro wq_ hSq_; (try dsimp only at hSq_); go_simp; (try with_reducible rfl); done)); (try simp only [Act.put, List.setIfInBounds_toArray, List.set_cons_zero, List.set_cons_succ])) | (refine wpSeq_pureG (v := ?_) rfl rfl ?_ ?_; rotate_left 1; (focus (intro wq_ hSq_; (try dsimp only at hSq_); go_simp; (try with_reducible rfl); done)); (try simp only [Act.put, List.setIfInBounds_toArray, List.set_cons_zero, List.set_cons_succ])) | (refine wpSeq_off rfl rfl ?_; (try simp only [Act.put, List.setIfInBounds_toArray, List.set_cons_zero, List.set_cons_succ])))
      first | refine wpSeq_call rfl (fun q7 h7' t7 K hK => ?_) | refine wpSeq_callG rfl rfl (fun q7 h7' t7 K hK => ?_)
      go_simp
      refine (xlowest_any (X6.below h7') (by omega)).mono ?_
      rintro ex7 w7' ⟨r7', rfl, Z7, B7⟩
      have X7 := Z7.zx.eq HS2.out
      obtain ⟨d7, A7, n7, c7, d7', A7', n7', c7', rfl⟩ := X7.form
      (try go_wp2_with fail)
      refine hK.out _ _ B7 ?_
      clear hK K
      (try simp only [Act.put, List.setIfInBounds_toArray, List.set_cons_zero, List.set_cons_succ])
      repeat (first | (refine wpSeq_pure (v := ?_) rfl ?_ ?_; rotate_left 1; (focus (intro wq_ hSq_; (try dsimp only at hSq_); go_simp; (try with_reducible rfl); done)); (try simp only [Act.put, List.setIfInBounds_toArray, List.set_cons_zero, List.set_cons_succ])) | (refine wpSeq_pureG (v := ?_) rfl rfl ?_ ?_; rotate_left 1; (focus (intro wq_ hSq_; (try dsimp only at hSq_); go_simp; (try with_reducible rfl); done)); (try simp only [Act.put, List.setIfInBounds_toArray, List.set_cons_zero, List.set_cons_succ])) | (refine wpSeq_off rfl rfl ?_; (try simp only [Act.put, List.setIfInBounds_toArray, List.set_cons_zero, List.set_cons_succ])))
      intro wz gz sz_
      (try simp only [endJ, List.drop_succ_cons, List.drop_zero])
      have hh1 : Held w.heap.size 8 TQL wz wz := (E5.out.below sz_).heldS
      have kf := (E5.out.below sz_).free
      have kc := (E5.out.below sz_).cells
      simp only [cellsAre, Nat.zero_add, Nat.reduceAdd, and_true] at kc
      have r1 := (rules w.heap.size 8 TQL wz).some
      have X7 := Lib.hid (X7.below gz)
      have X1 := Lib.hid (HS5.out.below sz_)
      have SZ := Lib.hid (bt HB5.out sz_)
      clear X2 X3 X4 X5 X6 B1 B2 B3 B4 B5 B6 B7 h1' h2' h3' h4' h5' h6' h7' t1 t2 t3 t4 t5 t6 t7 k9 hst gz sz_ Z7 HS5 HB5
      go_wp2
      (try simp only [Exit.inBlock, Exit.then])
      refine bodyPost_ret (v := .agg #[.bool d16, .slice A16 n16 c16, .bool d16', .slice A16' n16' c16', .bool d7, .slice A7 n7 c7, .bool d7', .slice A7' n7' c7']) (by simp [results, Tryz.results12, go_sem, r1 _ hh1]) rfl ?_
      have hst2 := Held.set_ (Held.set_ (Held.set_ (Held.set_ (Held.set_ (Held.set_ (Held.set_ (Held.set_ (hh1.here) 0 (.bool d16)) 1 (.slice A16 n16 c16)) 2 (.bool d16')) 3 (.slice A16' n16' c16')) 4 (.bool d7)) 5 (.slice A7 n7 c7)) 6 (.bool d7')) 7 (.slice A7' n7' c7')
      exact ⟨_, rfl, ⟨_, _, _, _, _, _, _, _, _, _, _, _, _, _, _, _, rfl, (X1.out.le (by omega)).held hst2 (by decide), (X7.out.le (by omega)).held hst2 (by decide)⟩, hst2.below SZ.out (by omega)⟩
end Go.Proofs.Tb
