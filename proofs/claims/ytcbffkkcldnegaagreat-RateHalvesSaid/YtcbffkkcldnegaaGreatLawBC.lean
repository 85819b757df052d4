/- RateHalves, the walk: at most half of the slopes lie below Median's and at most half above; likewise the readings and its line. -/
import Derived.Test.YtcbffkkcldnegaaGreatHlv
set_option linter.unusedVariables false
set_option linter.unusedSimpArgs false
namespace Go.Proofs.Tb
open Go.RowKit
attribute [local go_sem] cell_set_same

set_option maxHeartbeats 6400000 in
set_option maxRecDepth 100000 in
theorem halves_any (A : Option Addr) (n c : Nat) (xs : List Rdg) (w : World) (h : Rd w A n c xs) :
    Calls Tryz.prog 4 #[.slice A n c] w (Ret (fun v _ => v = .bool true) w) := by
  have H := Lib.hid h
  clear h
  go_enter Tryz.func4, Tryz.ntmps4
  go_wp2_with fail
  refine (tame_any A n c xs 24 w H.out (by omega)).mono ?_
  rintro e w1 ⟨v1, rfl, ⟨rs, htm, A1, c1, rfl, hrd⟩, hb1⟩
  have HV := Lib.hid (htm.vld (by omega))
  have HSM := Lib.hid (htm.small (by omega))
  obtain ⟨m, hm⟩ : ∃ m, rs.length = m := ⟨_, rfl⟩
  have hm64 : m ≤ 64 := by have := htm.2.1; omega
  have hm2 : 2 ≤ m := by have := htm.1; omega
  have hc1 := hrd.cap
  have hm1 := hrd.le
  have HRNG := Lib.hid (hrd.rngI)
  have HR1 := Lib.hid hrd
  rw [hm] at HR1 hm1 ⊢
  have HM := Lib.hid hm
  have HB1 := Lib.hid hb1
  clear htm hrd hb1 hm
  go_wp2_with fail
  refine (rmedian_any A1 m c1 rs _ HR1.out).mono ?_
  rintro e w2 ⟨v2, rfl, h2, hb2⟩
  obtain ⟨f1, f2⟩ := med_fit HV.out HSM.out
  have hv2 := (h2.2 HV.out).1 ⟨f1, f2⟩
  subst hv2
  have HB2 := Lib.hid hb2
  obtain ⟨V1, r1, d1, r1'⟩ := fit_vf2 f1
  obtain ⟨V2, r2, d2, r2'⟩ := fit_vf2 f2
  have HVS := Lib.hid (vF_true V1)
  have HVH := Lib.hid (vF_true V2)
  have RS := Lib.hid (And.intro r1 (And.intro d1 r1'))
  have RH := Lib.hid (And.intro r2 (And.intro d2 r2'))
  have QS := Lib.hid (qv_self (medS rs))
  have QH := Lib.hid (qv_self (medH rs))
  obtain ⟨sn, hsn⟩ : ∃ x, (medS rs).num = x := ⟨_, rfl⟩
  obtain ⟨sd, hsd⟩ : ∃ x : Int, ((medS rs).den : Int) = x := ⟨_, rfl⟩
  obtain ⟨hn', hhn⟩ : ∃ x, (medH rs).num = x := ⟨_, rfl⟩
  obtain ⟨hd', hhd⟩ : ∃ x : Int, ((medH rs).den : Int) = x := ⟨_, rfl⟩
  rw [hsn, hsd, hhn, hhd]
  rw [hsn, hsd] at RS HVS QS
  rw [hhn, hhd] at RH HVH QH
  clear h2 hb2 hsn hsd hhn hhd f1 f2 V1 V2 r1 r2 d1 d2 r1' r2'
  go_upto_region 3 with fail
  refine wp_world (fun W => Blk W w2.heap.size TAL #[.int .i64 sn, .int .i64 sd, .int .i64 hn', .int .i64 hd'] ∧ Below w2.heap.size w2 W) (by exact ⟨Blk.new_ _ _ rfl, by go_grown⟩) ?_
  rintro W3 ⟨b4, hb3⟩
  have B4 := Lib.hid b4
  have HB3 := Lib.hid (bt HB2.out hb3)
  have k4 := zcells b4
  clear b4 hb3 HB2
  go_wp2_with fail
  refine (zvalid_any sn sd _ RS.out.1.1 RS.out.1.2 RS.out.2.2.1 RS.out.2.2.2).mono ?_
  rintro e w6 ⟨v6, rfl, hv6, hb6⟩
  rw [HVS.out] at hv6
  subst hv6
  have k4 := zcells (B4.out.below hb6)
  go_wp2_with fail
  refine (zvalid_any hn' hd' _ RH.out.1.1 RH.out.1.2 RH.out.2.2.1 RH.out.2.2.2).mono ?_
  rintro e w7 ⟨v7, rfl, hv7, hb7⟩
  rw [HVH.out] at hv7
  subst hv7
  clear k4
  go_wp2_with fail
  refine (lives_any _).mono ?_
  rintro e w8 ⟨v8, rfl, hv8, hb8⟩
  subst hv8
  have B8 := Lib.hid (B4.out.below (bt hb6 (bt hb7 hb8)))
  have HB8 := Lib.hid (bt HB3.out (bt hb6 (bt hb7 hb8)))
  clear hb6 hb7 hb8 B4 HB3
  go_wp2_with fail
  refine (zslopes_any A1 m c1 rs w8 (HR1.out.below HB8.out) HV.out).mono ?_
  rintro e w9 ⟨v9, rfl, ho9, hb9⟩
  obtain ⟨b9, o9, c9, el, rfl, he1, he2, he3⟩ := ho9.rw_
  obtain ⟨L, hL⟩ : ∃ L, (prB (slQ rs) rs.length).length = L := ⟨_, rfl⟩
  have HMS : Hid (med (prB (slQ rs) rs.length) = medS rs) := med_perm (pr_perm _ _)
  obtain ⟨ls, hls⟩ : ∃ l, prB (slQ rs) rs.length = l := ⟨_, rfl⟩
  rw [hL] at he3 ⊢
  rw [hls] at he1 hL HMS
  have hLb : L ≤ 1000000 := by
    have h1 : L = (prA (slQ rs) rs.length).length := by rw [← hL, ← hls]; exact (pr_perm _ _).length_eq
    have h2 := prA_len (slQ rs) rs.length
    have h3 : rs.length * rs.length ≤ 64 * 64 := Nat.mul_le_mul (by have := HM.out; omega) (by have := HM.out; omega)
    omega
  have HL := Lib.hid hL
  have HE1 := Lib.hid he1
  have HE2 := Lib.hid he2
  have HE3 := Lib.hid he3
  have hc9 := he3.cap
  have hn9 := he3.le
  have B9 := Lib.hid (B8.out.below hb9)
  have HB9 := Lib.hid (bt HB8.out hb9)
  have HLO : Hid (∀ W, Calls Tryz.prog 20 #[.agg #[.int .i64 sn, .int .i64 sd, .int .i64 hn', .int .i64 hd']] W (Ret (fun v w' => ZL w' v (medS rs) (medH rs) 5) W)) := fun W => by
    have := zlof_any sn sd hn' hd' W RS.out.1 ⟨RS.out.2.1, RS.out.2.2.2⟩ RH.out.1 ⟨RH.out.2.1, RH.out.2.2.2⟩
    rw [QS.out, QH.out] at this
    exact this
  have HQO : Hid (∀ W, Calls Tryz.prog 18 #[.agg #[.int .i64 sn, .int .i64 sd]] W (Ret (fun v w' => ZX w' v (medS rs) 5) W)) := fun W => by
    have := xof_any sn sd W RS.out.1.1 RS.out.1.2 RS.out.2.1 RS.out.2.2.2
    rw [QS.out] at this
    exact this
  clear ho9 he1 he2 he3 hb9 hL hls B8 HB8
  go_wp2_with fail
  go_loopw [7, 8, 9] (fun t7 t8 iv wr => ∃ k : Nat, iv = .int .i64 (k : Int) ∧ k ≤ L ∧ t7 = .int .i64 ((ctL (medS rs) ls k : Nat) : Int) ∧ t8 = .int .i64 ((ctG (medS rs) ls k : Nat) : Int) ∧ Below w9.heap.size w9 wr) (fun _ _ iv _ => L - (intOf iv).toNat)
  case atStart => exact ⟨0, rfl, by omega, rfl, rfl, Below.refl _ _⟩
  case round =>
    obtain ⟨k, rfl, hk, rfl, rfl, hbw⟩ := hrel
    have HBW := Lib.hid hbw
    clear hbw
    have cl := ctL_le (medS rs) ls k
    have cg := ctG_le (medS rs) ls k
    by_cases hkl : k < L
    · have g1 : decide ((k : Int) < (L : Int)) = true := by simp; omega
      obtain ⟨x1, X1, m1, l1, x2, X2, m2, l2, hx, _, hxc⟩ := QZ.at HE2.out HE3.out hkl
      have hq : qAt el k = ls.getD k 0 := by rw [← qAt_map el k (by rw [HE3.out.len]; exact hkl), HE1.out]
      rw [hq] at hx
      have sl := ctL_succ (medS rs) ls k (by rw [HL.out]; exact hkl)
      have sg := ctG_succ (medS rs) ls k (by rw [HL.out]; exact hkl)
      obtain ⟨q, hq'⟩ : ∃ q, ls.getD k 0 = q := ⟨_, rfl⟩
      rw [hq'] at sl sg hx
      obtain ⟨N1, hN1⟩ : ∃ x, ctL (medS rs) ls k = x := ⟨_, rfl⟩
      obtain ⟨N2, hN2⟩ : ∃ x, ctG (medS rs) ls k = x := ⟨_, rfl⟩
      rw [hN1] at sl cl ⊢
      rw [hN2] at sg cg ⊢
      have HX := Lib.hid hx
      have kx := fun w' (hh : Ext wr w') => hxc w' (bt HBW.out hh)
      have k4 := cells4 (B9.out.below HBW.out)
      have hst : Ext wr wr.drew := Ext.drew _
      have pk : (k : Int) < (L : Int) := by omega
      have SL := Lib.hid sl
      have SG := Lib.hid sg
      clear hx hxc hq hq' hN1 hN2 sl sg
      go_upto_region 10 with fail
      clear g1
      refine wp_region_adv 7 [] [(0, true, some 46, none), (1, true, some 47, none), (2, true, some 48, none), (3, true, some 49, none), (4, true, some 50, none), (5, true, some 51, none), (6, false, some 52, none)] (by kernel_rfl) (by kernel_rfl) (by kernel_rfl) (by intro it hit; (repeat (rcases List.mem_cons.1 hit with rfl | hit; (focus (intro o ho ev w; injection ho with ho; subst ho; kernel_rfl)))); cases hit) (fun _ _ _ _ _ => ⟨fun h => h, fun h => h⟩) hst ?_
      repeat (first | (refine wpSeq_pure (v := ?_) rfl ?_ ?_; rotate_left 1; (focus (intro wq_ hSq_; (try dsimp only at hSq_); go_simp; (try with_reducible rfl); done)); (try simp only [Act.put, List.setIfInBounds_toArray, List.set_cons_zero, List.set_cons_succ])) | (refine wpSeq_pureG (v := ?_) rfl rfl ?_ ?_; rotate_left 1; (focus (intro wq_ hSq_; (try dsimp only at hSq_); go_simp; (try with_reducible rfl); done)); (try simp only [Act.put, List.setIfInBounds_toArray, List.set_cons_zero, List.set_cons_succ])) | (refine wpSeq_off rfl rfl ?_; (try simp only [Act.put, List.setIfInBounds_toArray, List.set_cons_zero, List.set_cons_succ])))
      first | refine wpSeq_call rfl (fun u1 g1' s1 K hK => ?_) | refine wpSeq_callG rfl rfl (fun u1 g1' s1 K hK => ?_)
      go_simp
      refine (HQO.out u1).mono ?_
      rintro ex y1 ⟨z1, rfl, X9, b1'⟩
      obtain ⟨d3, D3, n3, c3, d3', D3', n3', c3', rfl⟩ := X9.form
      (try go_wp2_with fail)
      refine hK.out _ _ b1' ?_
      clear hK K
      (try simp only [Act.put, List.setIfInBounds_toArray, List.set_cons_zero, List.set_cons_succ])
      repeat (first | (refine wpSeq_pure (v := ?_) rfl ?_ ?_; rotate_left 1; (focus (intro wq_ hSq_; (try dsimp only at hSq_); go_simp; (try with_reducible rfl); done)); (try simp only [Act.put, List.setIfInBounds_toArray, List.set_cons_zero, List.set_cons_succ])) | (refine wpSeq_pureG (v := ?_) rfl rfl ?_ ?_; rotate_left 1; (focus (intro wq_ hSq_; (try dsimp only at hSq_); go_simp; (try with_reducible rfl); done)); (try simp only [Act.put, List.setIfInBounds_toArray, List.set_cons_zero, List.set_cons_succ])) | (refine wpSeq_off rfl rfl ?_; (try simp only [Act.put, List.setIfInBounds_toArray, List.set_cons_zero, List.set_cons_succ])))
      intro wz gz sz_
      (try simp only [endJ, List.drop_succ_cons, List.drop_zero])
      have X9' := Lib.hid (X9.below gz)
      have SZ := Lib.hid (show Below w9.heap.size w9 wz from bt HBW.out sz_)
      clear X9 b1' g1' s1 gz sz_ kx k4 hst
      go_wp2_with fail
      refine (xcmp_any (HX.out.below SZ.out) X9'.out (by omega)).mono ?_
      rintro ex w10 ⟨v10, rfl, hv10, hb10⟩
      have HN := Lib.hid (bt SZ.out hb10)
      clear hb10
      by_cases q1 : q < medS rs
      · have q2 : ¬ medS rs < q := by grind
        rw [cmpR_l q1] at hv10
        have SL := SL.out
        have SG := SG.out
        rw [if_pos q1] at SL
        rw [if_neg q2] at SG
        subst hv10
        clear q1 q2
        go_wp2
        go_roundw
        case rel => exact ⟨k + 1, by go_num, by omega, by rw [SL]; go_num, by rw [SG]; go_num, HN.out⟩
        case measure => simp [intOf]; omega
      · by_cases q2 : medS rs < q
        · rw [cmpR_g q2] at hv10
          have SL := SL.out
          have SG := SG.out
          rw [if_neg q1] at SL
          rw [if_pos q2] at SG
          subst hv10
          clear q1 q2
          go_wp2
          go_roundw
          case rel => exact ⟨k + 1, by go_num, by omega, by rw [SL]; go_num, by rw [SG]; go_num, HN.out⟩
          case measure => simp [intOf]; omega
        · rw [cmpR_e q1 q2] at hv10
          have SL := SL.out
          have SG := SG.out
          rw [if_neg q1] at SL
          rw [if_neg q2] at SG
          subst hv10
          clear q1 q2
          go_wp2
          go_roundw
          case rel => exact ⟨k + 1, by go_num, by omega, by rw [SL]; go_num, by rw [SG]; go_num, HN.out⟩
          case measure => simp [intOf]; omega
    · have hkl2 : k = L := by omega
      subst hkl2
      have g1 : decide ((k : Int) < (k : Int)) = false := by simp
      have e1 : 2 * ctL (medS rs) ls k ≤ k := by have := ctL_end ls; rw [HMS.out, HL.out] at this; exact this
      have e2 : 2 * ctG (medS rs) ls k ≤ k := by have := ctG_end ls; rw [HMS.out, HL.out] at this; exact this
      obtain ⟨N1, hN1⟩ : ∃ x, ctL (medS rs) ls k = x := ⟨_, rfl⟩
      obtain ⟨N2, hN2⟩ : ∃ x, ctG (medS rs) ls k = x := ⟨_, rfl⟩
      rw [hN1] at e1 cl ⊢
      rw [hN2] at e2 cg ⊢
      have wq1 : IntKind.i64.wrap (2 * (N1 : Int)) = 2 * (N1 : Int) := IntWalk.i64_in _ (by omega)
      have wq2 : IntKind.i64.wrap (2 * (N2 : Int)) = 2 * (N2 : Int) := IntWalk.i64_in _ (by omega)
      have dq1 : decide ((k : Int) < 2 * (N1 : Int)) = false := by simp; omega
      have dq2 : decide ((k : Int) < 2 * (N2 : Int)) = false := by simp; omega
      have B10 := Lib.hid (B9.out.below HBW.out)
      have HB10 := Lib.hid (bt HB9.out HBW.out)
      clear hN1 hN2 HQO HE1 HE2 HE3 HMS HL HBW B9 HB9 hkl
      obtain ⟨W10, hW10⟩ : ∃ W, W = wr := ⟨_, rfl⟩
      subst hW10
      go_wp2_with fail
      clear g1 wq1 wq2 dq1 dq2 e1 e2 cl cg
      go_loopw [7, 8, 11] (fun t7 t8 iv wr => ∃ j : Nat, iv = .int .i64 (j : Int) ∧ j ≤ m ∧ t7 = .int .i64 ((ctL (medH rs) (shL rs (medS rs) m) j : Nat) : Int) ∧ t8 = .int .i64 ((ctG (medH rs) (shL rs (medS rs) m) j : Nat) : Int) ∧ Below W10.heap.size W10 wr) (fun _ _ iv _ => m - (intOf iv).toNat)
      case atStart => exact ⟨0, rfl, by omega, rfl, rfl, Below.refl _ _⟩
      case round =>
        obtain ⟨j, rfl, hj, rfl, rfl, hbw⟩ := hrel
        have HBW := Lib.hid hbw
        clear hbw
        have hsl : (shL rs (medS rs) m).length = m := by simp [shL]
        have cl := ctL_le (medH rs) (shL rs (medS rs) m) j
        have cg := ctG_le (medH rs) (shL rs (medS rs) m) j
        by_cases hjm : j < m
        · have g1 : decide ((j : Int) < (m : Int)) = true := by simp; omega
          obtain ⟨b, o, rfl, hcell⟩ := (HR1.out.below (bt HB10.out HBW.out)).at_ (by omega)
          obtain ⟨ck1, ck2⟩ := hcell j hjm
          have hsg : (shL rs (medS rs) m).getD j 0 = (ofs rs j : Rat) - medS rs * (tm rs j : Rat) := by
            unfold shL
            simp [List.getD, hjm, yq, tq]
          have rj : rngI (tm rs j) ∧ rngI (ofs rs j) := by
            have := HV.out.tm_bd (i := j) (by rw [HM.out]; exact hjm)
            unfold rngI; omega
          have sl := ctL_succ (medH rs) (shL rs (medS rs) m) j (by rw [hsl]; exact hjm)
          have sg := ctG_succ (medH rs) (shL rs (medS rs) m) j (by rw [hsl]; exact hjm)
          rw [hsg] at sl sg
          obtain ⟨x1, hx1⟩ : ∃ x, tm rs j = x := ⟨_, rfl⟩
          obtain ⟨x2, hx2⟩ : ∃ x, ofs rs j = x := ⟨_, rfl⟩
          have ck1 : wr.cell? ⟨b, o + j * 2, none⟩ = some (.int .i64 x1) := by rw [← hx1]; exact ck1
          have ck2 : wr.cell? ⟨b, o + j * 2 + 1, none⟩ = some (.int .i64 x2) := by rw [← hx2]; exact ck2
          rw [hx1, hx2] at sl sg rj
          have z0 : ((0 : Int) : Rat) = 0 := rfl
          have z1 : (x2 : Rat) - medS rs * (x1 : Rat) < medH rs ↔ erQ (medS rs) (medH rs) x1 x2 < ((0 : Int) : Rat) := by unfold erQ; rw [z0]; grind
          have z2 : medH rs < (x2 : Rat) - medS rs * (x1 : Rat) ↔ ((0 : Int) : Rat) < erQ (medS rs) (medH rs) x1 x2 := by unfold erQ; rw [z0]; grind
          simp only [z1] at sl
          simp only [z2] at sg
          obtain ⟨q, hq'⟩ : ∃ q, erQ (medS rs) (medH rs) x1 x2 = q := ⟨_, rfl⟩
          have HQE := Lib.hid hq'
          rw [hq'] at sl sg
          obtain ⟨N1, hN1⟩ : ∃ x, ctL (medH rs) (shL rs (medS rs) m) j = x := ⟨_, rfl⟩
          obtain ⟨N2, hN2⟩ : ∃ x, ctG (medH rs) (shL rs (medS rs) m) j = x := ⟨_, rfl⟩
          rw [hN1] at sl cl ⊢
          rw [hN2] at sg cg ⊢
          have kr := fun w' (hh : Ext wr w') => (show w'.cell? ⟨b, o + j * 2, none⟩ = some (.int .i64 x1) ∧ w'.cell? ⟨b, o + j * 2 + 1, none⟩ = some (.int .i64 x2) from ⟨Ext.cell hh ck1, Ext.cell hh ck2⟩)
          have k4 := cells4 (B10.out.below HBW.out)
          have hst : Ext wr wr.drew := Ext.drew _
          have pk : (j : Int) < (m : Int) := by omega
          have SL := Lib.hid sl
          have SG := Lib.hid sg
          have RJ := Lib.hid rj
          clear hcell hsg hq' hN1 hN2 sl sg ck1 ck2 z0 z1 z2 hx1 hx2 rj hsl
          go_upto_region 21 with fail
          clear g1
          refine wp_region_adv 6 [] [(0, true, some 80, none), (2, true, some 82, none), (3, true, some 83, none), (4, true, some 84, none), (5, true, some 85, none), (1, false, some 81, none)] (by kernel_rfl) (by kernel_rfl) (by kernel_rfl) (by intro it hit; (repeat (rcases List.mem_cons.1 hit with rfl | hit; (focus (intro o ho ev w; injection ho with ho; subst ho; kernel_rfl)))); cases hit) (fun _ _ _ _ _ => ⟨fun h => h, fun h => h⟩) hst ?_
          repeat (first | (refine wpSeq_pure (v := ?_) rfl ?_ ?_; rotate_left 1; (focus (intro wq_ hSq_; (try dsimp only at hSq_); go_simp; (try with_reducible rfl); done)); (try simp only [Act.put, List.setIfInBounds_toArray, List.set_cons_zero, List.set_cons_succ])) | (refine wpSeq_pureG (v := ?_) rfl rfl ?_ ?_; rotate_left 1; (focus (intro wq_ hSq_; (try dsimp only at hSq_); go_simp; (try with_reducible rfl); done)); (try simp only [Act.put, List.setIfInBounds_toArray, List.set_cons_zero, List.set_cons_succ])) | (refine wpSeq_off rfl rfl ?_; (try simp only [Act.put, List.setIfInBounds_toArray, List.set_cons_zero, List.set_cons_succ])))
          first | refine wpSeq_call rfl (fun u1 g1' s1 K hK => ?_) | refine wpSeq_callG rfl rfl (fun u1 g1' s1 K hK => ?_)
          go_simp
          refine (HLO.out u1).mono ?_
          rintro ex y1 ⟨zv, rfl, X9, b1'⟩
          (try go_wp2_with fail)
          refine hK.out _ _ b1' ?_
          clear hK K
          (try simp only [Act.put, List.setIfInBounds_toArray, List.set_cons_zero, List.set_cons_succ])
          repeat (first | (refine wpSeq_pure (v := ?_) rfl ?_ ?_; rotate_left 1; (focus (intro wq_ hSq_; (try dsimp only at hSq_); go_simp; (try with_reducible rfl); done)); (try simp only [Act.put, List.setIfInBounds_toArray, List.set_cons_zero, List.set_cons_succ])) | (refine wpSeq_pureG (v := ?_) rfl rfl ?_ ?_; rotate_left 1; (focus (intro wq_ hSq_; (try dsimp only at hSq_); go_simp; (try with_reducible rfl); done)); (try simp only [Act.put, List.setIfInBounds_toArray, List.set_cons_zero, List.set_cons_succ])) | (refine wpSeq_off rfl rfl ?_; (try simp only [Act.put, List.setIfInBounds_toArray, List.set_cons_zero, List.set_cons_succ])))
          intro wz gz sz_
          (try simp only [endJ, List.drop_succ_cons, List.drop_zero])
          have X9' := Lib.hid (X9.below gz)
          have SZ := Lib.hid (show Below W10.heap.size W10 wz from bt HBW.out sz_)
          clear X9 b1' g1' s1 gz sz_ kr k4 hst
          go_wp2_with fail
          refine (zerror_any _ (medS rs) (medH rs) 5 x1 x2 wz X9'.out (by omega) RJ.out.1 RJ.out.2).mono ?_
          rintro ex w11 ⟨v11, rfl, hz11, hb11⟩
          rw [HQE.out] at hz11
          have x11 := hz11.zx
          go_wp2_with fail
          refine (xwhole_any 0 w11 (by omega) (by omega)).mono ?_
          rintro ex w12 ⟨v12, rfl, x12, hb12⟩
          go_wp2_with fail
          refine (xcmp_any (x11.below hb12) x12 (by omega)).mono ?_
          rintro ex w13 ⟨v13, rfl, hv10, hb13⟩
          have HN := Lib.hid (bt SZ.out (bt hb11 (bt hb12 hb13)))
          clear hb11 hb12 hb13 x11 x12 hz11 SZ X9'
          by_cases q1 : q < ((0 : Int) : Rat)
          · have q2 : ¬ ((0 : Int) : Rat) < q := by grind
            rw [cmpR_l q1] at hv10
            have SL := SL.out
            have SG := SG.out
            rw [if_pos q1] at SL
            rw [if_neg q2] at SG
            subst hv10
            clear q1 q2
            go_wp2
            go_roundw
            case rel => exact ⟨j + 1, by go_num, by omega, by rw [SL]; go_num, by rw [SG]; go_num, HN.out⟩
            case measure => simp [intOf]; omega
          · by_cases q2 : ((0 : Int) : Rat) < q
            · rw [cmpR_g q2] at hv10
              have SL := SL.out
              have SG := SG.out
              rw [if_neg q1] at SL
              rw [if_pos q2] at SG
              subst hv10
              clear q1 q2
              go_wp2
              go_roundw
              case rel => exact ⟨j + 1, by go_num, by omega, by rw [SL]; go_num, by rw [SG]; go_num, HN.out⟩
              case measure => simp [intOf]; omega
            · rw [cmpR_e q1 q2] at hv10
              have SL := SL.out
              have SG := SG.out
              rw [if_neg q1] at SL
              rw [if_neg q2] at SG
              subst hv10
              clear q1 q2
              go_wp2
              go_roundw
              case rel => exact ⟨j + 1, by go_num, by omega, by rw [SL]; go_num, by rw [SG]; go_num, HN.out⟩
              case measure => simp [intOf]; omega
        · have hjm2 : j = m := by omega
          subst hjm2
          have g1 : decide ((j : Int) < (j : Int)) = false := by simp
          have hmh : med (shL rs (medS rs) j) = medH rs := by unfold medH; rw [HM.out]
          have e1 : 2 * ctL (medH rs) (shL rs (medS rs) j) j ≤ j := by have := ctL_end (shL rs (medS rs) j); rw [hmh, hsl] at this; exact this
          have e2 : 2 * ctG (medH rs) (shL rs (medS rs) j) j ≤ j := by have := ctG_end (shL rs (medS rs) j); rw [hmh, hsl] at this; exact this
          obtain ⟨N1, hN1⟩ : ∃ x, ctL (medH rs) (shL rs (medS rs) j) j = x := ⟨_, rfl⟩
          obtain ⟨N2, hN2⟩ : ∃ x, ctG (medH rs) (shL rs (medS rs) j) j = x := ⟨_, rfl⟩
          rw [hN1] at e1 cl ⊢
          rw [hN2] at e2 cg ⊢
          have wq1 : IntKind.i64.wrap (2 * (N1 : Int)) = 2 * (N1 : Int) := IntWalk.i64_in _ (by omega)
          have wq2 : IntKind.i64.wrap (2 * (N2 : Int)) = 2 * (N2 : Int) := IntWalk.i64_in _ (by omega)
          have dq1 : decide (2 * (N1 : Int) ≤ (j : Int)) = true := by simp; omega
          have dq2 : decide (2 * (N2 : Int) ≤ (j : Int)) = true := by simp; omega
          have HBE := Lib.hid (bt HB1.out (bt HB10.out HBW.out))
          clear hN1 hN2 hsl hmh hjm
          go_wp2
          go_returns
          exact ⟨_, rfl, rfl, HBE.out⟩
end Go.Proofs.Tb
