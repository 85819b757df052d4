/- ProbeOptimal returns true. -/
import Derived.Test.YtcjddfhhofoidaaDoorOpc
import Derived.Test.YtcjddfhhofoidaaDoorOpb
import Derived.Test.YtcjddfhhofoidaaDoorGd
import Derived.Test.YtcjddfhhofoidaaDoorRc
set_option linter.unusedVariables false
set_option linter.unusedSimpArgs false
namespace Go.Proofs.Tb
open Go.RowKit
attribute [local go_sem] cell_set_same

theorem upL_rng (n : Nat) : ∀ x ∈ upL n, 0 ≤ x ∧ x < (n : Int) := fun x hx => upL_mem'.1 hx
set_option maxHeartbeats 6400000 in
set_option maxRecDepth 100000 in
theorem optimal_any (A A' A3 : Option Addr) (n c m d q d3 : Nat) (ws : List Int) (ts bs : List Tt) (w : World) (h : Il w A n c ws) (h' : Ts w A' m d ts) (h3 : Ts w A3 q d3 bs) (ht : Tab w) :
    Calls Tryd.prog 4 #[.agg #[.slice A n c, .slice A' m d], .slice A3 q d3] w (Ret (fun v _ => v = .bool true) w) := by
  have H := Lib.hid h
  have H' := Lib.hid h'
  have H3 := Lib.hid h3
  have HT := Lib.hid ht
  clear h h' h3 ht
  go_enter Tryd.func4, Tryd.ntmps4
  go_wp2_with fail
  have x0 : Ext w (w.alloc (.cells #[.slice A n c, .slice A' m d] TCA)) := Ext.allocR _ _
  refine (few_any A A' n c m d ws ts 10 16 (by omega) (by omega) _ (H.out.below x0) (H'.out.below x0)).mono ?_
  rintro e w0 ⟨v1, rfl, ⟨vf, vt, rfl, hf, ht⟩, hb0⟩
  obtain ⟨A1, n1, c1, hvf, il1⟩ := hf.il
  subst hvf
  obtain ⟨A2, n2, c2, hvt, sl2⟩ := ht.slp2
  subst hvt
  have ts2 := sl2.ts
  obtain ⟨wf, hwf⟩ : ∃ x, fewF ws 10 = x := ⟨_, rfl⟩
  obtain ⟨tf, htf⟩ : ∃ x, fewT ts 16 = x := ⟨_, rfl⟩
  rw [hwf] at il1
  rw [htf] at ts2
  have l1 := il1.le
  have l1' := il1.cap
  have l2 := ts2.le
  have l2' := ts2.cap
  have HL1 := Lib.hid il1.len
  have HL2 := Lib.hid ts2.len
  have J1 := Lib.hid il1
  have J2 := Lib.hid ts2
  have HB0 := Lib.hid (bt x0 hb0)
  clear hf ht sl2 il1 ts2 hwf htf x0 hb0
  go_wp2_with fail
  refine (brief_any A3 q d3 bs w0 (H3.out.below HB0.out)).mono ?_
  rintro e w1 ⟨v2, rfl, hq2, hb2⟩
  obtain ⟨A4, n4, c4, hv4, sl4⟩ := hq2.slp2
  subst hv4
  obtain ⟨bl, hbl⟩ : ∃ x, brfL bs = x := ⟨_, rfl⟩
  rw [hbl] at sl4
  have l4 := sl4.le
  have l4' := sl4.cap
  have hn4 : n4 ≤ 40 := by rw [← sl4.len, ← hbl]; exact brfL_len bs
  have T4 := Lib.hid sl4.ts
  have I1 := Lib.hid (J1.out.below hb2)
  have T2 := Lib.hid (J2.out.below hb2)
  have HB1 := Lib.hid (bt HB0.out hb2)
  clear hq2 hb2 sl4 J1 J2 hbl
  go_upto_region 2 with fail
  have b3 : Blk (w1.alloc (.cells #[.slice A1 n1 c1, .slice A2 n2 c2] TCA)) w1.heap.size TCA #[.slice A1 n1 c1, .slice A2 n2 c2] := Blk.new_ _ _ rfl
  have x3 : Ext w1 (w1.alloc (.cells #[.slice A1 n1 c1, .slice A2 n2 c2] TCA)) := Ext.allocR _ _
  refine wp_world (fun W3 => Blk W3 w1.heap.size TCA #[.slice A1 n1 c1, .slice A2 n2 c2] ∧ Ext w1 W3) ⟨b3, x3⟩ ?_
  clear b3 x3
  rintro W3 ⟨b3, x3⟩
  obtain ⟨g, hg⟩ : ∃ g, w1.heap.size = g := ⟨_, rfl⟩
  rw [hg] at b3 ⊢
  have B3 := Lib.hid b3
  have X3 := Lib.hid x3
  have c3 := b3.cells
  simp only [cellsAre, Nat.zero_add, Nat.reduceAdd, and_true] at c3
  clear b3 x3 hg
  go_wp2_with fail
  refine (rbest_any A1 A2 n1 c1 n2 c2 wf tf W3 (I1.out.below X3.out) (T2.out.below X3.out) (HT.out.below (bt HB1.out X3.out))).mono ?_
  rintro e w4 ⟨v4, rfl, hv4, hb4⟩
  have X4 := Lib.hid (bt X3.out hb4)
  have B4 := Lib.hid (B3.out.below hb4)
  have k4 := B4.out.cells
  simp only [cellsAre, Nat.zero_add, Nat.reduceAdd, and_true] at k4
  clear c3 B3
  by_cases hc : Cv wf tf
  rotate_left
  · have hv4' := hv4.2 hc
    subst hv4'
    have HC := Lib.hid hc
    clear hv4 hc hb4
    go_wp2_with fail
    refine (valid_any A1 A2 n1 c1 n2 c2 wf tf w4 (I1.out.below X4.out) (T2.out.below X4.out)).mono ?_
    rintro e w5 ⟨z5, rfl, hz5, b5⟩
    rw [cvB_f HC.out] at hz5
    subst hz5
    have X5 := Lib.hid (bt X4.out b5)
    clear b5 k4
    go_wp2_with fail
    refine (lives_any w5 (HT.out.below (bt HB1.out X5.out))).mono ?_
    rintro e w6 ⟨z6, rfl, rfl, b6⟩
    have X6 := Lib.hid (bt (bt HB1.out X5.out) b6)
    clear b6
    go_wp2
    go_returns
    exact ⟨_, rfl, rfl, X6.out⟩
  · obtain ⟨A7, n7, c7, hv7, sp7⟩ := hv4.1 hc
    subst hv7
    have HC := Lib.hid hc
    have hn1 : n1 ≤ 10 := by rw [← HL1.out]; exact hc.len10
    have hn2 : n2 ≤ 16 := by rw [← HL2.out]; exact hc.1.2.2
    obtain ⟨pl, hpl⟩ : ∃ x, plL wf tf (allS wf) = x := ⟨_, rfl⟩
    obtain ⟨P, hP⟩ : ∃ x, pC wf tf (allS wf) = x := ⟨_, rfl⟩
    rw [hP]
    rw [hpl] at sp7
    have hbr := best_read hc (f := n7) (by rw [hpl, sp7.len]; exact Nat.le_refl _)
    rw [hpl, hP, HL1.out] at hbr
    obtain ⟨es, hr, hcs, hln, hmm⟩ := hbr
    have hn7 : n7 ≤ 900 := by
      have h0 : allS wf ≠ 0 := by
        have h1 := Nat.pow_le_pow_right (n := 2) (by omega) hc.1.1
        unfold allS; omega
      have h1 := plL_short hc (allS wf) (allS_lt wf) h0
      have h2 := mems_len wf.length (allS wf)
      rw [hpl, sp7.len] at h1
      have h3 := hc.len10
      omega
    have HP := Lib.hid hP
    have HR := Lib.hid hr
    have HCE := Lib.hid hcs
    have HLN := Lib.hid hln
    have HMM := Lib.hid hmm
    have SP7 := Lib.hid sp7
    have HWB := Lib.hid (fun j => okF_all hc.2.1 j)
    have HTB := Lib.hid (fun j => cost_bd hc j)
    have HEO := Lib.hid (show ∀ e ∈ es, EOk n1 n2 e by
      have h1 := rd_ok (n := n1) n7 (upL n1) [] pl [] es (upL_rng n1) (by rw [upL_len]; omega) (fun k hk => by cases hk) (by simp; omega) hr
      rw [HL2.out] at h1
      exact h1)
    clear hv4 hc hb4 hP hpl sp7 hr hcs hln hmm
    go_wp2_with fail
    refine (valid_any A1 A2 n1 c1 n2 c2 wf tf w4 (I1.out.below X4.out) (T2.out.below X4.out)).mono ?_
    rintro e w5 ⟨z5, rfl, hz5, b5⟩
    rw [cvB_t HC.out] at hz5
    subst hz5
    have X5 := Lib.hid (bt X4.out b5)
    have B5 := Lib.hid (B4.out.below b5)
    have SP7 := Lib.hid (SP7.out.below b5)
    have k5 := B5.out.cells
    simp only [cellsAre, Nat.zero_add, Nat.reduceAdd, and_true] at k5
    clear b5 k4 B4
    go_wp2_with fail
    refine (zends_any A1 A2 A7 n1 c1 n2 c2 n7 c7 wf tf pl w5 (I1.out.below X5.out) (T2.out.below X5.out) SP7.out.ts (by omega) (by omega) hn7).mono ?_
    rintro e w6 ⟨v6, rfl, ⟨A8, n8, c8, es', rfl, hse, hn8, hes⟩, hb6⟩
    obtain rfl := hes es HR.out
    rw [show okR (rdF tf n7 (upL n1) [] pl) = true by rw [HR.out]; rfl]
    have X6 := Lib.hid (bt X5.out hb6)
    have B6 := Lib.hid (B5.out.below hb6)
    have E6 := Lib.hid hse
    have l8 := hse.le
    have l8' := hse.cap
    have k6 := B6.out.cells
    simp only [cellsAre, Nat.zero_add, Nat.reduceAdd, and_true] at k6
    clear k5 B5 hse hes hb6
    go_wp2_with fail
    refine (zcost_any A1 A2 A8 n1 c1 n2 c2 n8 c8 wf tf es' w6 (I1.out.below X6.out) (T2.out.below X6.out) E6.out HWB.out HTB.out HEO.out (by omega)).mono ?_
    rintro e w7 ⟨v7, rfl, rfl, hb7⟩
    rw [HCE.out]
    have X7 := Lib.hid (bt X6.out hb7)
    have B7 := Lib.hid (B6.out.below hb7)
    have E7 := Lib.hid (E6.out.below hb7)
    clear k6 B6 E6 hb7
    go_wp2_with fail
    refine (lives_any w7 (HT.out.below (bt HB1.out X7.out))).mono ?_
    rintro e w8 ⟨z8, rfl, rfl, b8⟩
    have X8 := Lib.hid (bt X7.out b8)
    have B8 := Lib.hid (B7.out.below b8)
    have E8 := Lib.hid (E7.out.below b8)
    have k8 := B8.out.cells
    simp only [cellsAre, Nat.zero_add, Nat.reduceAdd, and_true] at k8
    clear b8 B7 E7
    go_wp2_with fail
    refine (zapart_any A1 A2 n1 c1 n2 c2 wf tf w8 (I1.out.below X8.out) (T2.out.below X8.out) (by omega) (by omega)).mono ?_
    rintro e w9 ⟨v9, rfl, ⟨b1, hs9⟩, hb9⟩
    obtain ⟨A9, c9, rfl, gs9⟩ := hs9.gs
    obtain ⟨cs, hcs⟩ : ∃ cs, clsT n1 tf = cs := ⟨_, rfl⟩
    have hlq := HLN.out
    rw [hcs, List.length_map, E8.out.len] at hlq
    have hmm := HMM.out
    rw [hcs] at gs9 hmm ⊢
    rw [← hlq] at gs9 ⊢
    have l9 := gs9.le
    have l9' := gs9.cap
    have X9 := Lib.hid (bt X8.out hb9)
    have B9 := Lib.hid (B8.out.below hb9)
    have E9 := Lib.hid (E8.out.below hb9)
    have G9 := Lib.hid gs9
    have HMM := Lib.hid hmm
    have HLQ := Lib.hid hlq
    clear hs9 gs9 hb9 k8 B8 E8 hcs hmm hlq
    go_wp2_with fail
    go_loopw [13] (fun i wr => ∃ k : Nat, k ≤ n8 ∧ i = .int .i64 (k : Int) ∧ Ext w9 wr) (fun i _ => n8 - (intOf i).toNat)
    case atStart => exact ⟨0, by omega, rfl, Ext.refl _⟩
    case round =>
      obtain ⟨k, hk, rfl, hx⟩ := hrel
      have HX := Lib.hid hx
      by_cases hkn : k < n8
      · have pk : (k : Int) < (n8 : Int) := by omega
        obtain ⟨bE, oE, rfl, hcE⟩ := (E9.out.below hx).at_ (by omega)
        obtain ⟨Af, nf, cf, Aw, nw, cw, ke1, ke2, if1, if2⟩ := hcE k hkn
        obtain ⟨e1, he1⟩ : ∃ e1, (es'.getD k ([], [])).1 = e1 := ⟨_, rfl⟩
        rw [he1] at if1
        have HME := Lib.hid (show e1 ∈ cs by
          rw [← he1]
          exact HMM.out _ (List.mem_map.2 ⟨_, getD_in (by rw [E9.out.len]; exact hkn), rfl⟩))
        have HIF := Lib.hid if1
        have HKE := Lib.hid ke1
        obtain ⟨wo, rfl⟩ : ∃ wo, wo = wr := ⟨_, rfl⟩
        clear hcE he1 if1 if2 ke1 ke2 hx
        go_wp2_with fail
        go_loopw [14, 15] (fun s i wr => ∃ j : Nat, j ≤ n8 ∧ i = .int .i64 (j : Int) ∧ s = .bool (decide (e1 ∈ cs.take j)) ∧ Ext wo wr) (fun _ i _ => n8 - (intOf i).toNat)
        case atStart => exact ⟨0, by omega, rfl, by simp, Ext.refl _⟩
        case round =>
          obtain ⟨j, hj, rfl, rfl, hx⟩ := hrel
          have HX2 := Lib.hid hx
          by_cases hjn : j < n8
          · have pj : (j : Int) < (n8 : Int) := by omega
            obtain ⟨bG, oG, rfl, hcG⟩ := (G9.out.below (bt HX.out hx)).at_ (by omega)
            obtain ⟨A6, n6, c6, kg, ig⟩ := hcG j hjn
            obtain ⟨cl, hcl⟩ : ∃ cl, cs.getD j [] = cl := ⟨_, rfl⟩
            rw [hcl] at ig
            have hjl : j < cs.length := by rw [← HLQ.out]; exact hjn
            have HTK := Lib.hid (show cs.take (j + 1) = cs.take j ++ [cl] by rw [List.take_succ_eq_append_getElem hjl, ← hcl]; simp [List.getD, hjl])
            have IG := Lib.hid ig
            have kk1 := fun w' (hh : Ext wr w') => (show w'.cell? ⟨bE, oE + k * 2, none⟩ = some (.slice Af nf cf) from Ext.cell (bt HX2.out hh) HKE.out)
            have kk2 := fun w' (hh : Ext wr w') => (show w'.cell? ⟨bG, oG + j, none⟩ = some (.slice A6 n6 c6) from Ext.cell hh kg)
            have hst : Ext wr wr.drew := Ext.drew _
            obtain ⟨fd, hfd⟩ : ∃ fd, decide (e1 ∈ cs.take j) = fd := ⟨_, rfl⟩
            rw [hfd]
            have HFD := Lib.hid hfd
            clear hcG hcl ig kg hx hjl hfd
            go_upto_region 18 with fail
            cases fd with
            | true =>
              have HN := Lib.hid (show decide (e1 ∈ cs.take (j + 1)) = true by
                have h1 := HFD.out
                rw [decide_eq_true_eq] at h1 ⊢
                rw [HTK.out]
                exact List.mem_append_left _ h1)
              refine wp_region_adv 11 [] [(0, true, some 90, none), (1, true, some 91, none), (2, true, some 92, some (91, false)), (3, true, some 93, some (91, false)), (4, true, some 94, some (91, false)), (5, true, some 95, some (91, false)), (6, true, some 96, some (91, false)), (7, true, some 97, some (91, false)), (8, true, some 98, some (91, false)), (9, true, some 99, some (91, false)), (10, true, some 100, some (91, false))] (by kernel_rfl) (by kernel_rfl) (by kernel_rfl) (by intro it hit; (repeat (rcases List.mem_cons.1 hit with rfl | hit; (focus (intro o ho ev w; injection ho with ho; subst ho; kernel_rfl)))); cases hit) (fun _ _ _ _ _ => ⟨fun h => h, fun h => h⟩) hst ?_
              repeat (first | (refine wpSeq_pure (v := ?_) rfl ?_ ?_; rotate_left 1; (focus (intro wq_ hSq_; (try dsimp only at hSq_); go_simp; (try with_reducible rfl); done)); (try simp only [Act.put, List.setIfInBounds_toArray, List.set_cons_zero, List.set_cons_succ])) | (refine wpSeq_pureG (v := ?_) rfl rfl ?_ ?_; rotate_left 1; (focus (intro wq_ hSq_; (try dsimp only at hSq_); go_simp; (try with_reducible rfl); done)); (try simp only [Act.put, List.setIfInBounds_toArray, List.set_cons_zero, List.set_cons_succ])) | (refine wpSeq_off rfl rfl ?_; (try simp only [Act.put, List.setIfInBounds_toArray, List.set_cons_zero, List.set_cons_succ])))
              intro wz gz sz_
              (try simp only [endJ, List.drop_succ_cons, List.drop_zero])
              have XZ := Lib.hid (bt HX2.out sz_)
              clear hst kk1 kk2 gz sz_
              go_wp2
              go_roundw
              case rel => exact ⟨j + 1, by omega, by go_num, by rw [HN.out], XZ.out⟩
              case measure => simp [intOf]; omega
            | false =>
              refine wp_region_adv 11 [] [(0, true, some 90, none), (1, true, some 91, none), (2, true, some 92, some (91, false)), (3, true, some 93, some (91, false)), (4, true, some 94, some (91, false)), (5, true, some 95, some (91, false)), (6, true, some 96, some (91, false)), (7, true, some 97, some (91, false)), (8, true, some 98, some (91, false)), (9, true, some 99, some (91, false)), (10, true, some 100, some (91, false))] (by kernel_rfl) (by kernel_rfl) (by kernel_rfl) (by intro it hit; (repeat (rcases List.mem_cons.1 hit with rfl | hit; (focus (intro o ho ev w; injection ho with ho; subst ho; kernel_rfl)))); cases hit) (fun _ _ _ _ _ => ⟨fun h => h, fun h => h⟩) hst ?_
              repeat (first | (refine wpSeq_pure (v := ?_) rfl ?_ ?_; rotate_left 1; (focus (intro wq_ hSq_; (try dsimp only at hSq_); go_simp; (try with_reducible rfl); done)); (try simp only [Act.put, List.setIfInBounds_toArray, List.set_cons_zero, List.set_cons_succ])) | (refine wpSeq_pureG (v := ?_) rfl rfl ?_ ?_; rotate_left 1; (focus (intro wq_ hSq_; (try dsimp only at hSq_); go_simp; (try with_reducible rfl); done)); (try simp only [Act.put, List.setIfInBounds_toArray, List.set_cons_zero, List.set_cons_succ])) | (refine wpSeq_off rfl rfl ?_; (try simp only [Act.put, List.setIfInBounds_toArray, List.set_cons_zero, List.set_cons_succ])))
              intro wz gz sz_
              (try simp only [endJ, List.drop_succ_cons, List.drop_zero])
              go_wp2_with fail
              refine (lsame_any Af A6 nf cf n6 c6 e1 cl wz (HIF.out.below (bt HX2.out sz_)) (IG.out.below sz_)).mono ?_
              rintro e z1 ⟨y1, rfl, rfl, b1⟩
              have XZ := Lib.hid (bt HX2.out (bt sz_ b1))
              have HN := Lib.hid (show decide (e1 ∈ cs.take (j + 1)) = sameB e1 cl by
                have h1 := HFD.out
                rw [decide_eq_false_iff_not] at h1
                rw [HTK.out]
                unfold sameB
                rw [decide_eq_decide, List.mem_append, List.mem_singleton]
                exact ⟨fun h => h.resolve_left h1, Or.inr⟩)
              obtain ⟨sb, hsb⟩ : ∃ sb, sameB e1 cl = sb := ⟨_, rfl⟩
              rw [hsb] at HN ⊢
              clear hst kk1 kk2 gz sz_ b1 hsb
              go_wp2
              go_roundw
              case rel => exact ⟨j + 1, by omega, by go_num, by rw [HN.out], XZ.out⟩
              case measure => simp [intOf]; omega
          · obtain rfl : j = n8 := by omega
            rw [show decide (e1 ∈ cs.take j) = true by
              rw [decide_eq_true_eq, List.take_of_length_le (by rw [← HLQ.out]; exact Nat.le_refl _)]
              exact HME.out]
            clear hx
            go_wp2
            go_roundw
            case rel => exact ⟨k + 1, by omega, by go_num, bt HX.out HX2.out⟩
            case measure => simp [intOf]; omega
      · obtain rfl : k = n8 := by omega
        have XR := Lib.hid (bt X9.out hx)
        have kr := (B9.out.below hx).cells
        simp only [cellsAre, Nat.zero_add, Nat.reduceAdd, and_true] at kr
        clear hx
        go_wp2_with fail
        refine (zends_any A1 A2 A4 n1 c1 n2 c2 n4 c4 wf tf bl wr (I1.out.below XR.out) (T2.out.below XR.out) (T4.out.below XR.out) (by omega) (by omega) (by omega)).mono ?_
        rintro e wa ⟨va, rfl, ⟨Aa, na, ca, eo, rfl, hse, hna, heo⟩, hba⟩
        have XA := Lib.hid (bt XR.out hba)
        have EA := Lib.hid hse
        have la := hse.le
        have la' := hse.cap
        have ka := (B9.out.below (bt HX.out hba)).cells
        simp only [cellsAre, Nat.zero_add, Nat.reduceAdd, and_true] at ka
        obtain ⟨ro, hro⟩ : ∃ ro, okR (rdF tf n4 (upL n1) [] bl) = ro := ⟨_, rfl⟩
        rw [hro]
        cases ro with
        | false =>
          have XE := Lib.hid (bt HB1.out XA.out)
          clear hse heo hba hro kr
          go_wp2
          go_returns
          exact ⟨_, rfl, rfl, XE.out⟩
        | true =>
          obtain ⟨eo', hre⟩ := okR_ex hro
          obtain rfl := heo eo' hre
          have HEA := Lib.hid (show ∀ e ∈ eo, EOk n1 n2 e by
            have h1 := rd_ok (n := n1) n4 (upL n1) [] bl [] eo (upL_rng n1) (by rw [upL_len]; omega) (fun k hk => by cases hk) (by simp; omega) hre
            rw [HL2.out] at h1
            exact h1)
          have hge : P ≤ csE wf tf eo := by
            rw [← HP.out]
            rw [← HL1.out] at hre
            exact any_read HC.out hre
          obtain ⟨P2, hP2⟩ : ∃ P2, csE wf tf eo = P2 := ⟨_, rfl⟩
          have HP2 := Lib.hid hP2
          rw [hP2] at hge
          have hdl : decide (P ≤ P2) = true := by simpa using hge
          clear hse heo hba hro kr hre hP2
          go_wp2_with fail
          refine (zcost_any A1 A2 Aa n1 c1 n2 c2 na ca wf tf eo wa (I1.out.below XA.out) (T2.out.below XA.out) EA.out HWB.out HTB.out HEA.out (by omega)).mono ?_
          rintro e wb ⟨vb, rfl, rfl, hbb⟩
          rw [HP2.out]
          have XE := Lib.hid (bt HB1.out (bt XA.out hbb))
          clear hbb ka
          go_wp2
          go_returns
          exact ⟨_, rfl, rfl, XE.out⟩
end Go.Proofs.Tb
