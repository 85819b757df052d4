/- Contract of probe.solve: the block of the cheapest plans of all sets. -/
import Derived.Test.YtcjddfhhofoidaaDoorPe
set_option linter.unusedVariables false
set_option linter.unusedSimpArgs false
namespace Go.Proofs.Tb
open Go.RowKit
attribute [local go_sem] cell_set_same

theorem wrap3 (a b c : Int) (h1 : 0 ≤ a ∧ a ≤ 1000000000000) (h2 : 0 ≤ b ∧ b ≤ 1000000000000) (h3 : 0 ≤ c ∧ c ≤ 1000000000000) : wrap64 (wrap64 (wrap64 a + b) + c) = a + b + c := by
  have e1 : wrap64 a = a := by unfold wrap64; omega
  have e2 : wrap64 (a + b) = a + b := by unfold wrap64; omega
  rw [e1, e2]
  unfold wrap64; omega
set_option maxHeartbeats 6400000 in
set_option maxRecDepth 100000 in
theorem rsolve_any (A A' : Option Addr) (n c m d : Nat) (ws : List Int) (ts : List Tt) (w : World) (h : Il w A n c ws) (h' : Ts w A' m d ts) (hv : Cv ws ts) :
    Calls Tryd.prog 45 #[.slice A n c, .slice A' m d] w (Ret (fun v w' => v = .pointer (some ⟨w.heap.size, 0, none⟩) ∧ SolR (.slice A' m d) ws ts w.heap.size w') w) := by
  have hn := h.le
  have hc := h.cap
  have hm := h'.le
  have hd := h'.cap
  have HL := Lib.hid h.len
  have HL' := Lib.hid h'.len
  have H := Lib.hid h
  have H' := Lib.hid h'
  have HV := Lib.hid hv
  have hn10 : n ≤ 10 := by rw [← h.len]; exact hv.len10
  have hm16 : m ≤ 16 := by rw [← h'.len]; exact hv.1.2.2
  clear h h' hv
  obtain ⟨hw_, HWF⟩ : ∃ x, Hid (pW ws = x) := ⟨_, Lib.hid rfl⟩
  obtain ⟨hc_, HCF⟩ : ∃ x, Hid (pC ws ts = x) := ⟨_, Lib.hid rfl⟩
  obtain ⟨ht_, HTF⟩ : ∃ x, Hid (pT ws ts = x) := ⟨_, Lib.hid rfl⟩
  go_enter Tryd.func45, Tryd.ntmps45
  go_upto_region 2 with fail
  have hs0 : Sv w (w.alloc (.cells (Tryd.zeroCells95.setIfInBounds 0 (.slice A' m d)) TPL)) w.heap.size (.slice none 0 0) (shL ts 0) (plG (.slice A' m d) (.slice none 0 0) hw_ hc_ ht_ 0 0 0 0) := ⟨PB.new _ _ _ _ _, OwI.nil _ _, by go_grown⟩
  obtain ⟨W0, hW0⟩ : ∃ W, W = w.alloc (.cells (Tryd.zeroCells95.setIfInBounds 0 (.slice A' m d)) TPL) := ⟨_, rfl⟩
  rw [← hW0] at hs0 ⊢
  obtain ⟨g, hg⟩ : ∃ g, w.heap.size = g := ⟨_, rfl⟩
  rw [hg] at hs0 ⊢
  have HG := Lib.hid hg
  have HS0 := Lib.hid hs0
  clear hW0 hs0 hg
  go_wp2_with fail
  go_loopw [21] (fun i wr => ∃ (k : Nat) (sv : Value), k ≤ m ∧ i = .int .i64 (k : Int) ∧ Sv w wr g sv (shL ts k) (plG (.slice A' m d) sv hw_ hc_ ht_ 0 0 0 0)) (fun i _ => m - (intOf i).toNat)
  case atStart => exact ⟨0, _, by omega, rfl, HS0.out⟩
  case round =>
    clear HS0
    obtain ⟨k, sv, hk, rfl, hsv⟩ := hrel
    have HSV := Lib.hid hsv
    clear hsv
    by_cases hkm : k < m
    · obtain ⟨b, o, rfl, hcell⟩ := (H'.out.below HSV.out.bl).at_ (by omega)
      obtain ⟨ck1, A2, n2, c2, ck2, hil⟩ := hcell k hkm
      have HIL := Lib.hid hil
      obtain ⟨x, hx⟩ : ∃ x, tC ts k = x := ⟨_, rfl⟩
      rw [hx] at ck1
      have pk : (k : Int) < (m : Int) := by omega
      clear hcell hil hx
      have hsl : n2 = (tS ts k).length := HIL.out.len.symm
      have hxs : ∀ j, j < n2 → 0 ≤ (tS ts k).getD j 0 ∧ (tS ts k).getD j 0 < 60 := fun j hj => by
        have := HV.out.shows (i := k) (by rw [HL'.out]; exact hkm) j (by rw [← hsl]; exact hj)
        have := HL.out
        omega
      have hsw : setK (tS ts k) n2 = shw ts k := by unfold shw; rw [hsl]
      have HXS := Lib.hid hxs
      have HSW := Lib.hid hsw
      clear hsl hxs hsw
      go_upto_region 5 with fail
      have hal : Ext wr (wr.alloc (.cells #[.int .i64 x, .slice A2 n2 c2] TTE)) := Ext.allocR _ _
      have hsv1 := HSV.out.ext hal
      have hb1 : Blk (wr.alloc (.cells #[.int .i64 x, .slice A2 n2 c2] TTE)) wr.heap.size TTE #[.int .i64 x, .slice A2 n2 c2] := Blk.new_ _ _ rfl
      have hil1 := HIL.out.below hal
      refine wp_world (fun W1 => Sv w W1 g sv (shL ts k) (plG (.slice (some ⟨b, o, none⟩) m d) sv hw_ hc_ ht_ 0 0 0 0) ∧ Blk W1 wr.heap.size TTE #[.int .i64 x, .slice A2 n2 c2] ∧ Il W1 A2 n2 c2 (tS ts k)) ⟨hsv1, hb1, hil1⟩ ?_
      clear hal hsv1 hb1 hil1 HSV HIL ck1 ck2
      rintro W1 ⟨hsv, hb1, hil⟩
      have HSV := Lib.hid hsv
      have HIL := Lib.hid hil
      obtain ⟨p7, hp7⟩ : ∃ p, wr.heap.size = p := ⟨_, rfl⟩
      rw [hp7] at hb1 ⊢
      have k1 := fun w' (hh : Ext W1 w') => (show w'.cell? ⟨g, 1, none⟩ = some sv from ((hsv.ext hh).pb.cell (by omega)))
      have k7 := fun w' (hh : Ext W1 w') => (hb1.below hh).cells
      simp only [cellsAre, Nat.zero_add, Nat.reduceAdd, and_true] at k7
      have hst : Ext W1 W1.drew := Ext.drew _
      clear hsv hb1 hil hp7
      refine wp_region_advE [(9, 0)] 9 [] [(0, true, some 25, none), (1, true, some 26, none), (2, true, some 27, none), (3, true, some 28, none), (4, true, some 29, none), (5, true, some 30, none), (6, true, some 31, none), (7, false, some 32, none), (8, false, some 33, none)] (by kernel_rfl) (by kernel_rfl) (by kernel_rfl) (by kernel_rfl) (by intro it hit; (repeat (rcases List.mem_cons.1 hit with rfl | hit; (focus (intro o ho ev w; injection ho with ho; subst ho; kernel_rfl)))); cases hit) (fun _ _ _ _ _ => ⟨fun h => h, fun h => h⟩) hst ?_
      simp only [addEL, List.filter_cons, List.filter_nil, List.map_cons, List.map_nil, Nat.reduceAdd, Nat.reduceBEq, if_true, if_false, Bool.false_eq_true]
      repeat (first | (refine wpSeq_pure (v := ?_) rfl ?_ ?_; rotate_left 1; (focus (intro wq_ hSq_; (try dsimp only at hSq_); go_simp; (try with_reducible rfl); done)); (try simp only [Act.put, List.setIfInBounds_toArray, List.set_cons_zero, List.set_cons_succ])) | (refine wpSeq_pureG (v := ?_) rfl rfl ?_ ?_; rotate_left 1; (focus (intro wq_ hSq_; (try dsimp only at hSq_); go_simp; (try with_reducible rfl); done)); (try simp only [Act.put, List.setIfInBounds_toArray, List.set_cons_zero, List.set_cons_succ])) | (refine wpSeq_off rfl rfl ?_; (try simp only [Act.put, List.setIfInBounds_toArray, List.set_cons_zero, List.set_cons_succ])))
      first | refine wpSeq_call rfl (fun u1 g1 s1 K hK => ?_) | refine wpSeq_callG rfl rfl (fun u1 g1 s1 K hK => ?_)
      go_simp
      refine (rset_any A2 n2 c2 (tS ts k) u1 (HIL.out.below s1) HXS.out).mono ?_
      rintro e y1 ⟨v1, rfl, hv1, b1⟩
      rw [HSW.out] at hv1
      subst hv1
      (try go_wp2_with fail)
      refine hK.out _ _ b1 ?_
      clear hK K
      (try simp only [Act.put, List.setIfInBounds_toArray, List.set_cons_zero, List.set_cons_succ])
      repeat (first | (refine wpSeq_pure (v := ?_) rfl ?_ ?_; rotate_left 1; (focus (intro wq_ hSq_; (try dsimp only at hSq_); go_simp; (try with_reducible rfl); done)); (try simp only [Act.put, List.setIfInBounds_toArray, List.set_cons_zero, List.set_cons_succ])) | (refine wpSeq_pureG (v := ?_) rfl rfl ?_ ?_; rotate_left 1; (focus (intro wq_ hSq_; (try dsimp only at hSq_); go_simp; (try with_reducible rfl); done)); (try simp only [Act.put, List.setIfInBounds_toArray, List.set_cons_zero, List.set_cons_succ])) | (refine wpSeq_off rfl rfl ?_; (try simp only [Act.put, List.setIfInBounds_toArray, List.set_cons_zero, List.set_cons_succ])))
      first | refine wpSeq_call rfl (fun u2 g2 s2 K hK => ?_) | refine wpSeq_callG rfl rfl (fun u2 g2 s2 K hK => ?_)
      go_simp
      (try go_wp2_with fail)
      refine hK.out _ _ (Ext.allocR _ _) ?_
      clear hK K
      (try simp only [Act.put, List.setIfInBounds_toArray, List.set_cons_zero, List.set_cons_succ])
      repeat (first | (refine wpSeq_pure (v := ?_) rfl ?_ ?_; rotate_left 1; (focus (intro wq_ hSq_; (try dsimp only at hSq_); go_simp; (try with_reducible rfl); done)); (try simp only [Act.put, List.setIfInBounds_toArray, List.set_cons_zero, List.set_cons_succ])) | (refine wpSeq_pureG (v := ?_) rfl rfl ?_ ?_; rotate_left 1; (focus (intro wq_ hSq_; (try dsimp only at hSq_); go_simp; (try with_reducible rfl); done)); (try simp only [Act.put, List.setIfInBounds_toArray, List.set_cons_zero, List.set_cons_succ])) | (refine wpSeq_off rfl rfl ?_; (try simp only [Act.put, List.setIfInBounds_toArray, List.set_cons_zero, List.set_cons_succ])))
      intro wz gz sz_
      (try simp only [endJ, List.drop_succ_cons, List.drop_zero])
      have HZ := Lib.hid (HSV.out.ext sz_)
      have HBN := Lib.hid (show Blk wz u2.heap.size TIN #[.int .i64 (shw ts k : Nat)] from (Blk.new_ TIN #[.int .i64 (shw ts k : Nat)] rfl).below gz)
      have hz : g + 1 ≤ wz.heap.size := HZ.out.pb.lt
      have HLN : Hid ((shL ts k).length ≤ 1000) := by rw [shL_len]; exact (show k ≤ 1000 by omega)
      clear hst k1 k7 g1 g2 s1 s2 b1 gz sz_ HSV HIL HXS HSW
      go_wp2_with (at_builtin; refine wp_appE TIS TIN _ 1 8 int_info Tryd.underlying37 rfl (by omega) (by omega) rfl _ _ rfl (g + 1) _ _ _ rfl HZ.out.ow ⟨u2.heap.size, 0, none⟩ 1 1 [.int .i64 (shw ts k : Nat)] rfl rfl (blk_cells HBN.out) (int_one _) (by have := HLN.out; omega) (by omega) hz ?_; intro v4 w4 hown4 hb4 hg4; have hown5 : OwI (g + 1) w4 v4 (shL ts (k + 1)) := (by rw [shL_succ]; exact OwI.snoc hown4); obtain ⟨A4, c4, rfl, _⟩ := hown5.il; have hpb4 := HZ.out.pb.belowB (show g < g + 1 by omega) hb4; have c1 := hpb4.cell (show 1 < 3074 by omega); have f1 := hpb4.free 1; have HN := Lib.hid (Sv.mk hpb4 hown5 (HZ.out.bl.trans (hb4.mono (by have := HG.out; omega)))); clear hown4 hown5 hb4 hg4 hpb4)
      go_roundw
      case rel => exact ⟨k + 1, _, by omega, by go_num, HN.out.set_ (by have := HG.out; omega) _ _ (fun i _ => plG_sv i)⟩
      case measure => simp [intOf]; omega
    · have hkm2 : k = m := by omega
      subst hkm2
      obtain ⟨N, hN⟩ : ∃ N : Nat, 2 ^ n = N := ⟨_, rfl⟩
      have hN1 : N ≤ 1024 := by rw [← hN]; exact pow_le_1024 hn10
      have wN := wrap_pow n N hN (by omega)
      have HNE := Lib.hid hN
      have HS1 := Lib.hid HSV.out
      clear HSV hN hk hkm
      go_wp2_with fail
      rw [wN]
      clear wN
      go_loopw [41] (fun i wr => ∃ s : Nat, s ≤ N ∧ i = .int .i64 (s : Int) ∧ Sv w wr g sv (shL ts k) (plG (.slice A' k d) sv hw_ hc_ ht_ s 0 0 0)) (fun i _ => N - (intOf i).toNat)
      case atStart => exact ⟨0, by omega, rfl, HS1.out⟩
      case round =>
        clear HS1
        obtain ⟨s, hs, rfl, hsv⟩ := hrel
        have HSV := Lib.hid hsv
        clear hsv
        by_cases hsN : s < N
        · have ps : (s : Int) < (N : Int) := by omega
          have HSW : Hid (Sv w wr g sv (shL ts k) (plG (.slice A' k d) sv hw_ hc_ ht_ s (pWk ws s 0) 0 0)) := HSV.out
          clear HSV
          go_wp2_with fail
          go_loopw [46] (fun i wr => ∃ j : Nat, j ≤ n ∧ i = .int .i64 (j : Int) ∧ Sv w wr g sv (shL ts k) (plG (.slice A' k d) sv hw_ hc_ ht_ s (pWk ws s j) 0 0)) (fun i _ => n - (intOf i).toNat)
          case atStart => exact ⟨0, by omega, rfl, HSW.out⟩
          case round =>
            clear HSW
            obtain ⟨j, hj, rfl, hsv⟩ := hrel
            have HSV := Lib.hid hsv
            clear hsv
            by_cases hjn : j < n
            · have pj : (j : Int) < (n : Int) := by omega
              obtain ⟨b, o, rfl, hcell⟩ := (H.out.below HSV.out.bl).at_ (by omega)
              have ck := hcell j hjn
              obtain ⟨x, hx⟩ : ∃ x, ws.getD j 0 = x := ⟨_, rfl⟩
              rw [hx] at ck
              have hbit := i64_bit s j (by omega)
              clear hcell
              cases hb : s.testBit j with
              | false =>
                rw [hb, if_neg (by simp)] at hbit
                have hN2 : pWk ws s (j + 1) = pWk ws s j := by rw [pWk_succ HV.out, hb, if_neg (by simp), Int.add_zero]
                have HN := Lib.hid hN2
                clear hx hb hN2
                go_wp2
                go_roundw
                case rel => exact ⟨j + 1, by omega, by go_num, by rw [HN.out]; exact HSV.out.ext (Ext.allocR _ _)⟩
                case measure => simp [intOf]; omega
              | true =>
                rw [hb, if_pos rfl] at hbit
                have hN2 : pWk ws s (j + 1) = pWk ws s j + x := by rw [pWk_succ HV.out, hb, if_pos rfl, hx]
                have hbd1 := pWk_bd HV.out s j (by have := HL.out; omega)
                have hbd2 := pWk_bd HV.out s (j + 1) (by have := HL.out; omega)
                rw [hN2] at hbd2
                have HN := Lib.hid hN2
                have hs1 : s < 1024 := by omega
                have ps1 : (s : Int) < 1024 := by omega
                clear hx hb hN2
                go_upto_region 14 with fail
                have hsv1 := HSV.out.ext (Ext.allocR wr (.cells #[.int .i64 x] 58))
                have hb1 : Blk (wr.alloc (.cells #[.int .i64 x] 58)) wr.heap.size 58 #[.int .i64 x] := Blk.new_ _ _ rfl
                refine wp_world (fun W1 => Sv w W1 g sv (shL ts k) (plG (.slice A' k d) sv hw_ hc_ ht_ s (pWk ws s j) 0 0) ∧ Blk W1 wr.heap.size 58 #[.int .i64 x]) ⟨hsv1, hb1⟩ ?_
                clear hsv1 hb1 HSV ck
                rintro W1 ⟨hsv, hb1⟩
                have HSV := Lib.hid hsv
                obtain ⟨p10, hp10⟩ : ∃ p, wr.heap.size = p := ⟨_, rfl⟩
                rw [hp10] at hb1 ⊢
                obtain ⟨V, hV⟩ : ∃ V, pWk ws s j = V := ⟨_, rfl⟩
                have k1 := fun w' (hh : Ext W1 w') => (show w'.cell? ⟨g, 2 + s, none⟩ = some (.int .i64 V) from by
                  have h1 := (hsv.ext hh).pb.cell (j := 2 + s) (by omega)
                  rw [plG_w hs1, if_neg (by omega), if_pos rfl, hV] at h1
                  exact h1)
                have k7 := fun w' (hh : Ext W1 w') => (hb1.below hh).cells
                simp only [cellsAre, Nat.zero_add, Nat.reduceAdd, and_true] at k7
                rw [hV] at hbd1 hbd2 HN
                have wq : IntKind.i64.wrap (V + x) = V + x := IntWalk.i64_in _ (by omega)
                have hst : Ext W1 W1.drew := Ext.drew _
                clear hsv hb1 hp10 hV
                refine wp_region_adv 11 [] [(0, true, some 56, none), (1, true, some 57, none), (2, true, some 58, none), (3, true, some 59, none), (4, true, some 60, none), (5, true, some 61, none), (6, true, some 62, none), (7, true, some 63, none), (8, true, some 64, none), (9, true, some 65, none), (10, true, some 66, none)] (by kernel_rfl) (by kernel_rfl) (by kernel_rfl) (by intro it hit; (repeat (rcases List.mem_cons.1 hit with rfl | hit; (focus (intro o ho ev w; injection ho with ho; subst ho; kernel_rfl)))); cases hit) (fun _ _ _ _ _ => ⟨fun h => h, fun h => h⟩) hst ?_
                repeat (first | (refine wpSeq_pure (v := ?_) rfl ?_ ?_; rotate_left 1; (focus (intro wq_ hSq_; (try dsimp only at hSq_); go_simp; (try with_reducible rfl); done)); (try simp only [Act.put, List.setIfInBounds_toArray, List.set_cons_zero, List.set_cons_succ])) | (refine wpSeq_pureG (v := ?_) rfl rfl ?_ ?_; rotate_left 1; (focus (intro wq_ hSq_; (try dsimp only at hSq_); go_simp; (try with_reducible rfl); done)); (try simp only [Act.put, List.setIfInBounds_toArray, List.set_cons_zero, List.set_cons_succ])) | (refine wpSeq_off rfl rfl ?_; (try simp only [Act.put, List.setIfInBounds_toArray, List.set_cons_zero, List.set_cons_succ])))
                intro wz gz sz_
                (try simp only [endJ, List.drop_succ_cons, List.drop_zero])
                have HZ := Lib.hid (HSV.out.ext sz_)
                have c1 := k1 wz sz_
                have f1 := HZ.out.pb.free (2 + s)
                clear hst k1 k7 gz sz_ HSV
                go_wp2
                go_roundw
                case rel => exact ⟨j + 1, by omega, by go_num, HZ.out.set_ (by have := HG.out; omega) _ _ (fun i _ => by rw [HN.out]; exact plG_W hs1 _ i)⟩
                case measure => simp [intOf]; omega
            · have hjn2 : j = n := by omega
              subst hjn2
              have HW2 : Hid (pWk ws s j = hw_ s) := by rw [← HWF.out, ← HL.out, pWk_end]; exact (rfl : _ = _)
              have hs1 : s < 1024 := by omega
              have ps1 : (s : Int) < 1024 := by omega
              obtain ⟨W, hW⟩ : ∃ W, hw_ s = W := ⟨_, rfl⟩
              have hsv := HSV.out
              rw [HW2.out, hW] at hsv
              have c1 : wr.cell? ⟨g, 2050 + s, none⟩ = some (.int .i64 0) := by
                have h1 := hsv.pb.cell (j := 2050 + s) (by omega)
                rw [plG_t, if_neg (by omega), if_pos rfl] at h1
                exact h1
              have f1 := hsv.pb.free (2050 + s)
              have hsv2 : Sv w (wr.setCell ⟨g, 2050 + s, none⟩ (.int .i64 (-1))) g sv (shL ts k) (plG (.slice A' k d) sv hw_ hc_ ht_ s W (pCk ws ts s 0) (pTk ws ts s 0)) := hsv.set_ (by have := HG.out; omega) _ _ (fun i _ => plG_T hs1 _ i)
              have HS2 := Lib.hid hsv2
              have hWb := pW_bd HV.out s
              have hpw : pW ws s = W := by rw [HWF.out, hW]
              rw [hpw] at hWb
              have HPW := Lib.hid hpw
              have HWS := Lib.hid hW
              clear HSV HW2 hsv hsv2 hW hpw hjn hj
              go_wp2_with fail
              clear c1 f1
              go_loopw [76] (fun i wr => ∃ q : Nat, q ≤ k ∧ i = .int .i64 (q : Int) ∧ Sv w wr g sv (shL ts k) (plG (.slice A' k d) sv hw_ hc_ ht_ s W (pCk ws ts s q) (pTk ws ts s q))) (fun i _ => k - (intOf i).toNat)
              case atStart => exact ⟨0, by omega, rfl, HS2.out⟩
              case round =>
                clear HS2
                obtain ⟨q, hq, rfl, hsv⟩ := hrel
                obtain ⟨A3, c3, rfl, il3⟩ := hsv.ow.il2 (shL_len ts k)
                by_cases hqk : q < k
                · have pq : (q : Int) < (k : Int) := by omega
                  obtain ⟨b3, o3, rfl, hcell3⟩ := il3.at_ (by omega)
                  have l3 := il3.le
                  have l3' := il3.cap
                  have cs3 := hcell3 q hqk
                  rw [shL_get ts hqk] at cs3
                  obtain ⟨b, o, rfl, hcell⟩ := (H'.out.below hsv.bl).at_ (by omega)
                  obtain ⟨ck1, A2, n2, c2, ck2, _⟩ := hcell q hqk
                  obtain ⟨x, hx⟩ : ∃ x, tC ts q = x := ⟨_, rfl⟩
                  rw [hx] at ck1
                  have hM := HV.out.shw_1024 (i := q) (by rw [HL'.out]; exact hqk)
                  obtain ⟨M, hMe⟩ : ∃ M, shw ts q = M := ⟨_, rfl⟩
                  rw [hMe] at cs3 hM
                  have wand := i64_and s M (by omega) (by omega)
                  have wnot := i64_andNot s M (by omega) (by omega)
                  have hio := in_out s M
                  obtain ⟨I, hI⟩ : ∃ I, inn s M = I := ⟨_, rfl⟩
                  obtain ⟨O, hO⟩ : ∃ O, outs s M = O := ⟨_, rfl⟩
                  have wand' : bits .and .i64 (s : Int) (M : Int) = (I : Int) := by rw [wand, ← hI]; rfl
                  rw [hO] at wnot hio
                  rw [hI] at hio
                  have HIO := Lib.hid (And.intro (hMe ▸ hI : inn s (shw ts q) = I) (hMe ▸ hO : outs s (shw ts q) = O))
                  have HX := Lib.hid hx
                  have HSV := Lib.hid hsv
                  clear hcell hcell3 il3 wand hI hO hMe hx hsv
                  go_upto_region 20 with fail
                  have hsv1 := HSV.out.ext (Ext.allocR wr (.cells #[.int .i64 x, .slice A2 n2 c2] TTE))
                  have hb1 : Blk (wr.alloc (.cells #[.int .i64 x, .slice A2 n2 c2] TTE)) wr.heap.size TTE #[.int .i64 x, .slice A2 n2 c2] := Blk.new_ _ _ rfl
                  have hc1 := Ext.cell (Ext.allocR wr (.cells #[.int .i64 x, .slice A2 n2 c2] TTE)) cs3
                  refine wp_world (fun W1 => Sv w W1 g (.slice (some ⟨b3, o3, none⟩) k c3) (shL ts k) (plG (.slice (some ⟨b, o, none⟩) k d) (.slice (some ⟨b3, o3, none⟩) k c3) hw_ hc_ ht_ s W (pCk ws ts s q) (pTk ws ts s q)) ∧ Blk W1 wr.heap.size TTE #[.int .i64 x, .slice A2 n2 c2] ∧ W1.cell? ⟨b3, o3 + q, none⟩ = some (.int .i64 (M : Int))) ⟨hsv1, hb1, hc1⟩ ?_
                  clear hsv1 hb1 hc1 HSV cs3 ck1 ck2
                  rintro W1 ⟨hsv, hb1, cs3⟩
                  have HSV := Lib.hid hsv
                  obtain ⟨p12, hp12⟩ : ∃ p, wr.heap.size = p := ⟨_, rfl⟩
                  rw [hp12] at hb1 ⊢
                  have HB1 := Lib.hid hb1
                  have k1 := fun w' (hh : Ext W1 w') => (show w'.cell? ⟨g, 1, none⟩ = some (.slice (some ⟨b3, o3, none⟩) k c3) ∧ w'.cell? ⟨b3, o3 + q, none⟩ = some (.int .i64 (M : Int)) from ⟨(hsv.ext hh).pb.cell (by omega), Ext.cell hh cs3⟩)
                  have hst : Ext W1 W1.drew := Ext.drew _
                  clear hsv hb1 hp12 cs3
                  refine wp_region_adv 19 [] [(0, true, some 81, none), (1, true, some 82, none), (2, true, some 83, none), (3, true, some 84, none), (4, true, some 85, none), (5, true, some 86, none), (6, true, some 87, none), (7, true, some 88, none), (8, true, some 89, none), (9, true, some 90, none), (10, true, some 91, none), (11, true, some 92, none), (12, true, some 93, none), (13, true, some 94, none), (14, true, some 95, none), (15, true, some 96, none), (16, true, some 97, none), (17, true, some 98, none), (18, false, some 13, none)] (by kernel_rfl) (by kernel_rfl) (by kernel_rfl) (by intro it hit; (repeat (rcases List.mem_cons.1 hit with rfl | hit; (focus (intro o ho ev w; injection ho with ho; subst ho; kernel_rfl)))); cases hit) (fun _ _ _ _ _ => ⟨fun h => h, fun h => h⟩) hst ?_
                  repeat (first | (refine wpSeq_pure (v := ?_) rfl ?_ ?_; rotate_left 1; (focus (intro wq_ hSq_; (try dsimp only at hSq_); go_simp; (try with_reducible rfl); done)); (try simp only [Act.put, List.setIfInBounds_toArray, List.set_cons_zero, List.set_cons_succ])) | (refine wpSeq_pureG (v := ?_) rfl rfl ?_ ?_; rotate_left 1; (focus (intro wq_ hSq_; (try dsimp only at hSq_); go_simp; (try with_reducible rfl); done)); (try simp only [Act.put, List.setIfInBounds_toArray, List.set_cons_zero, List.set_cons_succ])) | (refine wpSeq_off rfl rfl ?_; (try simp only [Act.put, List.setIfInBounds_toArray, List.set_cons_zero, List.set_cons_succ])))
                  first | refine wpSeq_call rfl (fun u1 g1 s1 K hK => ?_) | refine wpSeq_callG rfl rfl (fun u1 g1 s1 K hK => ?_)
                  go_simp
                  (try go_wp2_with fail)
                  refine hK.out _ _ (Ext.refl _) ?_
                  clear hK K
                  (try simp only [Act.put, List.setIfInBounds_toArray, List.set_cons_zero, List.set_cons_succ])
                  repeat (first | (refine wpSeq_pure (v := ?_) rfl ?_ ?_; rotate_left 1; (focus (intro wq_ hSq_; (try dsimp only at hSq_); go_simp; (try with_reducible rfl); done)); (try simp only [Act.put, List.setIfInBounds_toArray, List.set_cons_zero, List.set_cons_succ])) | (refine wpSeq_pureG (v := ?_) rfl rfl ?_ ?_; rotate_left 1; (focus (intro wq_ hSq_; (try dsimp only at hSq_); go_simp; (try with_reducible rfl); done)); (try simp only [Act.put, List.setIfInBounds_toArray, List.set_cons_zero, List.set_cons_succ])) | (refine wpSeq_off rfl rfl ?_; (try simp only [Act.put, List.setIfInBounds_toArray, List.set_cons_zero, List.set_cons_succ])))
                  intro wz gz sz_
                  (try simp only [endJ, List.drop_succ_cons, List.drop_zero])
                  have HSZ := Lib.hid (HSV.out.ext sz_)
                  have HBZ := Lib.hid (HB1.out.below sz_)
                  clear hst k1 g1 s1 gz sz_ HSV HB1
                  go_upto_region 21 with fail
                  clear wand' wnot
                  by_cases hI0 : I = 0
                  · have HT := Lib.hid (try_off (ws := ws) (ts := ts) (s := s) (k := q) (Or.inl (by rw [HIO.out.1]; exact hI0)))
                    have hi1 : ((I : Int) == 0) = true := by rw [beq_iff_eq]; omega
                    go_wp2
                    go_roundw
                    case rel => exact ⟨q + 1, by omega, by go_num, by rw [HT.out.1, HT.out.2]; exact HSZ.out⟩
                    case measure => simp [intOf]; omega
                  by_cases hO0 : O = 0
                  · have HT := Lib.hid (try_off (ws := ws) (ts := ts) (s := s) (k := q) (Or.inr (by rw [HIO.out.2]; exact hO0)))
                    have hi1 : ((I : Int) == 0) = false := by rw [beq_eq_false_iff_ne]; omega
                    have hi2 : ((O : Int) == 0) = true := by rw [beq_iff_eq]; omega
                    go_wp2
                    go_roundw
                    case rel => exact ⟨q + 1, by omega, by go_num, by rw [HT.out.1, HT.out.2]; exact HSZ.out⟩
                    case measure => simp [intOf]; omega
                  · have hi1 : ((I : Int) == 0) = false := by rw [beq_eq_false_iff_ne]; omega
                    have hi2 : ((O : Int) == 0) = false := by rw [beq_eq_false_iff_ne]; omega
                    have hnt : ¬ (inn s (shw ts q) = 0 ∨ outs s (shw ts q) = 0) := by rw [HIO.out.1, HIO.out.2]; rintro (e | e); exact hI0 e; exact hO0 e
                    have hqt : q < ts.length := by rw [HL'.out]; exact hqk
                    have hbd := pX_bd HV.out (s := s) (k := q) hs1 hqt
                    have hXe : pX ws ts s q = W * x + hc_ I + hc_ O := by unfold pX; rw [HPW.out, HX.out, HIO.out.1, HIO.out.2, HCF.out]
                    have hCI := pC_bd HV.out (s := I) (by omega)
                    have hCO := pC_bd HV.out (s := O) (by omega)
                    rw [HPW.out, HX.out] at hbd
                    rw [HCF.out] at hCI hCO
                    have HON := Lib.hid (try_on HV.out hqt hnt)
                    have HNO := Lib.hid (try_no HV.out hqt hnt)
                    have HXE := Lib.hid hXe
                    have hI10 : I < 1024 := by omega
                    have hO10 : O < 1024 := by omega
                    have pI1 : (I : Int) < 1024 := by omega
                    have pO1 : (O : Int) < 1024 := by omega
                    have hIs : I < s := by omega
                    have hOs : O < s := by omega
                    rw [hXe] at hbd
                    obtain ⟨X1, hX1⟩ : ∃ y, hc_ I = y := ⟨_, rfl⟩
                    obtain ⟨X2, hX2⟩ : ∃ y, hc_ O = y := ⟨_, rfl⟩
                    rw [hX1] at hbd hCI HXE
                    rw [hX2] at hbd hCO HXE
                    have wq4 := wrap3 (W * x) X1 X2 (by omega) (by omega) (by omega)
                    obtain ⟨XX, hXX⟩ : ∃ y, W * x + X1 + X2 = y := ⟨_, rfl⟩
                    rw [hXX] at wq4
                    obtain ⟨TT, hTT⟩ : ∃ y, pTk ws ts s q = y := ⟨_, rfl⟩
                    obtain ⟨CC, hCC⟩ : ∃ y, pCk ws ts s q = y := ⟨_, rfl⟩
                    have k1 := fun w' (hh : Ext wz w') => (show (w'.cell? ⟨g, 2 + s, none⟩ = some (.int .i64 W) ∧ w'.cell? ⟨g, 1026 + I, none⟩ = some (.int .i64 X1)) ∧ w'.cell? ⟨g, 1026 + O, none⟩ = some (.int .i64 X2) from by
                      have hp := (HSZ.out.ext hh).pb
                      have h1 := hp.cell (j := 2 + s) (by omega)
                      have h2 := hp.cell (j := 1026 + I) (by omega)
                      have h3 := hp.cell (j := 1026 + O) (by omega)
                      rw [plG_w hs1, if_neg (by omega), if_pos rfl] at h1
                      rw [plG_c hI10, if_pos hIs, hX1] at h2
                      rw [plG_c hO10, if_pos hOs, hX2] at h3
                      exact ⟨⟨h1, h2⟩, h3⟩)
                    have k2 := fun w' (hh : Ext wz w') => (show w'.cell? ⟨g, 2050 + s, none⟩ = some (.int .i64 TT) ∧ w'.cell? ⟨g, 1026 + s, none⟩ = some (.int .i64 CC) from by
                      have hp := (HSZ.out.ext hh).pb
                      have h1 := hp.cell (j := 2050 + s) (by omega)
                      have h2 := hp.cell (j := 1026 + s) (by omega)
                      rw [plG_t, if_neg (by omega), if_pos rfl, hTT] at h1
                      rw [plG_c hs1, if_neg (by omega), if_pos rfl, hCC] at h2
                      exact ⟨h1, h2⟩)
                    have k7 := fun w' (hh : Ext wz w') => (HBZ.out.below hh).cells
                    simp only [cellsAre, Nat.zero_add, Nat.reduceAdd, and_true] at k7
                    have hst : Ext wz wz.drew := Ext.drew _
                    rw [hTT, hCC, HXE.out, hXX] at HON HNO
                    have HTC := Lib.hid (And.intro hTT hCC)
                    clear hnt hqt hXe hbd hCI hCO hX1 hX2 hTT hCC hXX HIO HX HXE HBZ hIs hOs hio hI0 hO0
                    go_upto_region 22 with fail
                    clear hi1 hi2
                    refine wp_region_adv 22 [] [(0, true, some 105, none), (1, true, some 106, none), (2, true, some 107, none), (3, true, some 108, none), (4, true, some 109, none), (5, true, some 110, none), (6, true, some 111, none), (7, true, some 112, none), (8, true, some 113, none), (9, true, some 114, none), (10, true, some 115, none), (11, true, some 116, none), (12, true, some 117, none), (13, true, some 118, none), (14, true, some 119, none), (15, true, some 120, none), (16, true, some 121, none), (17, true, some 122, none), (18, true, some 123, none), (19, true, some 124, none), (20, true, some 125, none), (21, true, some 126, none)] (by kernel_rfl) (by kernel_rfl) (by kernel_rfl) (by intro it hit; (repeat (rcases List.mem_cons.1 hit with rfl | hit; (focus (intro o ho ev w; injection ho with ho; subst ho; kernel_rfl)))); cases hit) (fun _ _ _ _ _ => ⟨fun h => h, fun h => h⟩) hst ?_
                    repeat (first | (refine wpSeq_pure (v := ?_) rfl ?_ ?_; rotate_left 1; (focus (intro wq_ hSq_; (try dsimp only at hSq_); go_simp; (try with_reducible rfl); done)); (try simp only [Act.put, List.setIfInBounds_toArray, List.set_cons_zero, List.set_cons_succ])) | (refine wpSeq_pureG (v := ?_) rfl rfl ?_ ?_; rotate_left 1; (focus (intro wq_ hSq_; (try dsimp only at hSq_); go_simp; (try with_reducible rfl); done)); (try simp only [Act.put, List.setIfInBounds_toArray, List.set_cons_zero, List.set_cons_succ])) | (refine wpSeq_off rfl rfl ?_; (try simp only [Act.put, List.setIfInBounds_toArray, List.set_cons_zero, List.set_cons_succ])))
                    intro wy gy sy
                    (try simp only [endJ, List.drop_succ_cons, List.drop_zero])
                    have HSY := Lib.hid (HSZ.out.ext sy)
                    have k3 := k2 wy sy
                    clear hst k1 k2 k7 gy sy HSZ
                    go_upto_region 23 with fail
                    rw [wq4]
                    clear wq4
                    by_cases hT : TT = -1
                    · have HQ := Lib.hid (HON.out (Or.inl hT))
                      clear HON HNO
                      subst hT
                      go_upto_region 24 with fail
                      have f1 := HSY.out.pb.free (1026 + s)
                      have f2 := HSY.out.pb.free (2050 + s)
                      go_big_region
                      have hsn := HSY.out
                      rw [HTC.out.1, HTC.out.2] at hsn
                      have hgw : w.heap.size ≤ g := by have := HG.out; omega
                      have hs3 := ((hsn.set_ hgw (1026 + s) (.int .i64 XX) (fun i _ => plG_C hs1 XX i)).set_ hgw (2050 + s) (.int .i64 (q : Int)) (fun i _ => plG_T hs1 (q : Int) i)).ext (Ext.drew _)
                      have HN := Lib.hid hs3
                      clear hsn hs3 k3 f1 f2
                      go_wp2
                      go_roundw
                      case rel => exact ⟨q + 1, by omega, by go_num, by rw [HQ.out.1, HQ.out.2]; exact HN.out⟩
                      case measure => simp [intOf]; omega
                    · have ht1 : (TT == -1) = false := by rw [beq_eq_false_iff_ne]; exact hT
                      by_cases hlt : XX < CC
                      · have hl1 : decide (XX < CC) = true := by simpa using hlt
                        have HQ := Lib.hid (HON.out (Or.inr hlt))
                        clear HON HNO hT
                        go_upto_region 24 with fail
                        have f1 := HSY.out.pb.free (1026 + s)
                        have f2 := HSY.out.pb.free (2050 + s)
                        go_big_region
                        have hsn := HSY.out
                        rw [HTC.out.1, HTC.out.2] at hsn
                        have hgw : w.heap.size ≤ g := by have := HG.out; omega
                        have hs3 := ((hsn.set_ hgw (1026 + s) (.int .i64 XX) (fun i _ => plG_C hs1 XX i)).set_ hgw (2050 + s) (.int .i64 (q : Int)) (fun i _ => plG_T hs1 (q : Int) i)).ext (Ext.drew _)
                        have HN := Lib.hid hs3
                        clear hsn hs3 k3 f1 f2
                        go_wp2
                        go_roundw
                        case rel => exact ⟨q + 1, by omega, by go_num, by rw [HQ.out.1, HQ.out.2]; exact HN.out⟩
                        case measure => simp [intOf]; omega
                      · have hl1 : decide (XX < CC) = false := by simpa using hlt
                        have HQ := Lib.hid (HNO.out (fun h => h.elim hT hlt))
                        clear HON HNO hT
                        go_wp2
                        go_roundw
                        case rel => exact ⟨q + 1, by omega, by go_num, by rw [HQ.out.1, HQ.out.2]; have := HSY.out; rw [HTC.out.1, HTC.out.2] at this; exact this⟩
                        case measure => simp [intOf]; omega
                · have hqk2 : q = k := by omega
                  subst hqk2
                  have hn2 : Sv w wr g (.slice A3 q c3) (shL ts q) (plG (.slice A' q d) (.slice A3 q c3) hw_ hc_ ht_ (s + 1) 0 0 0) := hsv.congr (fun i _ => plG_next i HWS.out (by rw [← HCF.out, ← pCk_end, HL'.out]) (by rw [← HTF.out, ← pTk_end, HL'.out]))
                  have HN := Lib.hid hn2
                  clear hsv il3 hn2 hq hqk
                  go_wp2
                  go_roundw
                  case rel => exact ⟨s + 1, by omega, by go_num, HN.out⟩
                  case measure => simp [intOf]; omega
        · have hsN2 : s = N := by omega
          subst hsN2
          have HE := HSV.out
          rw [← HWF.out, ← HCF.out, ← HTF.out, ← HNE.out, ← HL.out] at HE
          have HF : Hid (SolR (.slice A' k d) ws ts g wr) := ⟨⟨sv, HE.pb, by rw [HL'.out]; exact HE.ow⟩⟩
          have HB := Lib.hid HE.bl
          clear HE HSV
          go_wp2
          go_returns
          exact ⟨_, rfl, ⟨by rw [HG.out]; rfl, by rw [HG.out]; exact HF.out⟩, HB.out⟩
end Go.Proofs.Tb
