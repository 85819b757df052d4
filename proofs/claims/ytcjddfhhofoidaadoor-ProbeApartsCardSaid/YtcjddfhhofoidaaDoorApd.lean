/- ProbeAparts returns true. -/
import Derived.Test.YtcjddfhhofoidaaDoorApc
set_option linter.unusedVariables false
set_option linter.unusedSimpArgs false
namespace Go.Proofs.Tb
open Go.RowKit
attribute [local go_sem] cell_set_same

set_option maxHeartbeats 6400000 in
set_option maxRecDepth 100000 in
theorem aparts_any (A A' : Option Addr) (n c m d : Nat) (ws : List Int) (ts : List Tt) (w : World) (h : Il w A n c ws) (h' : Ts w A' m d ts) (ht : Tab w) :
    Calls Tryd.prog 14 #[.agg #[.slice A n c, .slice A' m d]] w (Ret (fun v _ => v = .bool true) w) := by
  have H := Lib.hid h
  have H' := Lib.hid h'
  have HT := Lib.hid ht
  clear h h' ht
  go_enter Tryd.func14, Tryd.ntmps14
  go_wp2_with fail
  have x0 : Ext w (w.alloc (.cells #[.slice A n c, .slice A' m d] TCA)) := Ext.allocR _ _
  refine (few_any A A' n c m d ws ts 10 7 (by omega) (by omega) _ (H.out.below x0) (H'.out.below x0)).mono ?_
  rintro e w1 ⟨v1, rfl, ⟨vf, vt, rfl, hf, ht⟩, hb1⟩
  obtain ⟨A1, n1, c1, hvf, il1⟩ := hf.il
  subst hvf
  obtain ⟨A2, n2, c2, hvt, sl2⟩ := ht.slp2
  subst hvt
  have ts2 := sl2.ts
  obtain ⟨wf, hwf⟩ : ∃ x, fewF ws 10 = x := ⟨_, rfl⟩
  obtain ⟨tf, htf⟩ : ∃ x, fewT ts 7 = x := ⟨_, rfl⟩
  rw [hwf] at il1
  rw [htf] at ts2
  have l1 := il1.le
  have l1' := il1.cap
  have l2 := ts2.le
  have l2' := ts2.cap
  have HL1 := Lib.hid il1.len
  have HL2 := Lib.hid ts2.len
  have I1 := Lib.hid il1
  have T2 := Lib.hid ts2
  have HB1 := Lib.hid (bt x0 hb1)
  clear hf ht sl2 il1 ts2 hwf htf x0 hb1
  go_upto_region 2 with fail
  have b3 : Blk (w1.alloc (.cells #[.slice A1 n1 c1, .slice A2 n2 c2] TCA)) w1.heap.size TCA #[.slice A1 n1 c1, .slice A2 n2 c2] := Blk.new_ _ _ rfl
  have x3 : Ext w1 (w1.alloc (.cells #[.slice A1 n1 c1, .slice A2 n2 c2] TCA)) := Ext.allocR _ _
  refine wp_world (fun W3 => Blk W3 w1.heap.size TCA #[.slice A1 n1 c1, .slice A2 n2 c2] ∧ Ext w1 W3) ⟨b3, x3⟩ ?_
  clear b3 x3
  rintro W3 ⟨b3, x3⟩
  obtain ⟨g, hg⟩ : ∃ g, w1.heap.size = g := ⟨_, rfl⟩
  rw [hg] at b3 ⊢
  have B3 := Lib.hid b3
  have X3 := Lib.hid x3
  have c3 := b3.cells
  simp only [cellsAre, Nat.zero_add, Nat.reduceAdd, and_true] at c3
  clear b3 x3 hg
  go_wp2_with fail
  refine (rapartX_any A1 A2 n1 c1 n2 c2 wf tf W3 (I1.out.below X3.out) (T2.out.below X3.out)).mono ?_
  rintro e w4 ⟨v4, rfl, hv4, hb4⟩
  have X4 := Lib.hid (bt X3.out hb4)
  have B4 := Lib.hid (B3.out.below hb4)
  have k4 := B4.out.cells
  simp only [cellsAre, Nat.zero_add, Nat.reduceAdd, and_true] at k4
  have HV4 := Lib.hid hv4
  clear c3 B3 hb4 hv4
  by_cases hc : Cv wf tf
  rotate_left
  · have hv4' := HV4.out.2 hc
    subst hv4'
    have HC := Lib.hid hc
    clear HV4 hc
    go_wp2_with fail
    refine (rneeded_any A1 A2 n1 c1 n2 c2 wf tf w4 (I1.out.below X4.out) (T2.out.below X4.out) (HT.out.below (bt HB1.out X4.out))).mono ?_
    rintro e w5 ⟨v5, rfl, hv5, hb5⟩
    have hv5' := hv5.2 HC.out
    subst hv5'
    have X5 := Lib.hid (bt X4.out hb5)
    have k5 := (B4.out.below hb5).cells
    simp only [cellsAre, Nat.zero_add, Nat.reduceAdd, and_true] at k5
    clear hv5 hb5 k4
    go_wp2_with fail
    refine (valid_any A1 A2 n1 c1 n2 c2 wf tf w5 (I1.out.below X5.out) (T2.out.below X5.out)).mono ?_
    rintro e w6 ⟨z6, rfl, hz6, b6⟩
    rw [cvB_f HC.out] at hz6
    subst hz6
    have X6 := Lib.hid (bt X5.out b6)
    clear b6 k5
    go_wp2_with fail
    refine (lives_any w6 (HT.out.below (bt HB1.out X6.out))).mono ?_
    rintro e w7 ⟨z7, rfl, rfl, b7⟩
    have X7 := Lib.hid (bt (bt HB1.out X6.out) b7)
    clear b7
    go_wp2
    go_returns
    exact ⟨_, rfl, rfl, X7.out⟩
  · obtain ⟨A8, c8, b8, b8', hv4', hs8⟩ := HV4.out.1 hc
    subst hv4'
    have HC := Lib.hid hc
    have hn1 : n1 ≤ 10 := by rw [← HL1.out]; exact hc.len10
    have hn2 : n2 ≤ 16 := by rw [← HL2.out]; exact hc.1.2.2
    have HTB := Lib.hid (fun j => cost_bd hc j)
    rw [HL1.out] at hs8 ⊢
    obtain ⟨cs, hcs⟩ : ∃ cs, clsT n1 tf = cs := ⟨_, rfl⟩
    rw [hcs] at hs8 ⊢
    obtain ⟨L, hL⟩ : ∃ L, cs.length = L := ⟨_, rfl⟩
    obtain ⟨A9, c9, hv9, gs9⟩ := hs8.gs
    injection hv9 with e1 e2 e3
    subst e1 e3
    rw [hL] at gs9 ⊢
    have g9 := gs9.le
    have g9' := gs9.cap
    have G4 := Lib.hid gs9
    have HCS := Lib.hid hcs
    have HLL := Lib.hid hL
    clear HV4 hc hs8 gs9 hcs hL e2
    go_wp2_with fail
    refine (rneeded_any A1 A2 n1 c1 n2 c2 wf tf w4 (I1.out.below X4.out) (T2.out.below X4.out) (HT.out.below (bt HB1.out X4.out))).mono ?_
    rintro e w5 ⟨v5, rfl, hv5, hb5⟩
    obtain ⟨A7, n7, c7, hv5', il7⟩ := hv5.1 HC.out
    subst hv5'
    rw [HL1.out, HL2.out] at il7
    obtain ⟨tl, htl⟩ : ∃ l, mems n2 (ndS tf n1) = l := ⟨_, rfl⟩
    rw [htl] at il7
    have l7 := il7.le
    have l7' := il7.cap
    have I7 := Lib.hid il7
    have HTL := Lib.hid htl
    have X5 := Lib.hid (bt X4.out hb5)
    have B5 := Lib.hid (B4.out.below hb5)
    have G5 := Lib.hid (G4.out.below hb5)
    have k5 := B5.out.cells
    simp only [cellsAre, Nat.zero_add, Nat.reduceAdd, and_true] at k5
    clear hv5 hb5 k4 B4 G4 il7 htl
    go_wp2_with fail
    refine (valid_any A1 A2 n1 c1 n2 c2 wf tf w5 (I1.out.below X5.out) (T2.out.below X5.out)).mono ?_
    rintro e w6 ⟨z6, rfl, hz6, b6⟩
    rw [cvB_t HC.out] at hz6
    subst hz6
    have X6 := Lib.hid (bt X5.out b6)
    have B6 := Lib.hid (B5.out.below b6)
    have G6 := Lib.hid (G5.out.below b6)
    have I76 := Lib.hid (I7.out.below b6)
    have k6 := B6.out.cells
    simp only [cellsAre, Nat.zero_add, Nat.reduceAdd, and_true] at k6
    clear b6 k5 B5 G5 I7
    go_wp2_with fail
    refine (zapart_any A1 A2 n1 c1 n2 c2 wf tf w6 (I1.out.below X6.out) (T2.out.below X6.out) (by omega) (by omega)).mono ?_
    rintro e w7 ⟨v7, rfl, ⟨b1, hs7⟩, hb7⟩
    rw [HCS.out] at hs7
    obtain ⟨A10, c10, rfl, gs10⟩ := hs7.gs
    rw [HLL.out] at gs10 ⊢
    have g10 := gs10.le
    have g10' := gs10.cap
    have X7 := Lib.hid (bt X6.out hb7)
    have B7 := Lib.hid (B6.out.below hb7)
    have G7 := Lib.hid (G6.out.below hb7)
    have I77 := Lib.hid (I76.out.below hb7)
    have Z7 := Lib.hid gs10
    clear hs7 gs10 hb7 k6 B6 G6 I76
    go_wp2_with fail
    refine (lives_any w7 (HT.out.below (bt HB1.out X7.out))).mono ?_
    rintro e w8 ⟨z8, rfl, rfl, b8⟩
    have X8 := Lib.hid (bt X7.out b8)
    have B8 := Lib.hid (B7.out.below b8)
    have G8 := Lib.hid (G7.out.below b8)
    have I78 := Lib.hid (I77.out.below b8)
    have Z8 := Lib.hid (Z7.out.below b8)
    clear b8 B7 G7 I77 Z7
    go_wp2_with fail
    go_loopw [9] (fun i wr => ∃ k : Nat, k ≤ L ∧ i = .int .i64 (k : Int) ∧ Ext w8 wr) (fun i _ => L - (intOf i).toNat)
    case atStart => exact ⟨0, by omega, rfl, Ext.refl _⟩
    case round =>
      obtain ⟨k, hk, rfl, hx⟩ := hrel
      have HX := Lib.hid hx
      by_cases hkL : k < L
      · have pk : (k : Int) < (L : Int) := by omega
        obtain ⟨bG, oG, rfl, hcG⟩ := (G8.out.below hx).at_ (by omega)
        obtain ⟨A11, n11, c11, kg, ig⟩ := hcG k hkL
        obtain ⟨bZ, oZ, rfl, hcZ⟩ := (Z8.out.below hx).at_ (by omega)
        obtain ⟨A12, n12, c12, kz, iz⟩ := hcZ k hkL
        obtain ⟨cl, hcl⟩ : ∃ cl, cs.getD k [] = cl := ⟨_, rfl⟩
        rw [hcl] at ig iz
        have IG := Lib.hid ig
        have IZ := Lib.hid iz
        have kk1 := fun w' (hh : Ext wr w') => (show w'.cell? ⟨bG, oG + k, none⟩ = some (.slice A11 n11 c11) from Ext.cell hh kg)
        have kk2 := fun w' (hh : Ext wr w') => (show w'.cell? ⟨bZ, oZ + k, none⟩ = some (.slice A12 n12 c12) from Ext.cell hh kz)
        have hst : Ext wr wr.drew := Ext.drew _
        clear hcG hcZ hcl ig iz kg kz hx
        go_upto_region 12 with fail
        refine wp_region_adv 8 [] [(0, true, some 78, none), (1, true, some 79, none), (2, true, some 80, none), (3, true, some 81, none), (4, true, some 82, none), (5, true, some 83, none), (6, true, some 84, none), (7, true, some 85, none)] (by kernel_rfl) (by kernel_rfl) (by kernel_rfl) (by intro it hit; (repeat (rcases List.mem_cons.1 hit with rfl | hit; (focus (intro o ho ev w; injection ho with ho; subst ho; kernel_rfl)))); cases hit) (fun _ _ _ _ _ => ⟨fun h => h, fun h => h⟩) hst ?_
        repeat (first | (refine wpSeq_pure (v := ?_) rfl ?_ ?_; rotate_left 1; (focus (intro wq_ hSq_; (try dsimp only at hSq_); go_simp; (try with_reducible rfl); done)); (try simp only [Act.put, List.setIfInBounds_toArray, List.set_cons_zero, List.set_cons_succ])) | (refine wpSeq_pureG (v := ?_) rfl rfl ?_ ?_; rotate_left 1; (focus (intro wq_ hSq_; (try dsimp only at hSq_); go_simp; (try with_reducible rfl); done)); (try simp only [Act.put, List.setIfInBounds_toArray, List.set_cons_zero, List.set_cons_succ])) | (refine wpSeq_off rfl rfl ?_; (try simp only [Act.put, List.setIfInBounds_toArray, List.set_cons_zero, List.set_cons_succ])))
        intro wz gz sz_
        (try simp only [endJ, List.drop_succ_cons, List.drop_zero])
        go_wp2_with fail
        refine (lsame_any A11 A12 n11 c11 n12 c12 cl cl wz (IG.out.below sz_) (IZ.out.below sz_)).mono ?_
        rintro e z1 ⟨y1, rfl, rfl, b1⟩
        rw [sameB_t rfl]
        have XZ := Lib.hid (bt HX.out (bt sz_ b1))
        clear hst kk1 kk2 gz sz_ b1
        go_wp2
        go_roundw
        case rel => exact ⟨k + 1, by omega, by go_num, XZ.out⟩
        case measure => simp [intOf]; omega
      · obtain rfl : k = L := by omega
        have XR := Lib.hid (bt X8.out hx)
        have kr := (B8.out.below hx).cells
        simp only [cellsAre, Nat.zero_add, Nat.reduceAdd, and_true] at kr
        clear hx
        go_wp2_with fail
        refine (zneeded_any A1 A2 n1 c1 n2 c2 wf tf wr (I1.out.below XR.out) (T2.out.below XR.out) HTB.out hn2).mono ?_
        rintro e wa ⟨va, rfl, ⟨A13, n13, c13, rfl, il13⟩, hba⟩
        rw [HTL.out] at il13
        have IA := Lib.hid il13
        have XA := Lib.hid (bt XR.out hba)
        have I7A := Lib.hid (I78.out.below (bt HX.out hba))
        clear il13 hba kr
        go_wp2_with fail
        refine (lsame_any A7 A13 n7 c7 n13 c13 tl tl wa I7A.out IA.out).mono ?_
        rintro e wb ⟨vb, rfl, rfl, hbb⟩
        rw [sameB_t rfl]
        have XE := Lib.hid (bt HB1.out (bt XA.out hbb))
        clear hbb
        go_wp2
        go_returns
        exact ⟨_, rfl, rfl, XE.out⟩
end Go.Proofs.Tb
