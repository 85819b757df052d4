/- ProbeTimes returns true. -/
import Derived.Test.YtcjddfhhofoidaaDoorTmb
import Derived.Test.YtcjddfhhofoidaaDoorRc
set_option linter.unusedVariables false
set_option linter.unusedSimpArgs false
namespace Go.Proofs.Tb
open Go.RowKit
attribute [local go_sem] cell_set_same

theorem and7 (y : Int) : ∃ b : Nat, b ≤ 7 ∧ bits .and .i64 y 7 = (b : Int) := by
  have e : bits .and .i64 y 7 = IntKind.i64.wrap ((BitVec.ofInt 64 y &&& BitVec.ofInt 64 7).toNat : Int) := rfl
  have h : (BitVec.ofInt 64 y &&& BitVec.ofInt 64 7).toNat ≤ 7 := by
    rw [BitVec.toNat_and]
    exact Nat.and_le_right
  refine ⟨_, h, ?_⟩
  rw [e]
  generalize (BitVec.ofInt 64 y &&& BitVec.ofInt 64 7).toNat = z at h
  obtain rfl | rfl | rfl | rfl | rfl | rfl | rfl | rfl : z = 0 ∨ z = 1 ∨ z = 2 ∨ z = 3 ∨ z = 4 ∨ z = 5 ∨ z = 6 ∨ z = 7 := by omega
  all_goals rfl
theorem BstR.form {ws : List Int} {ts : List Tt} {v : Value} {w : World} (h : BstR ws ts v w) : ∃ A n c N E, v = .tuple #[.slice A n c, .int .i64 N, .int .i64 E] ∧ (Cv ws ts → N = pC ws ts (allS ws) ∧ E = 0 ∧ SlP TBR w A n c (plL ws ts (allS ws))) := by
  by_cases hc : Cv ws ts
  · obtain ⟨A, n, c, h1, h2⟩ := h.1 hc
    exact ⟨A, n, c, _, _, h1, fun _ => ⟨rfl, rfl, h2⟩⟩
  · exact ⟨_, _, _, _, _, h.2 hc, fun h => absurd h hc⟩
set_option maxHeartbeats 6400000 in
set_option maxRecDepth 100000 in
theorem times_any (A A' : Option Addr) (n c m d : Nat) (y : Int) (ws : List Int) (ts : List Tt) (w : World) (h : Il w A n c ws) (h' : Ts w A' m d ts) (ht : Tab w) :
    Calls Tryd.prog 8 #[.agg #[.slice A n c, .slice A' m d], .int .i64 y] w (Ret (fun v _ => v = .bool true) w) := by
  have H := Lib.hid h
  have H' := Lib.hid h'
  have HT := Lib.hid ht
  obtain ⟨b0, hb0, e0⟩ := and7 y
  obtain ⟨b, hb⟩ : ∃ b, b0 + 1 = b := ⟨_, rfl⟩
  have eb : (b0 : Int) + 1 = (b : Int) := by omega
  clear h h' ht
  go_enter Tryd.func8, Tryd.ntmps8
  go_wp2_with fail
  have x0 : Ext w (w.alloc (.cells #[.slice A n c, .slice A' m d] TCA)) := Ext.allocR _ _
  refine (few_any A A' n c m d ws ts 10 16 (by omega) (by omega) _ (H.out.below x0) (H'.out.below x0)).mono ?_
  rintro e w1 ⟨v1, rfl, ⟨vf, vt, rfl, hf, ht⟩, hb1⟩
  obtain ⟨A1, n1, c1, hvf, il1⟩ := hf.il
  subst hvf
  obtain ⟨A2, n2, c2, hvt, sl2⟩ := ht.slp2
  subst hvt
  have ts2 := sl2.ts
  obtain ⟨wf, hwf⟩ : ∃ x, fewF ws 10 = x := ⟨_, rfl⟩
  obtain ⟨tf, htf⟩ : ∃ x, fewT ts 16 = x := ⟨_, rfl⟩
  rw [hwf] at il1
  rw [htf] at ts2
  have l1 := il1.le
  have l1' := il1.cap
  have l2 := ts2.le
  have l2' := ts2.cap
  have HL1 := Lib.hid il1.len
  have HL2 := Lib.hid ts2.len
  have I1 := Lib.hid il1
  have T2 := Lib.hid ts2
  have HB1 := Lib.hid (bt x0 hb1)
  clear hf ht sl2 il1 ts2 hwf htf x0 hb1
  go_upto_region 2 with fail
  have b3 : Blk (w1.alloc (.cells #[.slice A1 n1 c1, .slice A2 n2 c2] TCA)) w1.heap.size TCA #[.slice A1 n1 c1, .slice A2 n2 c2] := Blk.new_ _ _ rfl
  have x3 : Ext w1 (w1.alloc (.cells #[.slice A1 n1 c1, .slice A2 n2 c2] TCA)) := Ext.allocR _ _
  refine wp_world (fun W3 => Blk W3 w1.heap.size TCA #[.slice A1 n1 c1, .slice A2 n2 c2] ∧ Ext w1 W3) ⟨b3, x3⟩ ?_
  clear b3 x3
  rintro W3 ⟨b3, x3⟩
  obtain ⟨g, hg⟩ : ∃ g, w1.heap.size = g := ⟨_, rfl⟩
  rw [hg] at b3 ⊢
  have B3 := Lib.hid b3
  have X3 := Lib.hid x3
  have c3 := b3.cells
  simp only [cellsAre, Nat.zero_add, Nat.reduceAdd, and_true] at c3
  clear b3 x3 hg
  have hw1 : wrap64 ((b0 : Int) + 1) = (b : Int) := by rw [eb]; unfold wrap64; omega
  go_upto_region 3 with fail
  (try rw [e0])
  (try rw [hw1])

  go_wp2_with fail
  refine (valid_any A1 A2 n1 c1 n2 c2 wf tf W3 (I1.out.below X3.out) (T2.out.below X3.out)).mono ?_
  rintro e w4 ⟨v4, rfl, hv4, hb4⟩
  have X4 := Lib.hid (bt X3.out hb4)
  by_cases hc : Cv wf tf
  rotate_left
  · rw [cvB_f hc] at hv4
    subst hv4
    clear hc hb4
    go_wp2_with fail
    refine (lives_any w4 (HT.out.below (bt HB1.out X4.out))).mono ?_
    rintro e w6 ⟨z6, rfl, rfl, b6⟩
    have X6 := Lib.hid (bt (bt HB1.out X4.out) b6)
    clear b6
    go_wp2
    go_returns
    exact ⟨_, rfl, rfl, X6.out⟩
  · rw [cvB_t hc] at hv4
    subst hv4
    have HC := Lib.hid hc
    have B4 := Lib.hid (B3.out.below hb4)
    have kc := fun w' (hh : Ext w4 w') => (B4.out.below hh).cells
    simp only [cellsAre, Nat.zero_add, Nat.reduceAdd, and_true] at kc
    have hst : Ext w4 w4.drew := Ext.drew _
    clear hb4 hc c3
    go_upto_region 5 with fail
    refine wp_region_adv 6 [⟨4, 6, TCA, #[.slice none 0 0, .slice none 0 0]⟩, ⟨5, 7, TCA, #[.slice none 0 0, .slice none 0 0]⟩] [(0, true, some 28, none), (2, true, some 30, none), (1, false, some 29, none), (3, false, some 31, none)] (by kernel_rfl) (by kernel_rfl) (by kernel_rfl) (by intro it hit; (repeat (rcases List.mem_cons.1 hit with rfl | hit; (focus (intro o ho ev w; injection ho with ho; subst ho; kernel_rfl)))); cases hit) (fun _ _ _ _ _ => ⟨fun h => h, fun h => h⟩) hst ?_
    repeat (first | (refine wpSeq_pure (v := ?_) rfl ?_ ?_; rotate_left 1; (focus (intro wq_ hSq_; (try dsimp only at hSq_); go_simp; (try with_reducible rfl); done)); (try simp only [Act.put, List.setIfInBounds_toArray, List.set_cons_zero, List.set_cons_succ])) | (refine wpSeq_pureG (v := ?_) rfl rfl ?_ ?_; rotate_left 1; (focus (intro wq_ hSq_; (try dsimp only at hSq_); go_simp; (try with_reducible rfl); done)); (try simp only [Act.put, List.setIfInBounds_toArray, List.set_cons_zero, List.set_cons_succ])) | (refine wpSeq_off rfl rfl ?_; (try simp only [Act.put, List.setIfInBounds_toArray, List.set_cons_zero, List.set_cons_succ])))
    first | refine wpSeq_call rfl (fun u1 g1 s1 K hK => ?_) | refine wpSeq_callG rfl rfl (fun u1 g1 s1 K hK => ?_)
    go_simp
    refine (few_any A1 A2 n1 c1 n2 c2 wf tf 10 16 (by omega) (by omega) u1 (I1.out.below (bt X4.out s1)) (T2.out.below (bt X4.out s1))).mono ?_
    rintro e y1 ⟨z1, rfl, ⟨vf3, vt3, rfl, hf3, ht3⟩, b1⟩
    rw [(few_same HC.out).1] at hf3
    rw [(few_same HC.out).2] at ht3
    obtain ⟨A3, n3, c3, hv3, il3⟩ := hf3.il
    subst hv3
    obtain rfl : n1 = n3 := HL1.out.symm.trans il3.len
    obtain ⟨A4, n4, c4, hv4, sl4⟩ := ht3.slp2
    subst hv4
    obtain rfl : n2 = n4 := HL2.out.symm.trans sl4.len
    have q3 := fun q (e : (Value.slice A3 n1 c3).ownBlock = some q) => own_size hf3 e
    have q4 := fun q (e : (Value.slice A4 n2 c4).ownBlock = some q) => (by obtain ⟨d4, h4, _⟩ := ht3; exact own_size h4 e : q < y1.heap.size)
    clear il3 sl4
    (try go_wp2_with fail)
    refine hK.out _ _ b1 ?_
    clear hK K
    (try simp only [Act.put, List.setIfInBounds_toArray, List.set_cons_zero, List.set_cons_succ])
    repeat (first | (refine wpSeq_pure (v := ?_) rfl ?_ ?_; rotate_left 1; (focus (intro wq_ hSq_; (try dsimp only at hSq_); go_simp; (try with_reducible rfl); done)); (try simp only [Act.put, List.setIfInBounds_toArray, List.set_cons_zero, List.set_cons_succ])) | (refine wpSeq_pureG (v := ?_) rfl rfl ?_ ?_; rotate_left 1; (focus (intro wq_ hSq_; (try dsimp only at hSq_); go_simp; (try with_reducible rfl); done)); (try simp only [Act.put, List.setIfInBounds_toArray, List.set_cons_zero, List.set_cons_succ])) | (refine wpSeq_off rfl rfl ?_; (try simp only [Act.put, List.setIfInBounds_toArray, List.set_cons_zero, List.set_cons_succ])))
    first | refine wpSeq_call rfl (fun u2 g2 s2 K hK => ?_) | refine wpSeq_callG rfl rfl (fun u2 g2 s2 K hK => ?_)
    go_simp
    refine (few_any A1 A2 n1 c1 n2 c2 wf tf 10 16 (by omega) (by omega) u2 (I1.out.below (bt X4.out s2)) (T2.out.below (bt X4.out s2))).mono ?_
    rintro e y2 ⟨z2, rfl, ⟨vf5, vt5, rfl, hf5, ht5⟩, b2⟩
    rw [(few_same HC.out).1] at hf5
    rw [(few_same HC.out).2] at ht5
    obtain ⟨A5, n5, c5, hv5, il5⟩ := hf5.il
    subst hv5
    obtain rfl : n1 = n5 := HL1.out.symm.trans il5.len
    obtain ⟨A6, n6, c6, hv6, sl6⟩ := ht5.slp2
    subst hv6
    obtain rfl : n2 = n6 := HL2.out.symm.trans sl6.len
    clear il5 sl6
    (try go_wp2_with fail)
    refine hK.out _ _ b2 ?_
    clear hK K
    (try simp only [Act.put, List.setIfInBounds_toArray, List.set_cons_zero, List.set_cons_succ])
    repeat (first | (refine wpSeq_pure (v := ?_) rfl ?_ ?_; rotate_left 1; (focus (intro wq_ hSq_; (try dsimp only at hSq_); go_simp; (try with_reducible rfl); done)); (try simp only [Act.put, List.setIfInBounds_toArray, List.set_cons_zero, List.set_cons_succ])) | (refine wpSeq_pureG (v := ?_) rfl rfl ?_ ?_; rotate_left 1; (focus (intro wq_ hSq_; (try dsimp only at hSq_); go_simp; (try with_reducible rfl); done)); (try simp only [Act.put, List.setIfInBounds_toArray, List.set_cons_zero, List.set_cons_succ])) | (refine wpSeq_off rfl rfl ?_; (try simp only [Act.put, List.setIfInBounds_toArray, List.set_cons_zero, List.set_cons_succ])))
    intro wz gz sz_
    (try simp only [endJ, List.drop_succ_cons, List.drop_zero])
    intro R6 hr6 hu6 hB6
    intro R7 hr7 hu7 hB7
    (try simp only [endJ, Act.put, ptr, List.setIfInBounds_toArray, List.set_cons_zero, List.set_cons_succ])
    have hx1 : Ext y1 wz := bt g2 (bt b2 gz)
    have hs1 := Ext.size s1
    have hs2 := Ext.size b1
    have hs3 := Ext.size g2
    have hu76 : R6 ≠ R7 := fun e => hu7 (by rw [e]; exact List.mem_singleton.2 rfl)
    have tca : TFA ≠ TCA := by decide
    have T0 : TimR w4 u1.heap.size u2.heap.size g R6 R7 A1 A2 A3 A4 A5 A6 n1 n2 c1 c2 c3 c4 c5 c6 wf wf tf tf ((((wz.setCell ⟨R6, 0, none⟩ (.slice A3 n1 c3)).setCell ⟨R6, 1, none⟩ (.slice A4 n2 c4)).setCell ⟨R7, 0, none⟩ (.slice A5 n1 c5)).setCell ⟨R7, 1, none⟩ (.slice A6 n2 c6)) := by
      have b6 := ((hB6.set_ 0 (.slice A3 n1 c3)).set_ 1 (.slice A4 n2 c4))
      have b7 := ((hB7.far (p := ⟨R6, 0, none⟩) hu76.symm (.slice A3 n1 c3)).far (p := ⟨R6, 1, none⟩) hu76.symm (.slice A4 n2 c4))
      have h4 := (B4.out.below sz_)
      have hg6 : g ≠ R6 := by have := B4.out.lt; omega
      have hg7 : g ≠ R7 := by have := B4.out.lt; omega
      exact ⟨(((h4.far (p := ⟨R6, 0, none⟩) hg6 _).far (p := ⟨R6, 1, none⟩) hg6 _).far (p := ⟨R7, 0, none⟩) hg7 _).far (p := ⟨R7, 1, none⟩) hg7 _,
        (b6.far (p := ⟨R7, 0, none⟩) hu76 _).far (p := ⟨R7, 1, none⟩) hu76 _, (b7.set_ 0 _).set_ 1 _,
        (((((hf3.below hx1).far hB6 tca 0 _).far (hB6.set_ 0 _) tca 1 _).far b7 tca 0 _).far (b7.set_ 0 _) tca 1 _),
        (((((ht3.below hx1).far hB6 (by decide) (by decide) 0 _).far (hB6.set_ 0 _) (by decide) (by decide) 1 _).far b7 (by decide) (by decide) 0 _).far (b7.set_ 0 _) (by decide) (by decide) 1 _),
        (((((hf5.below gz).far hB6 tca 0 _).far (hB6.set_ 0 _) tca 1 _).far b7 tca 0 _).far (b7.set_ 0 _) tca 1 _),
        (((((ht5.below gz).far hB6 (by decide) (by decide) 0 _).far (hB6.set_ 0 _) (by decide) (by decide) 1 _).far b7 (by decide) (by decide) 0 _).far (b7.set_ 0 _) (by decide) (by decide) 1 _),
        fun q e => Nat.lt_of_lt_of_le (q3 q e) hs3, fun q e => Nat.lt_of_lt_of_le (q4 q e) hs3, Nat.le_trans hs2 hs3, hs1,
        (((sz_.setCell hr6 _).setCell hr6 _).setCell hr7 _).setCell hr7 _⟩
    have HT0 := Lib.hid T0
    have kR6 := hB6.cells
    have kR7 := hB7.cells
    have f6 := hB6.free
    have f7 := hB7.free
    have n76 := hu76.symm
    simp only [cellsAre, Nat.zero_add, Nat.reduceAdd, and_true] at kR6 kR7
    obtain ⟨b3_, hb3_⟩ : ∃ q, u1.heap.size = q := ⟨_, rfl⟩
    obtain ⟨b5_, hb5_⟩ : ∃ q, u2.heap.size = q := ⟨_, rfl⟩
    rw [hb3_, hb5_] at HT0
    have tca := ()
    clear tca hst kc g1 s1 b1 g2 s2 b2 gz sz_ hf3 ht3 hf5 ht5 q3 q4 hx1 hs1 hs2 hs3 hu6 hu7 hr6 hr7 hB6 hB7 T0 hb3_ hb5_
    go_upto_region 6 with fail
    have HB4 := Lib.hid (bt HB1.out X4.out)
    have hb8 : b ≤ 8 := by omega
    refine wp_world (fun W => TimR w4 b3_ b5_ g R6 R7 A1 A2 A3 A4 A5 A6 n1 n2 c1 c2 c3 c4 c5 c6 wf wf tf tf W) (by exact HT0.out) ?_
    rintro W5 T5
    have HT5 := Lib.hid T5
    clear kR6 kR7 f6 f7 n76 hu76 HT0 T5 B4 B3
    go_wp2_with fail
    go_loopw [8] (fun i wr => ∃ (k : Nat) (l : List Tt), k ≤ n2 ∧ i = .int .i64 (k : Int) ∧ ScT b k tf l ∧ TimR w4 b3_ b5_ g R6 R7 A1 A2 A3 A4 A5 A6 n1 n2 c1 c2 c3 c4 c5 c6 wf wf tf l wr) (fun i _ => n2 - (intOf i).toNat)
    case atStart => exact ⟨0, tf, by omega, rfl, ScT.zero _ _, HT5.out⟩
    case round =>
      clear HT5
      obtain ⟨k, l, hk, rfl, hsc, htr⟩ := hrel
      have HS := Lib.hid hsc
      have HR := Lib.hid htr
      have cc := htr.bc.cells
      have ck := htr.bk.cells
      simp only [cellsAre, Nat.zero_add, Nat.reduceAdd, and_true] at cc ck
      by_cases hkm : k < n2
      · have pk : (k : Int) < (n2 : Int) := by omega
        have hkl : k < l.length := by rw [hsc.1, HL2.out]; exact hkm
        have hA4 : ∃ q, A4 = some ⟨q, 0, none⟩ := by obtain ⟨d4, h4, hp⟩ := htr.t4; exact own_addr h4 (by rw [hp.len]; omega)
        obtain ⟨q, rfl⟩ := hA4
        obtain ⟨qb, cur, hq⟩ := (by obtain ⟨d4, h4, _⟩ := htr.t4; exact own_blk h4 : b3_ ≤ q ∧ ∃ cur, Blk _ q TTE cur)
        have fq := hq.free (k * 2)
        obtain ⟨bb, oo, hbo, hcell⟩ := htr.t4.ts_.at_ (by omega)
        injection hbo with hbo
        injection hbo with e1 e2
        subst e1 e2
        have ck0 := (hcell k hkm).1
        rw [Nat.zero_add, (hsc.2 k).1, if_neg (Nat.lt_irrefl k)] at ck0
        obtain ⟨x, hx⟩ : ∃ x, tC tf k = x := ⟨_, rfl⟩
        have hxr : 0 ≤ x ∧ x ≤ 1000 := by rw [← hx]; exact (HC.out.2.2 k (by rw [HL2.out]; exact hkm)).1
        have hN := hsc.next (by rw [HL2.out]; exact hkm)
        have hT := htr.setT k hkl (tC tf k * (b : Int))
        rw [hx] at ck0 hN hT
        have hmul : 0 ≤ x * (b : Int) ∧ x * (b : Int) ≤ 8000 := by
          refine ⟨Int.mul_nonneg hxr.1 (by omega), ?_⟩
          exact Int.le_trans (Int.mul_le_mul hxr.2 (show (b : Int) ≤ 8 by omega) (by omega) (by omega)) (by decide)
        have hwm : wrap64 (x * (b : Int)) = x * (b : Int) := by unfold wrap64; omega
        have HN := Lib.hid hN
        have HTT := Lib.hid hT
        clear hsc htr hcell hq hN hT hx qb
        go_wp2
        go_roundw
        case rel =>
          exact ⟨k + 1, _, by omega, by go_num, HN.out, HTT.out⟩
        case measure => simp [intOf]; omega
      · have hkm2 : k = n2 := by omega
        subst hkm2
        have hl := HS.out.end_ (by rw [HL2.out]; exact Nat.le_refl _)
        subst hl
        clear hsc htr HS ck
        go_upto_region 10 with fail
        clear cc
        go_wp2_with fail
        go_loopw [9] (fun i wr => ∃ (j : Nat) (l : List Int), j ≤ n1 ∧ i = .int .i64 (j : Int) ∧ ScF b j wf l ∧ TimR w4 b3_ b5_ g R6 R7 A1 A2 A3 A4 A5 A6 n1 k c1 c2 c3 c4 c5 c6 wf l tf (scT b tf) wr) (fun i _ => n1 - (intOf i).toNat)
        case atStart => exact ⟨0, wf, by omega, rfl, ScF.zero _ _, HR.out⟩
        case round =>
          clear HR
          obtain ⟨j, l, hj, rfl, hsc, htr⟩ := hrel
          have HS := Lib.hid hsc
          have HR := Lib.hid htr
          have cc := htr.bc.cells
          have ck := htr.bw.cells
          simp only [cellsAre, Nat.zero_add, Nat.reduceAdd, and_true] at cc ck
          by_cases hjn : j < n1
          · have pj : (j : Int) < (n1 : Int) := by omega
            have hA5 : ∃ q, A5 = some ⟨q, 0, none⟩ := own_addr htr.f5 (by rw [hsc.1, HL1.out]; omega)
            obtain ⟨q, rfl⟩ := hA5
            obtain ⟨qb, cur, hq⟩ := own_blk htr.f5
            have fq := hq.free j
            obtain ⟨bb, oo, hbo, hcell⟩ := htr.f5.il_.at_ (by omega)
            injection hbo with hbo
            injection hbo with e1 e2
            subst e1 e2
            have ck0 := hcell j hjn
            rw [Nat.zero_add, hsc.2 j, if_neg (Nat.lt_irrefl j)] at ck0
            obtain ⟨x, hx⟩ : ∃ x, wf.getD j 0 = x := ⟨_, rfl⟩
            have hxr : 0 ≤ x ∧ x ≤ 1000 := by rw [← hx]; exact okF_all HC.out.2.1 j
            have hN := hsc.next (by rw [HL1.out]; exact hjn)
            have hT := htr.setF j (wf.getD j 0 * (b : Int))
            rw [hx] at ck0 hN hT
            have hmul : 0 ≤ x * (b : Int) ∧ x * (b : Int) ≤ 8000 := by
              refine ⟨Int.mul_nonneg hxr.1 (by omega), ?_⟩
              exact Int.le_trans (Int.mul_le_mul hxr.2 (show (b : Int) ≤ 8 by omega) (by omega) (by omega)) (by decide)
            have hwm : wrap64 (x * (b : Int)) = x * (b : Int) := by unfold wrap64; omega
            have HN := Lib.hid hN
            have HTT := Lib.hid hT
            clear hsc htr hcell hq hN hT hx qb
            go_wp2
            go_roundw
            case rel => exact ⟨j + 1, _, by omega, by go_num, HN.out, HTT.out⟩
            case measure => simp [intOf]; omega
          · have hjn2 : j = n1 := by omega
            subst hjn2
            have hl := HS.out.end_ (by rw [HL1.out]; exact Nat.le_refl _)
            subst hl
            have HB6 := Lib.hid htr.bk
            have HB7 := Lib.hid htr.bw
            have I3 := Lib.hid htr.f3.il_
            have T4 := Lib.hid htr.t4.ts_
            have I5 := Lib.hid htr.f5.il_
            have T6 := Lib.hid htr.t6.ts_
            have X5 := Lib.hid (bt X4.out htr.bl)
            have B5C := Lib.hid htr.bc
            clear hsc htr HS ck HR
            go_upto_region 14 with fail
            clear cc
            have cc := B5C.out.cells
            simp only [cellsAre, Nat.zero_add, Nat.reduceAdd, and_true] at cc
            go_wp2_with fail
            refine (rbest_any A1 A2 j c1 k c2 wf tf wr (I1.out.below X5.out) (T2.out.below X5.out) (HT.out.below (bt HB1.out X5.out))).mono ?_
            rintro e w6 ⟨v6, rfl, hv6, b6⟩
            obtain ⟨A7, n7, c7, hv7, sp7⟩ := hv6.1 HC.out
            obtain ⟨P, hP⟩ : ∃ x, pC wf tf (allS wf) = x := ⟨_, rfl⟩
            have hPb := pC_bd HC.out (s := allS wf) (Nat.lt_of_lt_of_le (allS_lt wf) (pow_le_1024 HC.out.len10))
            rw [hP] at hv7 hPb
            obtain ⟨M, hM⟩ : ∃ x, (b : Int) * P = x := ⟨_, rfl⟩
            have hMb : 0 ≤ M ∧ M ≤ 8 * 10240000000 := by
              rw [← hM]
              exact ⟨Int.mul_nonneg (by omega) hPb.1, Int.mul_le_mul (show (b : Int) ≤ 8 by omega) hPb.2 hPb.1 (by omega)⟩
            have hwM : wrap64 ((b : Int) * P) = M := by rw [hM]; unfold wrap64; omega
            have HPM := Lib.hid (And.intro hP hM)
            subst hv7
            clear hP hM hPb
            have X6 := Lib.hid (bt X5.out b6)
            have SP7 := Lib.hid sp7
            have k6 := (HB6.out.below b6).cells
            have B7 := Lib.hid (HB7.out.below b6)
            have B6 := Lib.hid (HB6.out.below b6)
            have I3 := Lib.hid (I3.out.below b6)
            have T4 := Lib.hid (T4.out.below b6)
            have I5 := Lib.hid (I5.out.below b6)
            have T6 := Lib.hid (T6.out.below b6)
            simp only [cellsAre, Nat.zero_add, Nat.reduceAdd, and_true] at k6
            clear sp7 hv6 b6 cc HB6 HB7
            go_wp2_with fail
            refine (rbest_any A3 A4 j c3 k c4 wf (scT b tf) w6 I3.out T4.out (HT.out.below (bt HB1.out X6.out))).mono ?_
            rintro e w7 ⟨v7, rfl, hv7, b7⟩
            obtain ⟨A8, n8, c8, N8, E8, hv8, hf8⟩ := hv7.form
            subst hv8
            have F8 : Hid (Cv wf (scT b tf) → N8 = M ∧ E8 = 0 ∧ SlP TBR w7 A8 n8 c8 (plL wf tf (allS wf))) := show _ from fun h => by
              have h1 := hf8 h
              rw [pC_costs HC.out (show 0 < b by omega), plL_costs HC.out (show 0 < b by omega), HPM.out.1, HPM.out.2] at h1
              exact h1
            have X7 := Lib.hid (bt X6.out b7)
            have SP7 := Lib.hid (SP7.out.below b7)
            have k7 := (B7.out.below b7).cells
            have B7 := Lib.hid (B7.out.below b7)
            have B6 := Lib.hid (B6.out.below b7)
            have I3 := Lib.hid (I3.out.below b7)
            have T4 := Lib.hid (T4.out.below b7)
            have I5 := Lib.hid (I5.out.below b7)
            have T6 := Lib.hid (T6.out.below b7)
            simp only [cellsAre, Nat.zero_add, Nat.reduceAdd, and_true] at k7
            clear hf8 hv7 b7 k6
            go_wp2_with fail
            refine (rbest_any A5 A6 j c5 k c6 (scF b wf) tf w7 I5.out T6.out (HT.out.below (bt HB1.out X7.out))).mono ?_
            rintro e w8 ⟨v8, rfl, hv8, b8⟩
            obtain ⟨A9, n9, c9, N9, E9, hv9, hf9⟩ := hv8.form
            subst hv9
            have F9 : Hid (Cv (scF b wf) tf → N9 = M ∧ E9 = 0 ∧ SlP TBR w8 A9 n9 c9 (plL wf tf (allS wf))) := show _ from fun h => by
              have h1 := hf9 h
              rw [allS_sc, pC_weights HC.out (show 0 < b by omega), plL_weights HC.out (show 0 < b by omega), HPM.out.1, HPM.out.2] at h1
              exact h1
            have F8 : Hid (Cv wf (scT b tf) → N8 = M ∧ E8 = 0 ∧ SlP TBR w8 A8 n8 c8 (plL wf tf (allS wf))) := show _ from fun h => ⟨(F8.out h).1, (F8.out h).2.1, (F8.out h).2.2.below b8⟩
            have X8 := Lib.hid (bt X7.out b8)
            have SP7 := Lib.hid (SP7.out.below b8)
            have B7 := Lib.hid (B7.out.below b8)
            have B6 := Lib.hid (B6.out.below b8)
            have I3 := Lib.hid (I3.out.below b8)
            have T4 := Lib.hid (T4.out.below b8)
            have I5 := Lib.hid (I5.out.below b8)
            have T6 := Lib.hid (T6.out.below b8)
            clear hf9 hv8 b8 k7
            go_wp2_with fail
            refine (lives_any w8 (HT.out.below (bt HB1.out X8.out))).mono ?_
            rintro e w9 ⟨z9, rfl, rfl, b9⟩
            have X9 := Lib.hid (bt X8.out b9)
            have SP7 := Lib.hid (SP7.out.below b9)
            have B7 := Lib.hid (B7.out.below b9)
            have F9 : Hid (Cv (scF b wf) tf → N9 = M ∧ E9 = 0 ∧ SlP TBR w9 A9 n9 c9 (plL wf tf (allS wf))) := show _ from fun h => ⟨(F9.out h).1, (F9.out h).2.1, (F9.out h).2.2.below b9⟩
            have I3 := Lib.hid (I3.out.below b9)
            have T4 := Lib.hid (T4.out.below b9)
            have I5 := Lib.hid (I5.out.below b9)
            have T6 := Lib.hid (T6.out.below b9)
            have k9 := (B6.out.below b9).cells
            simp only [cellsAre, Nat.zero_add, Nat.reduceAdd, and_true] at k9
            by_cases hc8 : Cv wf (scT b tf)
            · obtain ⟨hN8, hE8, sp8⟩ := F8.out hc8
              have SP8 := Lib.hid (sp8.below b9)
              have HC8 := Lib.hid hc8
              have hN8 := hN8.symm
              subst hN8
              subst hE8
              clear sp8 F8 hc8 b9
              go_wp2_with fail
              refine (valid_any A3 A4 j c3 k c4 wf (scT b tf) w9 I3.out T4.out).mono ?_
              rintro e w10 ⟨z10, rfl, hz10, b10⟩
              rw [cvB_t HC8.out] at hz10
              subst hz10
              clear k9
              have BB := Lib.hid b10
              clear b10
              go_wp2_with fail
              refine (zbranches_any A7 A8 n7 c7 n8 c8 _ _ w10 (SP7.out.below BB.out).ts (SP8.out.below BB.out).ts).mono ?_
              rintro e w13 ⟨z13, rfl, hz13, b13⟩
              rw [brB_t rfl] at hz13
              subst hz13
              have b14 := bt BB.out b13
              clear b13 BB
              have X10 := Lib.hid (bt X9.out b14)
              have SP7 := Lib.hid (SP7.out.below b14)
              have F9 : Hid (Cv (scF b wf) tf → N9 = M ∧ E9 = 0 ∧ SlP TBR w13 A9 n9 c9 (plL wf tf (allS wf))) := show _ from fun h => ⟨(F9.out h).1, (F9.out h).2.1, (F9.out h).2.2.below b14⟩
              have k10 := (B7.out.below b14).cells
              have I5 := Lib.hid (I5.out.below b14)
              have T6 := Lib.hid (T6.out.below b14)
              simp only [cellsAre, Nat.zero_add, Nat.reduceAdd, and_true] at k10
              clear b14
              (try clear k9)
              go_wp2_with fail
              refine (valid_any A5 A6 j c5 k c6 (scF b wf) tf w13 I5.out T6.out).mono ?_
              rintro e w11 ⟨z11, rfl, hz11, b11⟩
              have X11 := Lib.hid (bt X10.out b11)
              by_cases hc9 : Cv (scF b wf) tf
              · rw [cvB_t hc9] at hz11
                subst hz11
                obtain ⟨hN9, hE9, sp9⟩ := F9.out hc9
                have SP9 := Lib.hid (sp9.below b11)
                have SP7 := Lib.hid (SP7.out.below b11)
                have hN9 := hN9.symm
                subst hN9
                subst hE9
                clear sp9 F9 hc9 b11 k10
                go_wp2_with fail
                refine (zbranches_any A7 A9 n7 c7 n9 c9 _ _ w11 SP7.out.ts SP9.out.ts).mono ?_
                rintro e w12 ⟨z12, rfl, hz12, b12⟩
                rw [brB_t rfl] at hz12
                subst hz12
                have H12 := Lib.hid (bt HB1.out (bt X11.out b12))
                clear b12
                go_wp2
                go_returns
                exact ⟨_, rfl, rfl, H12.out⟩
              · rw [cvB_f hc9] at hz11
                subst hz11
                have H12 := Lib.hid (bt HB1.out X11.out)
                clear b11 hc9 F9 k10
                go_wp2
                go_returns
                exact ⟨_, rfl, rfl, H12.out⟩
            · have HC8 := Lib.hid hc8
              clear F8 hc8 b9
              go_wp2_with fail
              refine (valid_any A3 A4 j c3 k c4 wf (scT b tf) w9 I3.out T4.out).mono ?_
              rintro e w10 ⟨z10, rfl, hz10, b10⟩
              rw [cvB_f HC8.out] at hz10
              subst hz10
              have X10 := Lib.hid (bt X9.out b10)
              have SP7 := Lib.hid (SP7.out.below b10)
              have F9 : Hid (Cv (scF b wf) tf → N9 = M ∧ E9 = 0 ∧ SlP TBR w10 A9 n9 c9 (plL wf tf (allS wf))) := show _ from fun h => ⟨(F9.out h).1, (F9.out h).2.1, (F9.out h).2.2.below b10⟩
              have k10 := (B7.out.below b10).cells
              have I5 := Lib.hid (I5.out.below b10)
              have T6 := Lib.hid (T6.out.below b10)
              simp only [cellsAre, Nat.zero_add, Nat.reduceAdd, and_true] at k10
              clear b10
              (try clear k9)
              go_wp2_with fail
              refine (valid_any A5 A6 j c5 k c6 (scF b wf) tf w10 I5.out T6.out).mono ?_
              rintro e w11 ⟨z11, rfl, hz11, b11⟩
              have X11 := Lib.hid (bt X10.out b11)
              by_cases hc9 : Cv (scF b wf) tf
              · rw [cvB_t hc9] at hz11
                subst hz11
                obtain ⟨hN9, hE9, sp9⟩ := F9.out hc9
                have SP9 := Lib.hid (sp9.below b11)
                have SP7 := Lib.hid (SP7.out.below b11)
                have hN9 := hN9.symm
                subst hN9
                subst hE9
                clear sp9 F9 hc9 b11 k10
                go_wp2_with fail
                refine (zbranches_any A7 A9 n7 c7 n9 c9 _ _ w11 SP7.out.ts SP9.out.ts).mono ?_
                rintro e w12 ⟨z12, rfl, hz12, b12⟩
                rw [brB_t rfl] at hz12
                subst hz12
                have H12 := Lib.hid (bt HB1.out (bt X11.out b12))
                clear b12
                go_wp2
                go_returns
                exact ⟨_, rfl, rfl, H12.out⟩
              · rw [cvB_f hc9] at hz11
                subst hz11
                have H12 := Lib.hid (bt HB1.out X11.out)
                clear b11 hc9 F9 k10
                go_wp2
                go_returns
                exact ⟨_, rfl, rfl, H12.out⟩
end Go.Proofs.Tb
