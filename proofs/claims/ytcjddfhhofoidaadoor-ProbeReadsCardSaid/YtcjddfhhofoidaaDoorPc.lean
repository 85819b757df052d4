/- Contract of the reference's Valid, for cases of faults and tests. -/
import Derived.Test.YtcjddfhhofoidaaDoorPb
set_option linter.unusedVariables false
set_option linter.unusedSimpArgs false
namespace Go.Proofs.Tb
open Go.RowKit
attribute [local go_sem] cell_set_same

open Classical in
noncomputable def cvB (ws : List Int) (ts : List Tt) : Bool := decide (Cv ws ts)
theorem cvB_t {ws : List Int} {ts : List Tt} (h : Cv ws ts) : cvB ws ts = true := by unfold cvB; simpa using h
theorem cvB_f {ws : List Int} {ts : List Tt} (h : ¬ Cv ws ts) : cvB ws ts = false := by unfold cvB; simpa using h
/-- The first k numbers rise, from 0 on, below a limit. -/
def RisK (xs : List Int) (lim : Int) (k : Nat) : Prop := ∀ j, j < k → prv xs j < xs.getD j 0 ∧ xs.getD j 0 < lim
theorem RisK.ge {xs : List Int} {lim : Int} {k : Nat} (h : RisK xs lim k) : -1 ≤ prv xs k := by
  induction k with
  | zero => rw [prv_zero]; omega
  | succ k ih =>
    have h1 := ih (fun j hj => h j (by omega))
    have h2 := (h k (by omega)).1
    rw [prv_succ]; omega
theorem RisK.succ {xs : List Int} {lim : Int} {k : Nat} (h : RisK xs lim k) (h1 : prv xs k < xs.getD k 0) (h2 : xs.getD k 0 < lim) : RisK xs lim (k + 1) := fun j hj => by
  rcases Nat.lt_or_eq_of_le (Nat.le_of_lt_succ hj) with h' | rfl
  · exact h j h'
  · exact ⟨h1, h2⟩

set_option maxHeartbeats 6400000 in
set_option maxRecDepth 100000 in
theorem zvalid_any (A A' : Option Addr) (n c m d : Nat) (ws : List Int) (ts : List Tt) (w : World) (h : Il w A n c ws) (h' : Ts w A' m d ts) :
    Calls Tryd.prog 48 #[.slice A n c, .slice A' m d] w (Ret (fun v _ => v = .bool (cvB ws ts)) w) := by
  have hn := h.le
  have hc := h.cap
  have hm := h'.le
  have hd := h'.cap
  have HL := Lib.hid h.len
  have HL' := Lib.hid h'.len
  have H := Lib.hid h
  have H' := Lib.hid h'
  clear h h'
  have HI1 := Lib.hid (fun W => zin_any (n : Int) 1 10 W)
  by_cases b1 : 1 ≤ n ∧ n ≤ 10
  rotate_left
  · have HF := Lib.hid (cvB_f (ws := ws) (ts := ts) (fun h => b1 (by rw [← HL.out]; exact ⟨h.1.1, h.1.2.1⟩)))
    rw [inB_f (v := (n : Int)) (l := 1) (h := 10) (by omega)] at HI1
    clear b1
    go_enter Tryd.func48, Tryd.ntmps48
    go_wp2_with fail
    refine (HI1.out _).mono ?_
    rintro e w1 ⟨rfl, rfl⟩
    go_wp2
    go_returns
    exact ⟨_, rfl, by rw [HF.out]; rfl, Below.refl _ _⟩
  rw [inB_t (v := (n : Int)) (l := 1) (h := 10) (by omega) (by omega)] at HI1
  by_cases b3 : m ≤ 16
  rotate_left
  · have HF := Lib.hid (cvB_f (ws := ws) (ts := ts) (fun h => b3 (by rw [← HL'.out]; exact h.1.2.2)))
    have d3 : decide ((16 : Int) < (m : Int)) = true := by simp; omega
    go_enter Tryd.func48, Tryd.ntmps48
    go_wp2_with fail
    refine (HI1.out _).mono ?_
    rintro e w1 ⟨rfl, rfl⟩
    go_wp2
    go_returns
    exact ⟨_, rfl, by rw [HF.out]; rfl, Below.refl _ _⟩
  have d3 : decide ((16 : Int) < (m : Int)) = false := by simp; omega
  have HB := Lib.hid (show 1 ≤ n ∧ n ≤ 10 ∧ m ≤ 16 from ⟨b1.1, b1.2, b3⟩)
  go_enter Tryd.func48, Tryd.ntmps48
  go_wp2_with fail
  refine (HI1.out _).mono ?_
  rintro e w1 ⟨rfl, rfl⟩
  clear HI1
  go_wp2_with fail
  go_loopw [5] (fun i wr => ∃ k : Nat, k ≤ n ∧ i = .int .i64 (k : Int) ∧ okF ws k ∧ Below w1.heap.size w1 wr) (fun i _ => n - (intOf i).toNat)
  case atStart => exact ⟨0, by omega, rfl, okF_zero ws, Below.refl _ _⟩
  case round =>
    obtain ⟨k, hk, rfl, hf, hbw⟩ := hrel
    have HBW := Lib.hid hbw
    have HF := Lib.hid hf
    clear hbw hf
    by_cases hkn : k < n
    · have g1 : decide ((k : Int) < (n : Int)) = true := by simp; omega
      obtain ⟨t, o, rfl, hcell⟩ := (H.out.below HBW.out).at_ (by omega)
      have ck := hcell k hkn
      obtain ⟨x, hx⟩ : ∃ x, ws.getD k 0 = x := ⟨_, rfl⟩
      rw [hx] at ck
      have HX := Lib.hid hx
      clear hx hcell
      go_wp2_with fail
      refine (zin_any x 1 1000 _).mono ?_
      rintro e w2 ⟨rfl, rfl⟩
      by_cases g2 : 1 ≤ x ∧ x ≤ 1000
      · rw [inB_t g2.1 g2.2]
        have HN := Lib.hid (okF_succ.2 ⟨HF.out, by rw [HX.out]; exact g2⟩)
        clear g2
        go_wp2
        go_roundw
        case rel => exact ⟨k + 1, by omega, by go_num, HN.out, HBW.out⟩
        case measure => simp [intOf]; omega
      · rw [inB_f g2]
        have HQ := Lib.hid (cvB_f (ws := ws) (ts := ts) (fun h => g2 (by rw [← HX.out]; exact h.2.1 k (by rw [HL.out]; exact hkn))))
        clear g2
        go_wp2
        go_returns
        exact ⟨_, rfl, by rw [HQ.out]; rfl, HBW.out⟩
    · have hkn2 : k = n := by omega
      subst hkn2
      have g1 : decide ((k : Int) < (k : Int)) = false := by simp
      obtain ⟨W2, hW2⟩ : ∃ W, W = wr := ⟨_, rfl⟩
      subst hW2
      go_wp2_with fail
      clear g1
      go_loopw [6] (fun i wr => ∃ j : Nat, j ≤ m ∧ i = .int .i64 (j : Int) ∧ okT k ts j ∧ Below w1.heap.size w1 wr) (fun i _ => m - (intOf i).toNat)
      case atStart => exact ⟨0, by omega, rfl, okT_zero k ts, HBW.out⟩
      case round =>
        clear HBW
        obtain ⟨j, hj, rfl, ht, hbw⟩ := hrel
        have HBW := Lib.hid hbw
        have HT := Lib.hid ht
        clear hbw ht
        by_cases hjm : j < m
        rotate_left
        · have hjm2 : j = m := by omega
          subst hjm2
          have g1 : decide ((j : Int) < (j : Int)) = false := by simp
          have HQ := Lib.hid (cvB_t (ws := ws) (ts := ts) (by unfold Cv; rw [HL.out, HL'.out]; exact ⟨HB.out, HF.out, HT.out⟩))
          go_wp2
          go_returns
          exact ⟨_, rfl, by rw [HQ.out]; rfl, HBW.out⟩
        have g1 : decide ((j : Int) < (m : Int)) = true := by simp; omega
        obtain ⟨t, o, rfl, hcell⟩ := (H'.out.below HBW.out).at_ (by omega)
        obtain ⟨ck1, A2, n2, c2, ck2, hil⟩ := hcell j hjm
        have hn2 := hil.le
        have hc2 := hil.cap
        have HIL := Lib.hid hil
        obtain ⟨x, hx⟩ : ∃ x, tC ts j = x := ⟨_, rfl⟩
        rw [hx] at ck1
        have HX := Lib.hid hx
        clear hx hcell hil
        go_wp2_with fail
        refine (zin_any x 0 1000 _).mono ?_
        rintro e w2 ⟨rfl, rfl⟩
        by_cases g2 : 0 ≤ x ∧ x ≤ 1000
        rotate_left
        · rw [inB_f g2]
          have HQ := Lib.hid (cvB_f (ws := ws) (ts := ts) (fun h => g2 (by rw [← HX.out]; exact (h.2.2 j (by rw [HL'.out]; exact hjm)).1)))
          clear g2
          go_wp2
          go_returns
          exact ⟨_, rfl, by rw [HQ.out]; rfl, HBW.out⟩
        rw [inB_t g2.1 g2.2]
        have HCO := Lib.hid (show 0 ≤ tC ts j ∧ tC ts j ≤ 1000 by rw [HX.out]; exact g2)
        clear g2 ck1
        obtain ⟨W3, hW3⟩ : ∃ W, W = w2 := ⟨_, rfl⟩
        subst hW3
        have HLS := Lib.hid HIL.out.len
        have pj : (j : Int) < (m : Int) := by omega
        go_wp2_with fail
        clear g1
        go_loopw [7] (fun i wr => ∃ q : Nat, q ≤ n2 ∧ i = .int .i64 (q : Int) ∧ RisK (tS ts j) (k : Int) q ∧ Below W3.heap.size W3 wr) (fun i _ => n2 - (intOf i).toNat)
        case atStart => exact ⟨0, by omega, rfl, fun j' hj' => absurd hj' (by omega), Below.refl _ _⟩
        case round =>
          obtain ⟨q, hq, rfl, hr, hbx⟩ := hrel
          have HBX := Lib.hid hbx
          have HR := Lib.hid hr
          have HBE := Lib.hid (bt HBW.out hbx)
          have cs := Ext.cell hbx ck2
          clear hr
          by_cases hqn : q < n2
          rotate_left
          · have hqn2 : q = n2 := by omega
            subst hqn2
            have g1 : decide ((q : Int) < (q : Int)) = false := by simp
            have HN := Lib.hid (okT_succ.2 ⟨HT.out, HCO.out, fun j' hj' => HR.out j' (by rw [← HLS.out]; exact hj')⟩)
            clear hbx
            go_wp2
            go_roundw
            case rel => exact ⟨j + 1, by omega, by go_num, HN.out, HBE.out⟩
            case measure => simp [intOf]; omega
          have g1 : decide ((q : Int) < (n2 : Int)) = true := by simp; omega
          obtain ⟨b2, o2, rfl, hcc⟩ := (HIL.out.below hbx).at_ (by omega)
          have cx := hcc q hqn
          have kt := fun w' (hh : Ext wr w') => Ext.cell hh cs
          have kx := fun w' (hh : Ext wr w') => Ext.cell hh cx
          have wk : IntKind.i64.wrap ((k : Int) - 1) = (k : Int) - 1 := IntWalk.i64_in _ (by omega)
          have pq : (q : Int) < (n2 : Int) := by omega
          have hst : Ext wr wr.drew := Ext.drew _
          have HNR : Hid (∀ lim, prv (tS ts j) q < (tS ts j).getD q 0 ∧ (tS ts j).getD q 0 < lim → lim = (k : Int) → RisK (tS ts j) (k : Int) (q + 1)) := fun lim h e => HR.out.succ h.1 (by rw [← e]; exact h.2)
          have HNF : Hid (¬ (prv (tS ts j) q < (tS ts j).getD q 0 ∧ (tS ts j).getD q 0 < (k : Int)) → cvB ws ts = false) := fun hne => cvB_f (fun h => hne (by
            have := (h.2.2 j (by rw [HL'.out]; exact hjm)).2 q (by rw [HLS.out]; exact hqn)
            rw [HL.out] at this
            exact this))
          have hge := HR.out.ge
          obtain ⟨x2, hx2⟩ : ∃ x, (tS ts j).getD q 0 = x := ⟨_, rfl⟩
          obtain ⟨pp, hpp⟩ : ∃ x, prv (tS ts j) q = x := ⟨_, rfl⟩
          rw [hx2] at kx HNR HNF
          rw [hpp] at HNR HNF hge
          have HP0 : Hid (q = 0 → pp = -1) := fun e => by rw [← hpp, e]; rfl
          have HP1 : Hid (∀ q', q = q' + 1 → (tS ts j).getD q' 0 = pp) := fun q' e => by rw [← hpp, e, prv_succ]
          clear cx hx2 hpp hbx
          by_cases gin : 0 ≤ x2 ∧ x2 ≤ (k : Int) - 1
          rotate_left
          · have HQ := Lib.hid (HNF.out (fun h => gin ⟨by omega, by omega⟩))
            have HZI : Hid (∀ W, Calls Tryd.prog 57 #[.int .i64 x2, .int .i64 0, .int .i64 ((k : Int) - 1)] W fun e w' => e = .returned (.bool false) ∧ w' = W) := fun W => by
              have := zin_any x2 0 ((k : Int) - 1) W
              rw [inB_f gin] at this
              exact this
            have kx0 := kx wr (Ext.refl _)
            clear hcc gin kx kt hst
            go_upto_region 16 with fail
            go_quiet ((first | (go_at_call 57; exact Calls.quiet_of_same (HZI.out _))))
            go_wp2
            go_returns
            exact ⟨_, rfl, by rw [HQ.out]; rfl, below_drewN HBE.out _⟩
          have HI := Lib.hid (inB_t gin.1 gin.2)
          by_cases hq0 : q = 0
          · have dq : decide ((0 : Int) < (q : Int)) = false := by simp; omega
            have dq' : decide (0 < q) = false := by simp; omega
            have HN := Lib.hid (HNR.out (k : Int) ⟨by have := HP0.out hq0; omega, by omega⟩ rfl)
            clear hcc gin hq0 HP0 HP1
            go_upto_region 16 with fail
            clear cs
            refine wp_region_adv 34 [] [(0, true, some 53, none), (1, true, some 54, none), (2, true, some 55, none), (3, true, some 56, none), (4, true, some 57, none), (5, true, some 58, none), (6, true, some 59, none), (7, true, some 60, none), (8, true, some 61, none), (9, true, some 62, none), (10, true, some 63, none), (11, false, some 64, none), (12, true, some 65, none), (13, true, some 66, none), (14, true, some 67, some (66, false)), (15, true, some 68, some (66, false)), (16, true, some 69, some (66, false)), (17, true, some 70, some (69, true)), (18, true, some 71, some (69, true)), (19, true, some 72, some (69, true)), (20, true, some 73, some (69, true)), (21, true, some 74, some (69, true)), (22, true, some 75, some (69, true)), (23, true, some 76, some (69, true)), (24, true, some 77, some (69, true)), (25, true, some 78, some (69, true)), (26, true, some 79, some (69, true)), (27, true, some 80, some (69, true)), (28, true, some 81, some (69, true)), (29, true, some 82, some (69, true)), (30, true, some 83, some (69, true)), (31, true, some 84, some (69, true)), (32, true, some 85, some (69, true)), (33, true, some 86, some (69, true))] (by kernel_rfl) (by kernel_rfl) (by kernel_rfl) (by intro it hit; (repeat (rcases List.mem_cons.1 hit with rfl | hit; (focus (intro o ho ev w; injection ho with ho; subst ho; kernel_rfl)))); cases hit) (fun _ _ _ _ _ => ⟨fun h => h, fun h => h⟩) hst ?_
            repeat (first | (refine wpSeq_pure (v := ?_) rfl ?_ ?_; rotate_left 1; (focus (intro wq_ hSq_; (try dsimp only at hSq_); go_simp; (try with_reducible rfl); done)); (try simp only [Act.put, List.setIfInBounds_toArray, List.set_cons_zero, List.set_cons_succ])) | (refine wpSeq_pureG (v := ?_) rfl rfl ?_ ?_; rotate_left 1; (focus (intro wq_ hSq_; (try dsimp only at hSq_); go_simp; (try with_reducible rfl); done)); (try simp only [Act.put, List.setIfInBounds_toArray, List.set_cons_zero, List.set_cons_succ])) | (refine wpSeq_off rfl rfl ?_; (try simp only [Act.put, List.setIfInBounds_toArray, List.set_cons_zero, List.set_cons_succ])))
            first | refine wpSeq_call rfl (fun u1 g1' s1 K hK => ?_) | refine wpSeq_callG rfl rfl (fun u1 g1' s1 K hK => ?_)
            go_simp
            refine (zin_any x2 0 ((k : Int) - 1) u1).mono ?_
            rintro e y1 ⟨rfl, rfl⟩
            rw [HI.out]
            (try go_wp2_with fail)
            refine hK.out _ _ (Ext.refl _) ?_
            clear hK K
            (try simp only [Act.put, List.setIfInBounds_toArray, List.set_cons_zero, List.set_cons_succ])
            repeat (first | (refine wpSeq_pure (v := ?_) rfl ?_ ?_; rotate_left 1; (focus (intro wq_ hSq_; (try dsimp only at hSq_); go_simp; (try with_reducible rfl); done)); (try simp only [Act.put, List.setIfInBounds_toArray, List.set_cons_zero, List.set_cons_succ])) | (refine wpSeq_pureG (v := ?_) rfl rfl ?_ ?_; rotate_left 1; (focus (intro wq_ hSq_; (try dsimp only at hSq_); go_simp; (try with_reducible rfl); done)); (try simp only [Act.put, List.setIfInBounds_toArray, List.set_cons_zero, List.set_cons_succ])) | (refine wpSeq_off rfl rfl ?_; (try simp only [Act.put, List.setIfInBounds_toArray, List.set_cons_zero, List.set_cons_succ])))
            intro wz gz sz_
            (try simp only [endJ, List.drop_succ_cons, List.drop_zero])
            have HZ := Lib.hid (bt HBX.out sz_)
            clear g1' s1 gz sz_ kt kx hst
            go_wp2
            go_roundw
            case rel => exact ⟨q + 1, by omega, by go_num, HN.out, HZ.out⟩
            case measure => simp [intOf]; omega
          have dq : decide ((0 : Int) < (q : Int)) = true := by simp; omega
          have dq' : decide (0 < q) = true := by simp; omega
          obtain ⟨q', hq'⟩ : ∃ q', q = q' + 1 := ⟨q - 1, by omega⟩
          have wq : IntKind.i64.wrap ((q : Int) - 1) = (q' : Int) := by rw [IntWalk.i64_in _ (by omega)]; omega
          have pq' : (q' : Int) < (n2 : Int) := by omega
          have cp := hcc q' (by omega)
          rw [HP1.out q' hq'] at cp
          have kp := fun w' (hh : Ext wr w') => Ext.cell hh cp
          clear hcc cp
          by_cases gpx : pp < x2
          · have d4 : decide (x2 ≤ pp) = false := by simp; omega
            have HN := Lib.hid (HNR.out (k : Int) ⟨gpx, by omega⟩ rfl)
            clear gin hq0 gpx hq' HP0 HP1
            go_upto_region 16 with fail
            clear cs
            refine wp_region_adv 34 [] [(0, true, some 53, none), (1, true, some 54, none), (2, true, some 55, none), (3, true, some 56, none), (4, true, some 57, none), (5, true, some 58, none), (6, true, some 59, none), (7, true, some 60, none), (8, true, some 61, none), (9, true, some 62, none), (10, true, some 63, none), (11, false, some 64, none), (12, true, some 65, none), (13, true, some 66, none), (14, true, some 67, some (66, false)), (15, true, some 68, some (66, false)), (16, true, some 69, some (66, false)), (17, true, some 70, some (69, true)), (18, true, some 71, some (69, true)), (19, true, some 72, some (69, true)), (20, true, some 73, some (69, true)), (21, true, some 74, some (69, true)), (22, true, some 75, some (69, true)), (23, true, some 76, some (69, true)), (24, true, some 77, some (69, true)), (25, true, some 78, some (69, true)), (26, true, some 79, some (69, true)), (27, true, some 80, some (69, true)), (28, true, some 81, some (69, true)), (29, true, some 82, some (69, true)), (30, true, some 83, some (69, true)), (31, true, some 84, some (69, true)), (32, true, some 85, some (69, true)), (33, true, some 86, some (69, true))] (by kernel_rfl) (by kernel_rfl) (by kernel_rfl) (by intro it hit; (repeat (rcases List.mem_cons.1 hit with rfl | hit; (focus (intro o ho ev w; injection ho with ho; subst ho; kernel_rfl)))); cases hit) (fun _ _ _ _ _ => ⟨fun h => h, fun h => h⟩) hst ?_
            repeat (first | (refine wpSeq_pure (v := ?_) rfl ?_ ?_; rotate_left 1; (focus (intro wq_ hSq_; (try dsimp only at hSq_); go_simp; (try with_reducible rfl); done)); (try simp only [Act.put, List.setIfInBounds_toArray, List.set_cons_zero, List.set_cons_succ])) | (refine wpSeq_pureG (v := ?_) rfl rfl ?_ ?_; rotate_left 1; (focus (intro wq_ hSq_; (try dsimp only at hSq_); go_simp; (try with_reducible rfl); done)); (try simp only [Act.put, List.setIfInBounds_toArray, List.set_cons_zero, List.set_cons_succ])) | (refine wpSeq_off rfl rfl ?_; (try simp only [Act.put, List.setIfInBounds_toArray, List.set_cons_zero, List.set_cons_succ])))
            first | refine wpSeq_call rfl (fun u1 g1' s1 K hK => ?_) | refine wpSeq_callG rfl rfl (fun u1 g1' s1 K hK => ?_)
            go_simp
            refine (zin_any x2 0 ((k : Int) - 1) u1).mono ?_
            rintro e y1 ⟨rfl, rfl⟩
            rw [HI.out]
            (try go_wp2_with fail)
            refine hK.out _ _ (Ext.refl _) ?_
            clear hK K
            (try simp only [Act.put, List.setIfInBounds_toArray, List.set_cons_zero, List.set_cons_succ])
            repeat (first | (refine wpSeq_pure (v := ?_) rfl ?_ ?_; rotate_left 1; (focus (intro wq_ hSq_; (try dsimp only at hSq_); go_simp; (try with_reducible rfl); done)); (try simp only [Act.put, List.setIfInBounds_toArray, List.set_cons_zero, List.set_cons_succ])) | (refine wpSeq_pureG (v := ?_) rfl rfl ?_ ?_; rotate_left 1; (focus (intro wq_ hSq_; (try dsimp only at hSq_); go_simp; (try with_reducible rfl); done)); (try simp only [Act.put, List.setIfInBounds_toArray, List.set_cons_zero, List.set_cons_succ])) | (refine wpSeq_off rfl rfl ?_; (try simp only [Act.put, List.setIfInBounds_toArray, List.set_cons_zero, List.set_cons_succ])))
            intro wz gz sz_
            (try simp only [endJ, List.drop_succ_cons, List.drop_zero])
            have HZ := Lib.hid (bt HBX.out sz_)
            clear g1' s1 gz sz_ kt kx kp hst
            go_wp2
            go_roundw
            case rel => exact ⟨q + 1, by omega, by go_num, HN.out, HZ.out⟩
            case measure => simp [intOf]; omega
          · have d4 : decide (x2 ≤ pp) = true := by simp; omega
            have HQ := Lib.hid (HNF.out (fun h => gpx h.1))
            clear gin hq0 gpx hq' HP0 HP1
            go_upto_region 16 with fail
            clear cs
            refine wp_region_adv 34 [] [(0, true, some 53, none), (1, true, some 54, none), (2, true, some 55, none), (3, true, some 56, none), (4, true, some 57, none), (5, true, some 58, none), (6, true, some 59, none), (7, true, some 60, none), (8, true, some 61, none), (9, true, some 62, none), (10, true, some 63, none), (11, false, some 64, none), (12, true, some 65, none), (13, true, some 66, none), (14, true, some 67, some (66, false)), (15, true, some 68, some (66, false)), (16, true, some 69, some (66, false)), (17, true, some 70, some (69, true)), (18, true, some 71, some (69, true)), (19, true, some 72, some (69, true)), (20, true, some 73, some (69, true)), (21, true, some 74, some (69, true)), (22, true, some 75, some (69, true)), (23, true, some 76, some (69, true)), (24, true, some 77, some (69, true)), (25, true, some 78, some (69, true)), (26, true, some 79, some (69, true)), (27, true, some 80, some (69, true)), (28, true, some 81, some (69, true)), (29, true, some 82, some (69, true)), (30, true, some 83, some (69, true)), (31, true, some 84, some (69, true)), (32, true, some 85, some (69, true)), (33, true, some 86, some (69, true))] (by kernel_rfl) (by kernel_rfl) (by kernel_rfl) (by intro it hit; (repeat (rcases List.mem_cons.1 hit with rfl | hit; (focus (intro o ho ev w; injection ho with ho; subst ho; kernel_rfl)))); cases hit) (fun _ _ _ _ _ => ⟨fun h => h, fun h => h⟩) hst ?_
            repeat (first | (refine wpSeq_pure (v := ?_) rfl ?_ ?_; rotate_left 1; (focus (intro wq_ hSq_; (try dsimp only at hSq_); go_simp; (try with_reducible rfl); done)); (try simp only [Act.put, List.setIfInBounds_toArray, List.set_cons_zero, List.set_cons_succ])) | (refine wpSeq_pureG (v := ?_) rfl rfl ?_ ?_; rotate_left 1; (focus (intro wq_ hSq_; (try dsimp only at hSq_); go_simp; (try with_reducible rfl); done)); (try simp only [Act.put, List.setIfInBounds_toArray, List.set_cons_zero, List.set_cons_succ])) | (refine wpSeq_off rfl rfl ?_; (try simp only [Act.put, List.setIfInBounds_toArray, List.set_cons_zero, List.set_cons_succ])))
            first | refine wpSeq_call rfl (fun u1 g1' s1 K hK => ?_) | refine wpSeq_callG rfl rfl (fun u1 g1' s1 K hK => ?_)
            go_simp
            refine (zin_any x2 0 ((k : Int) - 1) u1).mono ?_
            rintro e y1 ⟨rfl, rfl⟩
            rw [HI.out]
            (try go_wp2_with fail)
            refine hK.out _ _ (Ext.refl _) ?_
            clear hK K
            (try simp only [Act.put, List.setIfInBounds_toArray, List.set_cons_zero, List.set_cons_succ])
            repeat (first | (refine wpSeq_pure (v := ?_) rfl ?_ ?_; rotate_left 1; (focus (intro wq_ hSq_; (try dsimp only at hSq_); go_simp; (try with_reducible rfl); done)); (try simp only [Act.put, List.setIfInBounds_toArray, List.set_cons_zero, List.set_cons_succ])) | (refine wpSeq_pureG (v := ?_) rfl rfl ?_ ?_; rotate_left 1; (focus (intro wq_ hSq_; (try dsimp only at hSq_); go_simp; (try with_reducible rfl); done)); (try simp only [Act.put, List.setIfInBounds_toArray, List.set_cons_zero, List.set_cons_succ])) | (refine wpSeq_off rfl rfl ?_; (try simp only [Act.put, List.setIfInBounds_toArray, List.set_cons_zero, List.set_cons_succ])))
            intro wz gz sz_
            (try simp only [endJ, List.drop_succ_cons, List.drop_zero])
            have HZ := Lib.hid (bt HBE.out sz_)
            clear g1' s1 gz sz_ kt kx kp hst
            go_wp2
            go_returns
            exact ⟨_, rfl, by rw [HQ.out]; rfl, HZ.out⟩
end Go.Proofs.Tb
