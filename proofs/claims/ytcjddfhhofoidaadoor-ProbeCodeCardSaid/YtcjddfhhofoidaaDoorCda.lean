/- ProbeCode returns true. -/
import Derived.Test.YtcjddfhhofoidaaDoorKra
import Derived.Test.YtcjddfhhofoidaaDoorRb
set_option linter.unusedVariables false
set_option linter.unusedSimpArgs false
namespace Go.Proofs.Tb
open Go.RowKit
attribute [local go_sem] cell_set_same

theorem and65535 (y : Int) : ∃ b : Nat, b ≤ 65535 ∧ bits .and .i64 y 65535 = (b : Int) := by
  have e : bits .and .i64 y 65535 = IntKind.i64.wrap ((BitVec.ofInt 64 y &&& BitVec.ofInt 64 65535).toNat : Int) := rfl
  have h : (BitVec.ofInt 64 y &&& BitVec.ofInt 64 65535).toNat ≤ 65535 := by
    rw [BitVec.toNat_and]
    exact Nat.and_le_right
  refine ⟨_, h, ?_⟩
  rw [e, IntWalk.i64_in _ (by omega)]
/-- A weight out of any number. -/
def cwv (x : Int) : Int := bits .and .i64 x 65535 + 1
theorem cwv_bd (x : Int) : 1 ≤ cwv x ∧ cwv x ≤ 65536 := by
  obtain ⟨b, h1, h2⟩ := and65535 x
  unfold cwv; omega
def cwK (xs : List Int) (k : Nat) : List Int := (List.range k).map fun i => cwv (xs.getD i 0)
theorem cwK_len (xs : List Int) (k : Nat) : (cwK xs k).length = k := by simp [cwK]
theorem cwK_succ (xs : List Int) (k : Nat) : cwK xs (k + 1) = cwK xs k ++ [cwv (xs.getD k 0)] := by unfold cwK; rw [List.range_succ, List.map_append]; rfl
theorem cwK_get (xs : List Int) {k j : Nat} (h : j < k) : (cwK xs k).getD j 0 = cwv (xs.getD j 0) := by simp [cwK, List.getD, h]
theorem cwK_bd (xs : List Int) (k j : Nat) : 0 ≤ (cwK xs k).getD j 0 ∧ (cwK xs k).getD j 0 ≤ 65536 := by
  by_cases h : j < k
  · rw [cwK_get xs h]; have := cwv_bd (xs.getD j 0); omega
  · have e : (cwK xs k).getD j 0 = 0 := by simp [List.getD, List.getElem?_eq_none (show (cwK xs k).length ≤ j by rw [cwK_len]; omega)]
    rw [e]; omega
theorem cwK_ok (xs : List Int) {k : Nat} (h1 : 1 ≤ k) (h2 : k ≤ 64) : Wok (cwK xs k) := by
  refine ⟨by rw [cwK_len]; omega, fun j hj => ?_⟩
  rw [cwK_len] at hj
  rw [cwK_get xs hj]
  have := cwv_bd (xs.getD j 0); omega
theorem dtK_bd {ws xs : List Int} (hw : ∀ j, 0 ≤ ws.getD j 0 ∧ ws.getD j 0 ≤ 65536) (hx : ∀ j, 0 ≤ xs.getD j 0 ∧ xs.getD j 0 ≤ 62) : ∀ k : Nat, 0 ≤ dtK ws xs k ∧ dtK ws xs k ≤ 4063232 * k := by
  intro k
  induction k with
  | zero => simp [dtK]
  | succ k ih =>
    have h1 := hw k
    have h2 := hx k
    have h3 := Int.mul_nonneg h1.1 h2.1
    have h4 := Int.mul_le_mul h1.2 h2.2 h2.1 (by omega)
    simp only [dtK]
    omega
theorem dtK_step {ws xs : List Int} (hw : ∀ j, 0 ≤ ws.getD j 0 ∧ ws.getD j 0 ≤ 65536) (hx : ∀ j, 0 ≤ xs.getD j 0 ∧ xs.getD j 0 ≤ 62) {k : Nat} (hk : k ≤ 64) {a b : Int} (ha : ws.getD k 0 = a) (hb : xs.getD k 0 = b) :
    wrap64 (dtK ws xs k + wrap64 (a * b)) = dtK ws xs (k + 1) := by
  have h1 := hw k
  have h2 := hx k
  have h3 := Int.mul_nonneg h1.1 h2.1
  have h4 := Int.mul_le_mul h1.2 h2.2 h2.1 (by omega)
  have h5 := dtK_bd hw hx k
  have e : dtK ws xs (k + 1) = dtK ws xs k + ws.getD k 0 * xs.getD k 0 := rfl
  rw [e]
  rw [ha, hb] at *
  unfold wrap64
  omega
theorem dtK_take (ws ys : List Int) (k : Nat) : ∀ j, j ≤ k → dtK ws (ys.take k) j = dtK ws ys j := by
  intro j
  induction j with
  | zero => intro _; rfl
  | succ j ih =>
    intro h
    simp only [dtK]
    rw [ih (by omega)]
    congr 2
    simp only [List.getD, List.getElem?_take]
    rw [if_pos (by omega)]
set_option maxHeartbeats 6400000 in
set_option maxRecDepth 100000 in
theorem code_any (A A' : Option Addr) (n c m d : Nat) (xs ys : List Int) (w : World) (h : Il w A n c xs) (h' : Il w A' m d ys) (ht : Tab w) :
    Calls Tryd.prog 7 #[.slice A n c, .slice A' m d] w (Ret (fun v _ => v = .bool true) w) := by
  have hn := h.le
  have hc := h.cap
  have hm := h'.le
  have hd := h'.cap
  have H := Lib.hid h
  have H' := Lib.hid h'
  have HT := Lib.hid ht
  clear h h' ht
  go_enter Tryd.func7, Tryd.ntmps7
  go_wp2_with fail
  have hb0 : Below w.heap.size w (w.alloc (.cells #[] TIN)) := by go_grown
  have hw0 := OwI.empty w
  go_loopw [5, 6] (fun v i wr => ∃ k : Nat, k ≤ n ∧ k ≤ 64 ∧ i = .int .i64 (k : Int) ∧ OwI w.heap.size wr v (cwK xs k) ∧ Below w.heap.size w wr) (fun _ i _ => n - (intOf i).toNat)
  case atStart => exact ⟨0, by omega, by omega, rfl, hw0, hb0⟩
  case round =>
    clear hw0 hb0
    obtain ⟨k, hk, hk64, rfl, hown, hbw⟩ := hrel
    have HO := Lib.hid hown
    have HBW := Lib.hid hbw
    clear hown hbw
    have hll := cwK_len xs k
    by_cases hlt : k < n ∧ k < 64
    · have pk : (k : Int) < (n : Int) := by omega
      have pk64 : (k : Int) < 64 := by omega
      have hz : w.heap.size ≤ wr.heap.size := HBW.out.size
      obtain ⟨b, o, rfl, hcell⟩ := (H.out.below HBW.out).at_ (by omega)
      have ck := hcell k hlt.1
      obtain ⟨x, hx⟩ : ∃ x, xs.getD k 0 = x := ⟨_, rfl⟩
      rw [hx] at ck
      obtain ⟨y, hy1, hy2⟩ := and65535 x
      have hcw : cwv x = (y : Int) + 1 := by unfold cwv; rw [hy2]
      have HX := Lib.hid (show cwv (xs.getD k 0) = (y : Int) + 1 by rw [hx]; exact hcw)
      clear hcell hx hcw
      go_wp2_with (at_builtin; go_loud (refine wp_appE TIS TIN _ 1 8 int_info Tryd.underlying37 rfl (by omega) (by omega) rfl _ _ rfl w.heap.size _ _ _ rfl (HO.out.alloc _) ⟨wr.heap.size, 0, none⟩ 1 1 [.int .i64 ((y : Int) + 1)] rfl rfl (cell_new wr [.int .i64 ((y : Int) + 1)] TIN) (int_one _) (by omega) (by omega) (by simp; omega) ?_); intro v3 w3 hown3 hb3 _)
      have HN : OwI w.heap.size w3 v3 (cwK xs (k + 1)) := by rw [cwK_succ, HX.out]; exact OwI.snoc hown3
      have HN2 := HBW.out.trans (((Below.refl w.heap.size wr).alloc hz _).trans hb3)
      clear hown3 hb3 HO HBW hll
      go_roundw
      case rel => exact ⟨k + 1, by omega, by omega, by go_num, HN, HN2⟩
      case measure => simp [intOf]; omega
    · obtain ⟨ws, hws⟩ : ∃ ws, cwK xs k = ws := ⟨_, rfl⟩
      have hwb := cwK_bd xs k
      have hwk := fun h1 => cwK_ok xs (k := k) h1 hk64
      rw [hws] at HO hwb hwk hll
      have HWB := Lib.hid hwb
      have HWK := Lib.hid hwk
      obtain ⟨A1, n1, c1, rfl, il1⟩ := HO.out.il3
      obtain rfl : k = n1 := hll.symm.trans il1.len
      have I1 := Lib.hid il1
      have hc1 := il1.cap
      have hk1 := il1.le
      have HLL := Lib.hid hll
      clear hwb hwk hws il1 HO hll
      by_cases hkn : k < n
      · have pk : (k : Int) < (n : Int) := by omega
        have pk64 : ¬ ((k : Int) < 64) := by omega
        have hkm : ¬ k < 64 := by omega
        clear hk
        go_upto_region 6 with fail
        go_wp2_with fail
        refine (rcodesX_any A1 k c1 ws wr I1.out).mono ?_
        rintro e w2 ⟨v2, rfl, hv2, hb2⟩
        have HB2 := Lib.hid (bt HBW.out hb2)
        have I2 := Lib.hid (I1.out.below hb2)
        clear hb2
        by_cases hk0 : k = 0
        · have hv2' := hv2.2 (fun h => by have := h.1.1; rw [HLL.out] at this; omega)
          subst hv2'
          subst hk0
          clear hv2
          go_wp2_with fail
          refine (lives_any w2 (HT.out.below HB2.out)).mono ?_
          rintro e w6 ⟨z6, rfl, rfl, b6⟩
          have X6 := Lib.hid (bt HB2.out b6)
          clear b6
          go_wp2
          go_returns
          exact ⟨_, rfl, rfl, X6.out⟩
        · obtain ⟨A3, c3, b, ls, S, rfl, il3, hr⟩ := hv2.1 (HWK.out (by omega))
          have hkr := hr.code (HWK.out (by omega))
          rw [HLL.out] at il3 hkr ⊢
          have HKT := Lib.hid (krB_t hkr.1)
          have HS := Lib.hid hkr.2
          have HKR := Lib.hid hkr.1
          have HRR := Lib.hid hr
          have hc3 := il3.cap
          have hk3 := il3.le
          have IL3 := Lib.hid il3
          have hki : (k : Int) ≠ 0 := by omega
          clear hv2 hr hkr il3
          go_wp2_with fail
          refine (zkraft_any A3 k c3 ls w2 IL3.out).mono ?_
          rintro e w5 ⟨z5, rfl, hz5, b5⟩
          rw [HKT.out] at hz5
          subst hz5
          have HB5 := Lib.hid (bt HB2.out b5)
          have I5 := Lib.hid (I2.out.below b5)
          have IL5 := Lib.hid (IL3.out.below b5)
          clear b5
          go_wp2_with fail
          refine (lives_any w5 (HT.out.below HB5.out)).mono ?_
          rintro e w6 ⟨z6, rfl, rfl, b6⟩
          have HB6 := Lib.hid (bt HB5.out b6)
          have I6 := Lib.hid (I5.out.below b6)
          have IL6 := Lib.hid (IL5.out.below b6)
          clear b6 I5 IL5 I2 IL3 HB5 HB2
          go_wp2_with fail
          go_loopw [10, 12] (fun s i wr => ∃ j : Nat, j ≤ k ∧ s = .int .i64 (dtK ws ls j) ∧ i = .int .i64 (j : Int) ∧ Ext w6 wr) (fun _ i _ => k - (intOf i).toNat)
          case atStart => exact ⟨0, by omega, rfl, rfl, Ext.refl _⟩
          case round =>
            obtain ⟨j, hj, rfl, rfl, hx6⟩ := hrel
            have HX6 := Lib.hid hx6
            by_cases hjk : j < k
            · have pj : (j : Int) < (k : Int) := by omega
              have HB2 : Hid (∀ nq, Ext w6 (wr.drewN nq)) := fun nq => below_drewN hx6 nq
              obtain ⟨b1, o1, rfl, hcc⟩ := (I6.out.below hx6).at_ (by omega)
              have ck := hcc j hjk
              obtain ⟨b3, o3, rfl, hcc3⟩ := (IL6.out.below hx6).at_ (by omega)
              have ck3 := hcc3 j hjk
              obtain ⟨x, hx⟩ : ∃ x, ws.getD j 0 = x := ⟨_, rfl⟩
              obtain ⟨y, hy⟩ : ∃ y, ls.getD j 0 = y := ⟨_, rfl⟩
              have hst := dtK_step HWB.out HKR.out.nn (show j ≤ 64 by omega) hx hy
              rw [hx] at ck
              rw [hy] at ck3
              obtain ⟨F, hF⟩ : ∃ F, dtK ws ls j = F := ⟨_, rfl⟩
              obtain ⟨G, hG⟩ : ∃ G, dtK ws ls (j + 1) = G := ⟨_, rfl⟩
              rw [hF, hG] at hst
              rw [hF]
              have HGG := Lib.hid hG
              clear hcc hcc3 hx hy hF hG hx6
              go_upto_region 15 with fail
              go_quiet (fail)
              go_wp2
              go_roundw
              case rel => exact ⟨j + 1, by omega, by rw [HGG.out]; simp only [hst], by go_num, HB2.out _⟩
              case measure => simp [intOf]; omega
            · obtain rfl : j = k := by omega
              rw [← HS.out]
              clear hx6
              by_cases hmj : m < j
              · have pm : (m : Int) < (j : Int) := by omega
                have HE := Lib.hid (bt HB6.out HX6.out)
                go_wp2
                go_returns
                exact ⟨_, rfl, rfl, HE.out⟩
              · have pm : ¬ ((m : Int) < (j : Int)) := by omega
                have hjm : j ≤ m := by omega
                have hjd : j ≤ d := by omega
                have HE := Lib.hid (bt HB6.out HX6.out)
                have I9 := Lib.hid (I6.out.below HX6.out)
                have J9 := Lib.hid (H'.out.below HE.out)
                obtain ⟨zs, hzs⟩ : ∃ zs, ys.take j = zs := ⟨_, rfl⟩
                have jz := J9.out.take hjm
                rw [hzs] at jz
                have JZ := Lib.hid jz
                have HZS := Lib.hid hzs
                have HZL := Lib.hid jz.len
                clear jz hzs
                have HRK := Lib.hid (show 1 ≤ j by omega)
                go_upto_region 18 with fail
                go_wp2_with fail
                refine (zkraft_any A' j d zs wr JZ.out).mono ?_
                rintro e w7 ⟨z7, rfl, hz7, b7⟩
                have I7 := Lib.hid (I9.out.below b7)
                have J7 := Lib.hid (J9.out.below b7)
                have HE7 := Lib.hid (bt HE.out b7)
                clear b7
                by_cases hkz : KrI zs
                rotate_left
                · rw [krB_f hkz] at hz7
                  subst hz7
                  clear hkz
                  go_wp2
                  go_returns
                  exact ⟨_, rfl, rfl, HE7.out⟩
                · rw [krB_t hkz] at hz7
                  subst hz7
                  have hbest := HRR.out.best (HWK.out HRK.out) (xs := zs) (by rw [HZL.out, HLL.out]) hkz
                  rw [HLL.out] at hbest
                  have HKZ := Lib.hid hkz
                  have HBE := Lib.hid hbest
                  clear hkz hbest
                  go_wp2_with fail
                  go_loopw [11, 13] (fun s i wr => ∃ q : Nat, q ≤ j ∧ s = .int .i64 (dtK ws zs q) ∧ i = .int .i64 (q : Int) ∧ Ext w7 wr) (fun _ i _ => j - (intOf i).toNat)
                  case atStart => exact ⟨0, by omega, rfl, rfl, Ext.refl _⟩
                  case round =>
                    obtain ⟨q, hq, rfl, rfl, hx8⟩ := hrel
                    have HX8 := Lib.hid hx8
                    by_cases hqj : q < j
                    · have pq : (q : Int) < (j : Int) := by omega
                      have pqm : (q : Int) < (m : Int) := by omega
                      have HB2 : Hid (∀ nq, Ext w7 (wr.drewN nq)) := fun nq => below_drewN hx8 nq
                      obtain ⟨b1, o1, rfl, hcc⟩ := (I7.out.below hx8).at_ (by omega)
                      have ck := hcc q hqj
                      obtain ⟨b3, o3, rfl, hcc3⟩ := (J7.out.below hx8).at_ (by omega)
                      have ck3 := hcc3 q (by omega)
                      obtain ⟨x, hx⟩ : ∃ x, ws.getD q 0 = x := ⟨_, rfl⟩
                      obtain ⟨y, hy⟩ : ∃ y, ys.getD q 0 = y := ⟨_, rfl⟩
                      have hzy : zs.getD q 0 = y := by
                        rw [← hy, ← HZS.out]
                        simp only [List.getD, List.getElem?_take]
                        rw [if_pos hqj]
                      have hst := dtK_step HWB.out HKZ.out.nn (show q ≤ 64 by omega) hx hzy
                      rw [hx] at ck
                      rw [hy] at ck3
                      obtain ⟨F, hF⟩ : ∃ F, dtK ws zs q = F := ⟨_, rfl⟩
                      obtain ⟨G, hG⟩ : ∃ G, dtK ws zs (q + 1) = G := ⟨_, rfl⟩
                      rw [hF, hG] at hst
                      rw [hF]
                      have HGG := Lib.hid hG
                      clear hcc hcc3 hx hy hF hG hx8 hzy
                      go_upto_region 23 with fail
                      go_quiet (fail)
                      go_wp2
                      go_roundw
                      case rel => exact ⟨q + 1, by omega, by rw [HGG.out]; simp only [hst], by go_num, HB2.out _⟩
                      case measure => simp [intOf]; omega
                    · obtain rfl : q = j := by omega
                      obtain ⟨G, hG⟩ : ∃ G, dtK ws zs q = G := ⟨_, rfl⟩
                      have hle : S ≤ G := by rw [← hG]; exact HBE.out
                      rw [hG]
                      have hdl : decide (S ≤ G) = true := by simpa using hle
                      have HE9 := Lib.hid (bt HE7.out HX8.out)
                      clear hx8 hG
                      go_wp2
                      go_returns
                      exact ⟨_, rfl, (by first | rfl | (show Value.bool _ = _; rw [hdl])), HE9.out⟩
      · obtain rfl : k = n := by omega
        have pk : ¬ ((k : Int) < (k : Int)) := by omega
        clear hk
        go_upto_region 6 with fail
        go_wp2_with fail
        refine (rcodesX_any A1 k c1 ws wr I1.out).mono ?_
        rintro e w2 ⟨v2, rfl, hv2, hb2⟩
        have HB2 := Lib.hid (bt HBW.out hb2)
        have I2 := Lib.hid (I1.out.below hb2)
        clear hb2
        by_cases hk0 : k = 0
        · have hv2' := hv2.2 (fun h => by have := h.1.1; rw [HLL.out] at this; omega)
          subst hv2'
          subst hk0
          clear hv2
          go_wp2_with fail
          refine (lives_any w2 (HT.out.below HB2.out)).mono ?_
          rintro e w6 ⟨z6, rfl, rfl, b6⟩
          have X6 := Lib.hid (bt HB2.out b6)
          clear b6
          go_wp2
          go_returns
          exact ⟨_, rfl, rfl, X6.out⟩
        · obtain ⟨A3, c3, b, ls, S, rfl, il3, hr⟩ := hv2.1 (HWK.out (by omega))
          have hkr := hr.code (HWK.out (by omega))
          rw [HLL.out] at il3 hkr ⊢
          have HKT := Lib.hid (krB_t hkr.1)
          have HS := Lib.hid hkr.2
          have HKR := Lib.hid hkr.1
          have HRR := Lib.hid hr
          have hc3 := il3.cap
          have hk3 := il3.le
          have IL3 := Lib.hid il3
          have hki : (k : Int) ≠ 0 := by omega
          clear hv2 hr hkr il3
          go_wp2_with fail
          refine (zkraft_any A3 k c3 ls w2 IL3.out).mono ?_
          rintro e w5 ⟨z5, rfl, hz5, b5⟩
          rw [HKT.out] at hz5
          subst hz5
          have HB5 := Lib.hid (bt HB2.out b5)
          have I5 := Lib.hid (I2.out.below b5)
          have IL5 := Lib.hid (IL3.out.below b5)
          clear b5
          go_wp2_with fail
          refine (lives_any w5 (HT.out.below HB5.out)).mono ?_
          rintro e w6 ⟨z6, rfl, rfl, b6⟩
          have HB6 := Lib.hid (bt HB5.out b6)
          have I6 := Lib.hid (I5.out.below b6)
          have IL6 := Lib.hid (IL5.out.below b6)
          clear b6 I5 IL5 I2 IL3 HB5 HB2
          go_wp2_with fail
          go_loopw [10, 12] (fun s i wr => ∃ j : Nat, j ≤ k ∧ s = .int .i64 (dtK ws ls j) ∧ i = .int .i64 (j : Int) ∧ Ext w6 wr) (fun _ i _ => k - (intOf i).toNat)
          case atStart => exact ⟨0, by omega, rfl, rfl, Ext.refl _⟩
          case round =>
            obtain ⟨j, hj, rfl, rfl, hx6⟩ := hrel
            have HX6 := Lib.hid hx6
            by_cases hjk : j < k
            · have pj : (j : Int) < (k : Int) := by omega
              have HB2 : Hid (∀ nq, Ext w6 (wr.drewN nq)) := fun nq => below_drewN hx6 nq
              obtain ⟨b1, o1, rfl, hcc⟩ := (I6.out.below hx6).at_ (by omega)
              have ck := hcc j hjk
              obtain ⟨b3, o3, rfl, hcc3⟩ := (IL6.out.below hx6).at_ (by omega)
              have ck3 := hcc3 j hjk
              obtain ⟨x, hx⟩ : ∃ x, ws.getD j 0 = x := ⟨_, rfl⟩
              obtain ⟨y, hy⟩ : ∃ y, ls.getD j 0 = y := ⟨_, rfl⟩
              have hst := dtK_step HWB.out HKR.out.nn (show j ≤ 64 by omega) hx hy
              rw [hx] at ck
              rw [hy] at ck3
              obtain ⟨F, hF⟩ : ∃ F, dtK ws ls j = F := ⟨_, rfl⟩
              obtain ⟨G, hG⟩ : ∃ G, dtK ws ls (j + 1) = G := ⟨_, rfl⟩
              rw [hF, hG] at hst
              rw [hF]
              have HGG := Lib.hid hG
              clear hcc hcc3 hx hy hF hG hx6
              go_upto_region 15 with fail
              go_quiet (fail)
              go_wp2
              go_roundw
              case rel => exact ⟨j + 1, by omega, by rw [HGG.out]; simp only [hst], by go_num, HB2.out _⟩
              case measure => simp [intOf]; omega
            · obtain rfl : j = k := by omega
              rw [← HS.out]
              clear hx6
              by_cases hmj : m < j
              · have pm : (m : Int) < (j : Int) := by omega
                have HE := Lib.hid (bt HB6.out HX6.out)
                go_wp2
                go_returns
                exact ⟨_, rfl, rfl, HE.out⟩
              · have pm : ¬ ((m : Int) < (j : Int)) := by omega
                have hjm : j ≤ m := by omega
                have hjd : j ≤ d := by omega
                have HE := Lib.hid (bt HB6.out HX6.out)
                have I9 := Lib.hid (I6.out.below HX6.out)
                have J9 := Lib.hid (H'.out.below HE.out)
                obtain ⟨zs, hzs⟩ : ∃ zs, ys.take j = zs := ⟨_, rfl⟩
                have jz := J9.out.take hjm
                rw [hzs] at jz
                have JZ := Lib.hid jz
                have HZS := Lib.hid hzs
                have HZL := Lib.hid jz.len
                clear jz hzs
                have HRK := Lib.hid (show 1 ≤ j by omega)
                go_upto_region 18 with fail
                go_wp2_with fail
                refine (zkraft_any A' j d zs wr JZ.out).mono ?_
                rintro e w7 ⟨z7, rfl, hz7, b7⟩
                have I7 := Lib.hid (I9.out.below b7)
                have J7 := Lib.hid (J9.out.below b7)
                have HE7 := Lib.hid (bt HE.out b7)
                clear b7
                by_cases hkz : KrI zs
                rotate_left
                · rw [krB_f hkz] at hz7
                  subst hz7
                  clear hkz
                  go_wp2
                  go_returns
                  exact ⟨_, rfl, rfl, HE7.out⟩
                · rw [krB_t hkz] at hz7
                  subst hz7
                  have hbest := HRR.out.best (HWK.out HRK.out) (xs := zs) (by rw [HZL.out, HLL.out]) hkz
                  rw [HLL.out] at hbest
                  have HKZ := Lib.hid hkz
                  have HBE := Lib.hid hbest
                  clear hkz hbest
                  go_wp2_with fail
                  go_loopw [11, 13] (fun s i wr => ∃ q : Nat, q ≤ j ∧ s = .int .i64 (dtK ws zs q) ∧ i = .int .i64 (q : Int) ∧ Ext w7 wr) (fun _ i _ => j - (intOf i).toNat)
                  case atStart => exact ⟨0, by omega, rfl, rfl, Ext.refl _⟩
                  case round =>
                    obtain ⟨q, hq, rfl, rfl, hx8⟩ := hrel
                    have HX8 := Lib.hid hx8
                    by_cases hqj : q < j
                    · have pq : (q : Int) < (j : Int) := by omega
                      have pqm : (q : Int) < (m : Int) := by omega
                      have HB2 : Hid (∀ nq, Ext w7 (wr.drewN nq)) := fun nq => below_drewN hx8 nq
                      obtain ⟨b1, o1, rfl, hcc⟩ := (I7.out.below hx8).at_ (by omega)
                      have ck := hcc q hqj
                      obtain ⟨b3, o3, rfl, hcc3⟩ := (J7.out.below hx8).at_ (by omega)
                      have ck3 := hcc3 q (by omega)
                      obtain ⟨x, hx⟩ : ∃ x, ws.getD q 0 = x := ⟨_, rfl⟩
                      obtain ⟨y, hy⟩ : ∃ y, ys.getD q 0 = y := ⟨_, rfl⟩
                      have hzy : zs.getD q 0 = y := by
                        rw [← hy, ← HZS.out]
                        simp only [List.getD, List.getElem?_take]
                        rw [if_pos hqj]
                      have hst := dtK_step HWB.out HKZ.out.nn (show q ≤ 64 by omega) hx hzy
                      rw [hx] at ck
                      rw [hy] at ck3
                      obtain ⟨F, hF⟩ : ∃ F, dtK ws zs q = F := ⟨_, rfl⟩
                      obtain ⟨G, hG⟩ : ∃ G, dtK ws zs (q + 1) = G := ⟨_, rfl⟩
                      rw [hF, hG] at hst
                      rw [hF]
                      have HGG := Lib.hid hG
                      clear hcc hcc3 hx hy hF hG hx8 hzy
                      go_upto_region 23 with fail
                      go_quiet (fail)
                      go_wp2
                      go_roundw
                      case rel => exact ⟨q + 1, by omega, by rw [HGG.out]; simp only [hst], by go_num, HB2.out _⟩
                      case measure => simp [intOf]; omega
                    · obtain rfl : q = j := by omega
                      obtain ⟨G, hG⟩ : ∃ G, dtK ws zs q = G := ⟨_, rfl⟩
                      have hle : S ≤ G := by rw [← hG]; exact HBE.out
                      rw [hG]
                      have hdl : decide (S ≤ G) = true := by simpa using hle
                      have HE9 := Lib.hid (bt HE7.out HX8.out)
                      clear hx8 hG
                      go_wp2
                      go_returns
                      exact ⟨_, rfl, (by first | rfl | (show Value.bool _ = _; rw [hdl])), HE9.out⟩
end Go.Proofs.Tb
