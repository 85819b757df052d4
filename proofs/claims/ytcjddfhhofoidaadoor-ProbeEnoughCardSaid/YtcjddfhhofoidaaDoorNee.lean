/- ProbeEnough returns true. -/
import Derived.Test.YtcjddfhhofoidaaDoorNed
import Derived.Test.YtcjddfhhofoidaaDoorRc
set_option linter.unusedVariables false
set_option linter.unusedSimpArgs false
namespace Go.Proofs.Tb
open Go.RowKit
attribute [local go_sem] cell_set_same

set_option maxHeartbeats 6400000 in
set_option maxRecDepth 100000 in
theorem enough_any (A A' A3 : Option Addr) (n c m d q d3 : Nat) (ws : List Int) (ts : List Tt) (xs : List Int) (w : World) (h : Il w A n c ws) (h' : Ts w A' m d ts) (h3 : Il w A3 q d3 xs) (ht : Tab w) :
    Calls Tryd.prog 12 #[.agg #[.slice A n c, .slice A' m d], .slice A3 q d3] w (Ret (fun v _ => v = .bool true) w) := by
  have q3 := h3.le
  have q3' := h3.cap
  have H := Lib.hid h
  have H' := Lib.hid h'
  have H3 := Lib.hid h3
  have HT := Lib.hid ht
  clear h h' h3 ht
  go_enter Tryd.func12, Tryd.ntmps12
  go_wp2_with fail
  have x0 : Ext w (w.alloc (.cells #[.slice A n c, .slice A' m d] TCA)) := Ext.allocR _ _
  refine (few_any A A' n c m d ws ts 10 16 (by omega) (by omega) _ (H.out.below x0) (H'.out.below x0)).mono ?_
  rintro e w1 ⟨v1, rfl, ⟨vf, vt, rfl, hf, ht⟩, hb1⟩
  obtain ⟨A1, n1, c1, hvf, il1⟩ := hf.il
  subst hvf
  obtain ⟨A2, n2, c2, hvt, sl2⟩ := ht.slp2
  subst hvt
  have ts2 := sl2.ts
  obtain ⟨wf, hwf⟩ : ∃ x, fewF ws 10 = x := ⟨_, rfl⟩
  obtain ⟨tf, htf⟩ : ∃ x, fewT ts 16 = x := ⟨_, rfl⟩
  rw [hwf] at il1
  rw [htf] at ts2
  have l1 := il1.le
  have l1' := il1.cap
  have l2 := ts2.le
  have l2' := ts2.cap
  have HL1 := Lib.hid il1.len
  have HL2 := Lib.hid ts2.len
  have I1 := Lib.hid il1
  have T2 := Lib.hid ts2
  have HB1 := Lib.hid (bt x0 hb1)
  clear hf ht sl2 il1 ts2 hwf htf x0 hb1
  go_upto_region 2 with fail
  have b3 : Blk (w1.alloc (.cells #[.slice A1 n1 c1, .slice A2 n2 c2] TCA)) w1.heap.size TCA #[.slice A1 n1 c1, .slice A2 n2 c2] := Blk.new_ _ _ rfl
  have x3 : Ext w1 (w1.alloc (.cells #[.slice A1 n1 c1, .slice A2 n2 c2] TCA)) := Ext.allocR _ _
  refine wp_world (fun W3 => Blk W3 w1.heap.size TCA #[.slice A1 n1 c1, .slice A2 n2 c2] ∧ Ext w1 W3) ⟨b3, x3⟩ ?_
  clear b3 x3
  rintro W3 ⟨b3, x3⟩
  obtain ⟨g, hg⟩ : ∃ g, w1.heap.size = g := ⟨_, rfl⟩
  rw [hg] at b3 ⊢
  have B3 := Lib.hid b3
  have X3 := Lib.hid x3
  have c3 := b3.cells
  simp only [cellsAre, Nat.zero_add, Nat.reduceAdd, and_true] at c3
  clear b3 x3 hg
  go_wp2_with fail
  refine (rneeded_any A1 A2 n1 c1 n2 c2 wf tf W3 (I1.out.below X3.out) (T2.out.below X3.out) (HT.out.below (bt HB1.out X3.out))).mono ?_
  rintro e w4 ⟨v4, rfl, hv4, hb4⟩
  have X4 := Lib.hid (bt X3.out hb4)
  have B4 := Lib.hid (B3.out.below hb4)
  have k4 := B4.out.cells
  simp only [cellsAre, Nat.zero_add, Nat.reduceAdd, and_true] at k4
  clear c3 B3
  by_cases hc : Cv wf tf
  rotate_left
  · have hv4' := hv4.2 hc
    subst hv4'
    have HC := Lib.hid hc
    clear hv4 hc hb4
    go_wp2_with fail
    refine (valid_any A1 A2 n1 c1 n2 c2 wf tf w4 (I1.out.below X4.out) (T2.out.below X4.out)).mono ?_
    rintro e w5 ⟨z5, rfl, hz5, b5⟩
    rw [cvB_f HC.out] at hz5
    subst hz5
    have X5 := Lib.hid (bt X4.out b5)
    clear b5 k4
    go_wp2_with fail
    refine (lives_any w5 (HT.out.below (bt HB1.out X5.out))).mono ?_
    rintro e w6 ⟨z6, rfl, rfl, b6⟩
    have X6 := Lib.hid (bt (bt HB1.out X5.out) b6)
    clear b6
    go_wp2
    go_returns
    exact ⟨_, rfl, rfl, X6.out⟩
  · obtain ⟨A7, n7, c7, hv7, il7⟩ := hv4.1 hc
    subst hv7
    have HC := Lib.hid hc
    have hn1 : n1 ≤ 10 := by rw [← HL1.out]; exact hc.len10
    have hn2 : n2 ≤ 16 := by rw [← HL2.out]; exact hc.1.2.2
    have hnd := nd_ok (ts := tf) (n := n1) (by rw [HL2.out]; exact hn2)
    rw [HL1.out, HL2.out] at il7
    rw [HL2.out] at hnd
    obtain ⟨sb, hsb⟩ : ∃ s, ndS tf n1 = s := ⟨_, rfl⟩
    rw [hsb] at hnd il7
    obtain ⟨tl, htl⟩ : ∃ l, mems n2 sb = l := ⟨_, rfl⟩
    have hrt := mems_ris n2 sb
    have hrt2 := fun j (hj : j < (mems n2 sb).length) => (mems_ris n2 sb).bd j hj
    rw [htl] at il7 hrt hrt2
    rw [il7.len] at hrt2
    have hn7 : n7 ≤ 16 := by have h1 := mems_len n2 sb; rw [htl, il7.len] at h1; omega
    have l7 := il7.le
    have l7' := il7.cap
    have HEN := Lib.hid (enB_t (show EnP n1 tf tl by rw [← htl, ← HL2.out]; exact en_ok.2 hnd.2.2.1))
    have HMN := Lib.hid (show ∀ s, s < 2 ^ n2 → okS tf n1 s → ltB (ky tf (mems n2 s)) (ky tf tl) = false from fun s hs h => by rw [← htl]; exact hnd.2.2.2 s hs h)
    have HRT := Lib.hid (ris_t hrt)
    have HR2 := Lib.hid hrt2
    have I7 := Lib.hid il7
    have HTB := Lib.hid (fun j => cost_bd hc j)
    clear hv4 hc hb4 hnd hsb htl hrt hrt2 il7
    go_wp2_with fail
    refine (valid_any A1 A2 n1 c1 n2 c2 wf tf w4 (I1.out.below X4.out) (T2.out.below X4.out)).mono ?_
    rintro e w5 ⟨z5, rfl, hz5, b5⟩
    rw [cvB_t HC.out] at hz5
    subst hz5
    have X5 := Lib.hid (bt X4.out b5)
    have B5 := Lib.hid (B4.out.below b5)
    have I75 := Lib.hid (I7.out.below b5)
    have k5 := B5.out.cells
    simp only [cellsAre, Nat.zero_add, Nat.reduceAdd, and_true] at k5
    clear b5 k4 B4 I7
    go_wp2_with fail
    refine (lrising_any A7 n7 c7 tl (n2 : Int) w5 I75.out).mono ?_
    rintro e w6 ⟨v6, rfl, rfl, hb6⟩
    rw [HRT.out]
    have X6 := Lib.hid (bt X5.out hb6)
    have B6 := Lib.hid (B5.out.below hb6)
    have I76 := Lib.hid (I75.out.below hb6)
    have k6 := B6.out.cells
    simp only [cellsAre, Nat.zero_add, Nat.reduceAdd, and_true] at k6
    clear hb6 k5 B5 I75
    go_wp2_with fail
    refine (zenough_any A1 A2 A7 n1 c1 n2 c2 n7 c7 wf tf tl w6 (I1.out.below X6.out) (T2.out.below X6.out) I76.out HR2.out (by omega)).mono ?_
    rintro e w7 ⟨v7, rfl, rfl, hb7⟩
    rw [HEN.out]
    have X7 := Lib.hid (bt X6.out hb7)
    have B7 := Lib.hid (B6.out.below hb7)
    have I77 := Lib.hid (I76.out.below hb7)
    clear hb7 k6 B6 I76
    go_wp2_with fail
    refine (lives_any w7 (HT.out.below (bt HB1.out X7.out))).mono ?_
    rintro e w8 ⟨z8, rfl, rfl, b8⟩
    have X8 := Lib.hid (bt X7.out b8)
    have B8 := Lib.hid (B7.out.below b8)
    have I78 := Lib.hid (I77.out.below b8)
    obtain ⟨r, hr⟩ : ∃ r, min q 16 = r := ⟨_, rfl⟩
    have hmn : min (q : Int) 16 = (r : Int) := by omega
    have hr3 : r ≤ d3 := by omega
    have hr16 : r ≤ 16 := by omega
    have x9 : Ext w8 (w8.alloc (.cells #[] TIN)) := Ext.allocR _ _
    have HI3 := Lib.hid (((H3.out.below (bt HB1.out X8.out)).below x9).take (k := r) (by omega))
    have E0 := Lib.hid (OwI.lit0 (base := w8.heap.size) (W := w8) (Nat.le_refl _))
    have X9 := Lib.hid x9
    clear b8 B7 I77 x9 hr
    go_wp2_with (at_builtin; refine wpList_plain rfl (fun K hK => ?_); refine wp_appI _ _ (by rfl) w8.heap.size (.slice (some ⟨w8.heap.size, 0, none⟩) 0 0) [] (by rfl) E0.out A3 r d3 (xs.take r) (by rfl) HI3.out (by simp) (by omega) (Ext.size X9.out) ?_; intro A10 n10 c10 w10 hO10 hB10 hG10; rw [List.nil_append] at hO10; have X10 := Lib.hid (show Ext w8 w10 from Below.trans X9.out hB10); have I10 := Lib.hid hO10.ilv; have k10 := (B8.out.below X10.out).cells; simp only [cellsAre, Nat.zero_add, Nat.reduceAdd, and_true] at k10; clear hO10 hB10 hG10; refine hK _ _ ?_)
    obtain ⟨ol, hol⟩ : ∃ l, xs.take r = l := ⟨_, rfl⟩
    rw [hol] at I10
    have hn10 : n10 ≤ 16 := by rw [← I10.out.len, ← hol, List.length_take]; omega
    clear hol
    refine (lrising_any A10 n10 c10 ol (n2 : Int) w10 I10.out).mono ?_
    rintro e w11 ⟨v11, rfl, rfl, hb11⟩
    have X11 := Lib.hid (bt (bt X8.out X10.out) hb11)
    have k11 := (B8.out.below (bt X10.out hb11)).cells
    simp only [cellsAre, Nat.zero_add, Nat.reduceAdd, and_true] at k11
    have I11 := Lib.hid (I10.out.below hb11)
    have B11 := Lib.hid (B8.out.below (bt X10.out hb11))
    have I711 := Lib.hid (I78.out.below (bt X10.out hb11))
    clear hb11 k10
    by_cases hro : Ris ol (n2 : Int)
    rotate_left
    · rw [ris_f hro]
      clear hro
      go_wp2
      go_returns
      exact ⟨_, rfl, rfl, bt HB1.out X11.out⟩
    · rw [ris_t hro]
      have HRO := Lib.hid hro
      have HRB := Lib.hid (show ∀ j, j < n10 → 0 ≤ ol.getD j 0 ∧ ol.getD j 0 < (n2 : Int) from fun j hj => hro.bd j (by rw [I10.out.len]; exact hj))
      clear hro
      go_wp2_with fail
      refine (zenough_any A1 A2 A10 n1 c1 n2 c2 n10 c10 wf tf ol w11 (I1.out.below X11.out) (T2.out.below X11.out) I11.out HRB.out (by omega)).mono ?_
      rintro e w12 ⟨v12, rfl, rfl, hb12⟩
      have X12 := Lib.hid (bt X11.out hb12)
      have k12 := (B11.out.below hb12).cells
      simp only [cellsAre, Nat.zero_add, Nat.reduceAdd, and_true] at k12
      have I12 := Lib.hid (I11.out.below hb12)
      have I712 := Lib.hid (I711.out.below hb12)
      clear hb12 k11
      by_cases heo : EnP n1 tf ol
      rotate_left
      · rw [enB_f heo]
        clear heo
        go_wp2
        go_returns
        exact ⟨_, rfl, rfl, bt HB1.out X12.out⟩
      · rw [enB_t heo]
        have hlt : ltB (ky tf ol) (ky tf tl) = false := by
          obtain ⟨s, hs, e⟩ := ris_set HRO.out
          rw [← e] at heo ⊢
          have h1 := heo
          rw [← HL2.out] at h1
          exact HMN.out s hs (en_ok.1 h1)
        have HLT := Lib.hid hlt
        clear heo hlt
        go_wp2_with fail
        refine (zfirst_any A2 A10 A7 n2 c2 n10 c10 n7 c7 tf ol tl w12 (T2.out.below X12.out) I12.out I712.out HRB.out HR2.out HTB.out (by omega) (by omega)).mono ?_
        rintro e w13 ⟨v13, rfl, rfl, hb13⟩
        rw [HLT.out]
        have X13 := Lib.hid (bt X12.out hb13)
        clear hb13 k12
        go_wp2
        go_returns
        exact ⟨_, rfl, rfl, bt HB1.out X13.out⟩
end Go.Proofs.Tb
