/- RateBest, the walk: no line has a lesser greatest error than the one of Least, and Worst of that line is Least's error. -/
import Derived.Test.YtcbffkkcldnegaaLawK
set_option linter.unusedVariables false
set_option linter.unusedSimpArgs false
namespace Go.Proofs.Tb
open Go.RowKit
attribute [local go_sem] cell_set_same

set_option maxHeartbeats 3200000 in
set_option maxRecDepth 100000 in
theorem best_any (A : Option Addr) (n c : Nat) (xs : List Rdg) (la lb lc ld : Int) (w : World) (h : Rd w A n c xs) (h1 : rngI la) (h2 : rngI lb) (h3 : rngI lc) (h4 : rngI ld) :
    Calls Try.prog 11 #[.slice A n c, .agg #[.int .i64 la, .int .i64 lb, .int .i64 lc, .int .i64 ld]] w (Ret (fun v _ => v = .bool true) w) := by
  have H1 := Lib.hid h1
  have H2 := Lib.hid h2
  have H3 := Lib.hid h3
  have H4 := Lib.hid h4
  have H := Lib.hid h
  clear h h1 h2 h3 h4
  go_enter Try.func11, Try.ntmps11
  go_wp2_with fail
  obtain ⟨W0, hW0⟩ : ∃ W0, W0 = w.alloc (.cells #[.int .i64 la, .int .i64 lb, .int .i64 lc, .int .i64 ld] TAL) := ⟨_, rfl⟩
  have e0 : Blk W0 w.heap.size TAL #[.int .i64 la, .int .i64 lb, .int .i64 lc, .int .i64 ld] := by rw [hW0]; exact Blk.new_ _ _ rfl
  have hbw : Below w.heap.size w W0 := by rw [hW0]; go_grown
  rw [← hW0]
  clear hW0
  refine (tame_any A n c xs 40 W0 (H.out.below hbw) (by omega)).mono ?_
  rintro e w1 ⟨v1, rfl, ⟨rs, htm, A1, c1, rfl, hrd⟩, hb1⟩
  have HV := Lib.hid (htm.vld (by omega))
  have HSM := Lib.hid (htm.small (by omega))
  obtain ⟨m, hm⟩ : ∃ m, rs.length = m := ⟨_, rfl⟩
  have hc1 := hrd.cap
  have hm1 := hrd.le
  have HR1 := Lib.hid hrd
  rw [hm] at HR1 hm1 ⊢
  have HM := Lib.hid hm
  have E0 := Lib.hid (e0.below hb1)
  have HB1 := Lib.hid (bt hbw hb1)
  clear htm hrd hb1 hm e0 hbw
  go_wp2_with fail
  refine (rleast_any A1 m c1 rs _ HR1.out).mono ?_
  rintro e w2 ⟨v2, rfl, h2, hb2⟩
  obtain ⟨s, h, E, hi, f1, f2, f3, hv2⟩ := h2.ok HV.out HSM.out
  subst hv2
  have HI := Lib.hid hi
  have HB2 := Lib.hid hb2
  have HWB : Hid (∀ v, WorstR rs s.num (s.den : Int) h.num (h.den : Int) v → v = .tuple #[.agg #[.int .i64 E.num, .int .i64 (E.den : Int)], .int .i64 0]) := fun v hw => hw.best HV.out HI.out f1 f2 f3
  have HVE := Lib.hid (vF_true (fit_vf f3))
  have RS := Lib.hid (fit_rng f1)
  have RH := Lib.hid (fit_rng f2)
  have RE := Lib.hid (fit_rng f3)
  have QE := Lib.hid (qv_self E)
  obtain ⟨sn, hsn⟩ : ∃ x, s.num = x := ⟨_, rfl⟩
  obtain ⟨sd, hsd⟩ : ∃ x : Int, (s.den : Int) = x := ⟨_, rfl⟩
  obtain ⟨hn', hhn⟩ : ∃ x, h.num = x := ⟨_, rfl⟩
  obtain ⟨hd', hhd⟩ : ∃ x : Int, (h.den : Int) = x := ⟨_, rfl⟩
  obtain ⟨en, hen⟩ : ∃ x, E.num = x := ⟨_, rfl⟩
  obtain ⟨ed, hed⟩ : ∃ x : Int, (E.den : Int) = x := ⟨_, rfl⟩
  rw [hsn, hsd, hhn, hhd, hen, hed] at HWB ⊢
  rw [hsn, hsd] at RS
  rw [hhn, hhd] at RH
  rw [hen, hed] at RE HVE QE
  clear h2 hi hb2 hsn hsd hhn hhd hen hed f1 f2 f3
  go_wp2_with fail
  obtain ⟨W3, hW3⟩ : ∃ W0, W0 = (w2.alloc (.cells #[.int .i64 sn, .int .i64 sd, .int .i64 hn', .int .i64 hd'] TAL)).alloc (.cells #[.int .i64 en, .int .i64 ed] TF) := ⟨_, rfl⟩
  have b6 : Blk W3 w2.heap.size TAL #[.int .i64 sn, .int .i64 sd, .int .i64 hn', .int .i64 hd'] := by rw [hW3]; exact (Blk.new_ _ _ rfl).alloc _
  have b7 : Blk W3 (w2.heap.size + 1) TF #[.int .i64 en, .int .i64 ed] := by rw [hW3]; exact Blk.new_ _ _ (by simp)
  have hb3 : Below w2.heap.size w2 W3 := by rw [hW3]; go_grown
  rw [← hW3]
  clear hW3
  refine (zvalid_any en ed _ RE.out.1.1 RE.out.1.2 RE.out.2.2.1 RE.out.2.2.2).mono ?_
  rintro e w4 ⟨v4, rfl, hv4, hb4⟩
  rw [HVE.out] at hv4
  subst hv4
  go_wp2_with fail
  refine (lives_any _).mono ?_
  rintro e w5 ⟨v5, rfl, hv5, hb5⟩
  subst hv5
  have k6 := zcells ((b6.below hb4).below hb5)
  have B7 := Lib.hid ((b7.below hb4).below hb5)
  have E0 := Lib.hid (E0.out.below (bt HB2.out (bt hb3 (bt hb4 hb5))))
  have HB5 := Lib.hid (bt HB2.out (bt hb3 (bt hb4 hb5)))
  have HB15 := Lib.hid (bt HB1.out HB5.out)
  clear b6 b7 hb3 hb4 hb5
  go_wp2_with fail
  refine (rworst_any A1 m c1 rs sn sd hn' hd' _ (HR1.out.below HB5.out) RS.out.1 (by have := RS.out.2.2; exact this) RH.out.1 (by have := RH.out.2.2; exact this)).mono ?_
  rintro e w6 ⟨v6, rfl, hw6, hb6⟩
  have hv6 := HWB.out _ hw6
  subst hv6
  clear hw6 k6
  go_upto_region 6 with fail
  refine wp_world (fun W5 => Blk W5 w6.heap.size TF #[.int .i64 en, .int .i64 ed] ∧ Below w6.heap.size w6 W5) (by exact ⟨Blk.new_ _ _ rfl, by go_grown⟩) ?_
  rintro W7 ⟨b9, hb7⟩
  have k9 := b9.cells
  have k7 := ((B7.out.below hb6).below hb7).cells
  simp only [cellsAre, Nat.zero_add, Nat.reduceAdd, and_true] at k9 k7
  have k0 := zcells (E0.out.below (bt hb6 hb7))
  have B7 := Lib.hid ((B7.out.below hb6).below hb7)
  have HB7 := Lib.hid (bt HB5.out (bt hb6 hb7))
  have HB17 := Lib.hid (bt HB15.out (bt hb6 hb7))
  clear b9 hb6 hb7 E0
  go_wp2_with fail
  refine (rworst_any A1 m c1 rs la lb lc ld _ (HR1.out.below HB7.out) H1.out H2.out H3.out H4.out).mono ?_
  rintro e w8 ⟨v8, rfl, hw8, hb8⟩
  have hany := hw8.any HV.out HI.out
  clear hw8 k0 k7 k9
  have HB18 := Lib.hid (bt HB17.out hb8)
  have B7 := Lib.hid (B7.out.below hb8)
  clear hb8
  rcases hany with ⟨F, hF, hEF, rfl⟩ | rfl | rfl
  · have HVF := Lib.hid (vF_true (fit_vf hF))
    have RF := Lib.hid (fit_rng hF)
    have HCM := Lib.hid (cmpR_le hEF)
    have QF := Lib.hid (qv_self F)
    obtain ⟨fn, hfn⟩ : ∃ x, F.num = x := ⟨_, rfl⟩
    obtain ⟨fd, hfd⟩ : ∃ x : Int, (F.den : Int) = x := ⟨_, rfl⟩
    rw [hfn, hfd] at HVF RF QF ⊢
    clear hF hEF hfn hfd
    go_upto_region 11 with fail
    refine wp_world (fun W5 => Blk W5 w8.heap.size TF #[.int .i64 fn, .int .i64 fd] ∧ Below w8.heap.size w8 W5) (by exact ⟨Blk.new_ _ _ rfl, by go_grown⟩) ?_
    rintro W9 ⟨b11, hb9⟩
    have k11 := fun w' (hh : Ext W9 w') => (b11.below hh).cells
    have k7 := fun w' (hh : Ext W9 w') => ((B7.out.below hb9).below hh).cells
    simp only [cellsAre, Nat.zero_add, Nat.reduceAdd, and_true] at k11 k7
    have hst : Ext W9 W9.drew := Ext.drew _
    have HB19 := Lib.hid (bt HB18.out hb9)
    obtain ⟨cv, hcv⟩ : ∃ x, cmpR E F = x := ⟨_, rfl⟩
    rw [hcv] at HCM
    have HCV := Lib.hid hcv
    have g2 : decide (cv ≤ 0) = true := by simpa using HCM.out
    clear hb9 b11 hcv
    go_region_held3 (fun w' => Ext W9 w') (first | with_reducible assumption | exact Ext.below (by with_reducible assumption) (by with_reducible assumption))
      (first | (go_at_call 25; have tk := hx3; refine (xcmp_any (hx2.below hb3) hx3 (by omega)).mono ?_; rintro e w13 ⟨v4, rfl, hv4, hb4⟩; rw [QE.out, QF.out, HCV.out] at hv4; subst hv4; have hh4 : Ext W9 w13 := bt hh3 hb4) | (go_at_call 39; have tk := hx2; refine (xof_any fn fd _ RF.out.1.1 RF.out.1.2 RF.out.2.1 RF.out.2.2.2).mono ?_; rintro e w12 ⟨v3, rfl, hx3, hb3⟩; obtain ⟨d3, A3, n3, c3, d3', A3', n3', c3', rfl⟩ := hx3.form; have hh3 : Ext W9 w12 := bt hh2 hb3) | (go_at_call 39; have tk := hh1; refine (xof_any en ed _ RE.out.1.1 RE.out.1.2 RE.out.2.1 RE.out.2.2.2).mono ?_; rintro e w11 ⟨v2, rfl, hx2, hb2⟩; obtain ⟨d2, A2, n2, c2, d2', A2', n2', c2', rfl⟩ := hx2.form; have hh2 : Ext W9 w11 := bt hh1 hb2) | (go_at_call 17; refine (zvalid_any fn fd _ RF.out.1.1 RF.out.1.2 RF.out.2.2.1 RF.out.2.2.2).mono ?_; rintro e w10 ⟨v1, rfl, hv1, hb1⟩; rw [HVF.out] at hv1; subst hv1; have hh1 : Ext W9 w10 := bt hst hb1))
    go_wp2
    go_returns
    exact ⟨_, rfl, rfl, bt HB19.out hh4⟩
  · go_upto_region 10 with fail
    refine wp_world (fun W5 => Below w8.heap.size w8 W5) (by go_grown) ?_
    rintro W9 hb9
    have HB19 := Lib.hid (bt HB18.out hb9)
    clear hb9
    go_wp2
    go_returns
    exact ⟨_, rfl, rfl, HB19.out⟩
  · go_upto_region 10 with fail
    refine wp_world (fun W5 => Below w8.heap.size w8 W5) (by go_grown) ?_
    rintro W9 hb9
    have HB19 := Lib.hid (bt HB18.out hb9)
    clear hb9
    go_wp2
    go_returns
    exact ⟨_, rfl, rfl, HB19.out⟩
end Go.Proofs.Tb
