/- StoreCloned: the walk. -/
import Derived.Test.YtfljnfdeboibhaaGreatRop
set_option linter.unusedVariables false
set_option linter.unusedSimpArgs false
namespace Go.Proofs.Tb
open Go.Maps Go.RowKit Go.Lib
attribute [local go_sem] cell_set_same neqMapL

theorem and15 (y : Int) : ∃ b : Nat, b ≤ 15 ∧ bits .and .i64 y 15 = (b : Int) := by
  have e : bits .and .i64 y 15 = IntKind.i64.wrap ((BitVec.ofInt 64 y &&& BitVec.ofInt 64 15).toNat : Int) := rfl
  have h : (BitVec.ofInt 64 y &&& BitVec.ofInt 64 15).toNat ≤ 15 := by
    rw [BitVec.toNat_and]
    exact Nat.and_le_right
  refine ⟨_, h, ?_⟩
  rw [e, IntWalk.i64_in _ (by omega)]
theorem last_le {Vs : List (List Pr)} {m : Nat} (h : ∀ l ∈ Vs, l.length ≤ m) (hp : 0 < Vs.length) : (Vs.getD (Vs.length - 1) []).length ≤ m := by
  rw [show Vs.getD (Vs.length - 1) [] = Vs[Vs.length - 1] by simp [List.getD, show Vs.length - 1 < Vs.length by omega]]
  exact h _ (List.getElem_mem _)
/-- The reference's store in a box. -/
def RbX (W : World) (H : Nat) (Vs : List (List Pr)) (keep : Nat) : Prop := ∃ A m c, RSv W (.agg #[.slice A m c, .int .i64 (keep : Int)]) Vs keep ∧ Blk W H TRS #[.slice A m c, .int .i64 (keep : Int)]
theorem RbX.ext {W W' : World} {H keep : Nat} {Vs : List (List Pr)} (h : RbX W H Vs keep) (x : Ext W W') : RbX W' H Vs keep := by
  obtain ⟨A, m, c, h1, h2⟩ := h
  exact ⟨A, m, c, h1.ext x, h2.below x⟩
theorem RbX.chg {F : Nat → Prop} {W W' : World} {H keep : Nat} {Vs : List (List Pr)} (h : RbX W H Vs keep) (hc : Chg (MF F) W W') : RbX W' H Vs keep := by
  obtain ⟨A, m, c, h1, h2⟩ := h
  exact ⟨A, m, c, h1.chg hc MF.tpa MF.tps, hc.blk h2 (MF.trs2 _ _)⟩
def XTr (R : Nat) (b : Nat) (o : Obj) : Prop := b = R ∧ ∃ cs, o = .cells cs TRS (0, 0)
theorem XTr.no {R : Nat} {T : TypeId} (hT : T ≠ TRS) (b : Nat) (cs : Array Value) : ¬ XTr R b (.cells cs T (0, 0)) := fun ⟨_, cs', e⟩ => by
  injection e with _ e
  exact hT e
theorem trs_put {W : World} {R keep m c : Nat} {A : Option Addr} {x y : Value} (hb : Blk W R TRS #[x, y]) : Chg (XTr R) W ((W.setCell ⟨R, 0, none⟩ (.slice A m c)).setCell ⟨R, 1, none⟩ (.int .i64 (keep : Int))) ∧ Blk ((W.setCell ⟨R, 0, none⟩ (.slice A m c)).setCell ⟨R, 1, none⟩ (.int .i64 (keep : Int))) R TRS #[.slice A m c, .int .i64 (keep : Int)] :=
  ⟨(Chg.setB hb ⟨rfl, _, rfl⟩ 0 _).trans (Chg.setB (hb.set_ 0 _) ⟨rfl, _, rfl⟩ 1 _), (hb.set_ 0 _).set_ 1 _⟩
theorem STl.trs {F : Nat → Prop} {w w' : World} {s d keep n left R : Nat} {Vs : List (List Pr)} (h : STl F w s d keep n Vs left) (hc : Chg (XTr R) w w') : STl F w' s d keep n Vs left :=
  h.chg hc (fun b o _ hM hX => by
    obtain ⟨_, cs, rfl⟩ := hX
    have : TRS = TDK ∨ TRS = TBY ∨ TRS = TSE := hM
    revert this
    decide) (XTr.no (by decide)) (XTr.no (by decide)) (XTr.no (by decide))
theorem RbX.trs {W W' : World} {H R keep : Nat} {Vs : List (List Pr)} (h : RbX W H Vs keep) (hc : Chg (XTr R) W W') (hne : H ≠ R) : RbX W' H Vs keep := by
  obtain ⟨A, m, c, h1, h2⟩ := h
  exact ⟨A, m, c, h1.chg hc (XTr.no (by decide)) (XTr.no (by decide)), hc.blk h2 fun hX => hne hX.1⟩
set_option maxHeartbeats 12800000 in
set_option maxRecDepth 100000 in
theorem rcloned_any (A : Option Addr) (nx cx : Nat) (Ay : Option Addr) (ny cy : Nat) (ys : List Cg) (act : Int) (w : World) (h : OpX w A nx cx) (hy : Rv w 3 Ay ny cy (ccs ys)) (hys : ∀ x ∈ ys, x.k.size ≤ 9223372036854775807 ∧ x.v.size ≤ 9223372036854775807) :
    Calls Tryz.prog 5 #[.slice A nx cx, .slice Ay ny cy, .int .i64 act] w (Ret (fun z _ => z = .bool true) w) := by
  obtain ⟨ac, hac, eb⟩ := and15 act
  have hle := h.le
  have hcp := h.cap
  have HX := Lib.hid h
  have HY := Lib.hid (And.intro hy hys)
  have wa : IntKind.i64.wrap ((ac : Int) + 1) = ((ac + 1 : Nat) : Int) := by rw [IntWalk.i64_in _ (by omega)]; rfl
  clear h hy hys
  go_enter Tryz.func5, Tryz.ntmps5
  go_wp2_with fail
  refine (rfilled_any A nx cx 8 1 (by omega) (by omega) w HX.out).mono ?_
  rintro e w1 ⟨v1, rfl, ⟨s, d, rv, Vs, rfl, hs, hr, hl1, hl2⟩, b1⟩
  obtain ⟨A1, m1, c1, rfl, hh1⟩ := hr.form
  clear hh1
  have HS1 := Lib.hid (show STl (fun b => w.heap.size ≤ b) w1 s d 1 1536 Vs 0 from hs)
  have HR1 := Lib.hid hr
  have X1 := Lib.hid b1
  have HL2 := Lib.hid hl2
  have hVp := STx.pos hs
  obtain ⟨L0, hL0⟩ : ∃ L0, Vs.getD (Vs.length - 1) [] = L0 := ⟨_, rfl⟩
  have hL0m : L0.length ≤ 360 := by rw [← hL0]; exact last_le hl2 hVp
  have HL0 := Lib.hid hL0
  clear hs hr b1 hl2 hL0
  go_upto_region 2 with fail
  have x2 : Ext w1 (w1.alloc (.cells #[.slice A1 m1 c1, .int .i64 ((1 : Nat) : Int)] TRS)) := Ext.allocR _ _
  refine wp_world (fun W => STl (fun b => w.heap.size ≤ b) W s d 1 1536 Vs 0 ∧ RbX W w1.heap.size Vs 1 ∧ Ext w W) ⟨HS1.out.ext x2, ⟨A1, m1, c1, HR1.out.ext x2, Blk.new_ _ _ rfl⟩, bt X1.out x2⟩ ?_
  obtain ⟨H, hH⟩ : ∃ H, w1.heap.size = H := ⟨_, rfl⟩
  have hwH : w.heap.size ≤ H := by rw [← hH]; exact X1.out.size
  rw [hH]
  rintro W2 ⟨hs2, hr2, hx2⟩
  have HS2 := Lib.hid hs2
  have HR2 := Lib.hid hr2
  have X2 := Lib.hid hx2
  clear x2 hs2 hr2 hx2 HS1 HR1 X1 hH
  go_wp2_with fail
  refine (rlives_any W2).mono ?_
  rintro e w3 ⟨v3, rfl, rfl, b3⟩
  have HS3 := Lib.hid (HS2.out.ext b3)
  have HR3 := Lib.hid (HR2.out.ext b3)
  have X3 := Lib.hid (bt X2.out b3)
  clear b3 HS2 HR2 X2
  go_wp2_with fail
  refine (rsclone_any HS3.out (by omega) (by omega)).mono ?_
  rintro e w4 ⟨v4, rfl, ⟨s2, d2, rfl, hc4⟩, b4⟩
  obtain ⟨q, hq⟩ : ∃ q, w3.heap.size = q := ⟨_, rfl⟩
  have hs4 := HS3.out.old
  rw [hq] at hc4 hs4
  have hwq : w.heap.size ≤ q := by rw [← hq]; exact X3.out.size
  have HS4 := Lib.hid (hs4.ext b4)
  have HC4 := Lib.hid hc4
  have HR4 := Lib.hid (HR3.out.ext b4)
  have X4 := Lib.hid (bt X3.out b4)
  have hq4 : q ≤ w4.heap.size := by rw [← hq]; exact b4.size
  clear b4 hs4 hc4 hq HS3 HR3 X3
  obtain ⟨A4, m4, c4, hr4, hk4⟩ := HR4.out
  have k4 := hk4.cells
  simp only [cellsAre, Nat.zero_add, Nat.reduceAdd, and_true] at k4
  have HV4 := Lib.hid hr4
  clear hr4 hk4
  go_wp2_with fail
  refine (stl_alike HC4.out HV4.out (by omega) (by omega) (fun x hx => by have := HL2.out x hx; omega)).mono ?_
  rintro e w5 ⟨v5, rfl, rfl, b5⟩
  have HS5 := Lib.hid (HS4.out.ext b5)
  have HC5 := Lib.hid (HC4.out.ext b5)
  have HR5 := Lib.hid (HR4.out.ext b5)
  have X5 := Lib.hid (bt X4.out b5)
  have hq5 : q ≤ w5.heap.size := Nat.le_trans hq4 b5.size
  clear b5 HS4 HC4 HR4 X4 HV4 k4 hq4
  go_wp2_with fail
  refine (rbat_any Ay ny cy ys 6 w5 (HY.out.1.below X5.out) HY.out.2 (by omega)).mono ?_
  rintro e w6 ⟨v6, rfl, ⟨l, hol, hll, hcu⟩, b6⟩
  obtain ⟨Al, cl, rfl, hrl⟩ := own_rv hol
  have HS6 := Lib.hid (HS5.out.ext b6)
  have HC6 := Lib.hid (HC5.out.ext b6)
  have HR6 := Lib.hid (HR5.out.ext b6)
  have X6 := Lib.hid (bt X5.out b6)
  have hq6 : q ≤ w6.heap.size := Nat.le_trans hq5 b6.size
  have OL6 := Lib.hid hol
  have RL6 := Lib.hid hrl
  have CU := Lib.hid hcu
  clear b6 hol hrl hcu HS5 HC5 HR5 X5 hq5
  go_wp2_with fail
  refine (zbatch_any Al _ cl l w6 RL6.out (by omega) (fun x hx => by have := CU.out x hx; omega)).mono ?_
  rintro e w7 ⟨v7, rfl, rfl, b7⟩
  have HS7 := Lib.hid (HS6.out.ext b7)
  have HC7 := Lib.hid (HC6.out.ext b7)
  have HR7 := Lib.hid (HR6.out.ext b7)
  have X7 := Lib.hid (bt X6.out b7)
  have hq7 : q ≤ w7.heap.size := Nat.le_trans hq6 b7.size
  have OL7 := Lib.hid (own_below OL6.out b7)
  have RL7 := Lib.hid (RL6.out.below b7)
  clear b7 HS6 HC6 HR6 X6 hq6 OL6 RL6
  cases hbat : batB l with
  | false =>
    clear hbat
    go_wp2_with fail
    (try simp only [Exit.inBlock, Exit.then])
    refine bodyPost_ret (v := (.bool true)) (by simp [results, Tryz.results5, go_sem, *]) rfl ?_
    exact ⟨_, rfl, rfl, X7.out⟩
  | true =>
    have HBT := Lib.hid hbat
    clear hbat
    obtain ⟨A7, m7, c7, hr7, hk7⟩ := HR7.out
    have k7 := hk7.cells
    simp only [cellsAre, Nat.zero_add, Nat.reduceAdd, and_true] at k7
    have HV7 := Lib.hid hr7
    clear hr7 hk7
    go_wp2_with fail
    refine (zfits_any HV7.out (by omega) (by omega) (by omega) HL0.out (fun x hx => by have := HL2.out x hx; omega) Al _ cl l RL7.out (by omega) 1536).mono ?_
    rintro e w8 ⟨v8, rfl, rfl, b8⟩
    have HS8 := Lib.hid (HS7.out.ext b8)
    have HC8 := Lib.hid (HC7.out.ext b8)
    have HR8 := Lib.hid (HR7.out.ext b8)
    have X8 := Lib.hid (bt X7.out b8)
    have hq8 : q ≤ w8.heap.size := Nat.le_trans hq7 b8.size
    have OL8 := Lib.hid (own_below OL7.out b8)
    clear b8 HS7 HC7 HR7 X7 hq7 OL7 RL7 HV7 k7
    cases hfit : fitB Vs 1 (aft L0 l) 1536 with
    | false =>
      clear hfit
      go_wp2_with fail
      (try simp only [Exit.inBlock, Exit.then])
      refine bodyPost_ret (v := (.bool true)) (by simp [results, Tryz.results5, go_sem, *]) rfl ?_
      exact ⟨_, rfl, rfl, X8.out⟩
    | true =>
      have HFT := Lib.hid hfit
      have HLN := Lib.hid (fit_len hfit hVp)
      clear hfit
      go_wp2_with fail
      refine (st_arm HC8.out ((ac + 1 : Nat) : Int) (by omega)).mono ?_
      rintro e w9 ⟨⟨v9, rfl⟩, hc9, hg9⟩
      have HS9 := Lib.hid (HS8.out.apart hg9 fun b hb => by omega)
      have HC9 := Lib.hid hc9
      have HR9 := Lib.hid (HR8.out.chg hg9)
      have X9 := Lib.hid (ext_chg X8.out hg9 fun b o hX => Nat.le_trans hwq hX.1)
      have hq9 : q ≤ w9.heap.size := Nat.le_trans hq8 hg9.size
      have OL9 := Lib.hid (OwC.chg OL8.out hg9 MF.tcg)
      clear hc9 hg9 HS8 HC8 HR8 X8 hq8 OL8
      go_wp2_with fail
      refine (st_commit_z HC9.out (fun b hb => Nat.le_trans hq9 hb) (by omega) (by omega) (by omega) HL0.out (by omega) Al _ cl l (own_rvv OL9.out) HBT.out HFT.out).mono ?_
      rintro e wa ha
      have hga : Chg (MF fun b => q ≤ b) w9 wa := by
        cases ha with
        | ok _ _ _ _ h => exact h
        | down _ _ _ h => exact h
      have HSa := Lib.hid (HS9.out.apart hga fun b hb => by omega)
      have HRa := Lib.hid (HR9.out.chg hga)
      have Xa := Lib.hid (ext_chg X9.out hga fun b o hX => Nat.le_trans hwq hX.1)
      have hqa : q ≤ wa.heap.size := Nat.le_trans hq9 hga.size
      have OLa := Lib.hid (OwC.chg OL9.out hga MF.tcg)
      have HL3 := Lib.hid (show ∀ x ∈ Vs ++ [aft L0 l], x.length ≤ 360 from fun x hx => by
        rcases List.mem_append.1 hx with hx | hx
        · exact HL2.out x hx
        · rw [List.mem_singleton.1 hx]; exact HLN.out)
      obtain ⟨Ab, mb, cb, hrb, hkb⟩ := HRa.out
      have kb := hkb.cells
      simp only [cellsAre, Nat.zero_add, Nat.reduceAdd, and_true] at kb
      have HVa := Lib.hid hrb
      clear hga hrb hkb HS9 HR9 X9 hq9 OL9 HC9
      rcases ha with ⟨lf', rfl, _, hca, _⟩ | ⟨_, rfl, hca, _⟩
      · unfold ansV
        have HCa := Lib.hid hca
        clear hca
        go_upto_region 14 with fail
        have xb : Ext wa (wa.alloc (.cells #[.slice Ab mb cb, .int .i64 ((1 : Nat) : Int)] TRS)) := Ext.allocR _ _
        have hbb : Blk (wa.alloc (.cells #[.slice Ab mb cb, .int .i64 ((1 : Nat) : Int)] TRS)) wa.heap.size TRS #[.slice Ab mb cb, .int .i64 ((1 : Nat) : Int)] := Blk.new_ _ _ rfl
        obtain ⟨H2, hH2⟩ : ∃ H2, wa.heap.size = H2 := ⟨_, rfl⟩
        have hHa : H < wa.heap.size := by obtain ⟨_, _, _, _, hk⟩ := HRa.out; exact hk.lt
        have hHH : H ≠ H2 := by omega
        have hwH2 : w.heap.size ≤ H2 := by omega
        obtain ⟨wb, hwb⟩ : ∃ wb, wa.alloc (.cells #[.slice Ab mb cb, .int .i64 ((1 : Nat) : Int)] TRS) = wb := ⟨_, rfl⟩
        rw [hH2, hwb] at hbb
        rw [hwb] at xb
        have eb1 : wa.alloc (.cells #[.slice Ab mb cb, .int .i64 1] TRS) = wb := hwb
        rw [hH2, eb1]
        have HSb := Lib.hid (HSa.out.ext xb)
        have HRb := Lib.hid (HRa.out.ext xb)
        have HCb := Lib.hid (HCa.out.ext xb)
        have Xb := Lib.hid (bt Xa.out xb)
        have hqb : q ≤ wb.heap.size := Nat.le_trans hqa xb.size
        have OLb := Lib.hid (own_below OLa.out xb)
        have HBb := Lib.hid hbb
        clear hH2 hwb eb1 xb hbb HSa HRa HCa Xa hqa OLa HVa kb hHa
        obtain ⟨A8, m8, c8, hr8, hk8⟩ := HRb.out
        have k8 := hk8.cells
        simp only [cellsAre, Nat.zero_add, Nat.reduceAdd, and_true] at k8
        have HV8 := Lib.hid hr8
        clear hr8 hk8
        go_wp2_with fail
        refine (zcommit_any HV8.out (by omega) (by omega) HL0.out (by omega) Al _ cl l (own_rvv OLb.out) (by omega)).mono ?_
        rintro e wc ⟨vc_, rfl, hrc, bc_⟩
        obtain ⟨Ac, mc, cc, rfl, hhc⟩ := hrc.form
        clear hhc
        have HSc := Lib.hid (HSb.out.ext bc_)
        have HRc := Lib.hid (HRb.out.ext bc_)
        have HCc := Lib.hid (HCb.out.ext bc_)
        have Xc := Lib.hid (bt Xb.out bc_)
        have hqc : q ≤ wc.heap.size := Nat.le_trans hqb bc_.size
        have OLc := Lib.hid (own_below OLb.out bc_)
        have HBc := Lib.hid (HBb.out.below bc_)
        have kc := HBc.out.cells
        have fc := HBc.out.free
        simp only [cellsAre, Nat.zero_add, Nat.reduceAdd, and_true] at kc
        have hp := trs_put (keep := 1) (A := Ac) (m := mc) (c := cc) HBc.out
        have HRVc := Lib.hid hrc
        clear bc_ hrc HSb HRb HCb Xb hqb OLb HBb HV8 k8
        go_upto_region 15 with fail
        have e1 : ((wc.setCell ⟨H2, 0, none⟩ (.slice Ac mc cc)).setCell ⟨H2, 1, none⟩ (.int .i64 ((1 : Nat) : Int))) = ((wc.setCell ⟨H2, 0, none⟩ (.slice Ac mc cc)).setCell ⟨H2, 1, none⟩ (.int .i64 1)) := rfl
        obtain ⟨wd, hwd⟩ : ∃ wd, ((wc.setCell ⟨H2, 0, none⟩ (.slice Ac mc cc)).setCell ⟨H2, 1, none⟩ (.int .i64 ((1 : Nat) : Int))) = wd := ⟨_, rfl⟩
        rw [← e1]
        rw [hwd] at hp ⊢
        have hxd : Ext w wd := by rw [← hwd]; exact (Xc.out.setCell (p := ⟨H2, 0, none⟩) hwH2 _).setCell (p := ⟨H2, 1, none⟩) hwH2 _
        have HSd := Lib.hid (HSc.out.trs hp.1)
        have HCd := Lib.hid (HCc.out.trs hp.1)
        have HRd := Lib.hid (HRc.out.trs hp.1 hHH)
        have HBd := Lib.hid (show RbX wd H2 (Vs ++ [aft L0 l]) 1 from ⟨Ac, mc, cc, HRVc.out.chg hp.1 (XTr.no (by decide)) (XTr.no (by decide)), hp.2⟩)
        have Xd := Lib.hid hxd
        have hqd : q ≤ wd.heap.size := Nat.le_trans hqc hp.1.size
        have OLd := Lib.hid (OwC.chg OLc.out hp.1 (XTr.no (by decide)))
        clear e1 hwd hp hxd HSc HRc HCc Xc hqc OLc HBc kc fc HRVc
        obtain ⟨Ad, md, cd, hrd, hkd⟩ := HBd.out
        have kd := hkd.cells
        simp only [cellsAre, Nat.zero_add, Nat.reduceAdd, and_true] at kd
        have HVd := Lib.hid hrd
        clear hrd hkd
        go_wp2_with fail
        refine (stl_alike HCd.out HVd.out (by rw [List.length_append, List.length_singleton]; omega) (by omega) (fun x hx => by have := HL3.out x hx; omega)).mono ?_
        rintro e we ⟨ve, rfl, rfl, be⟩
        have HSe := Lib.hid (HSd.out.ext be)
        have HRe := Lib.hid (HRd.out.ext be)
        have HCe := Lib.hid (HCd.out.ext be)
        have Xe := Lib.hid (bt Xd.out be)
        have hqe : q ≤ we.heap.size := Nat.le_trans hqd be.size
        have OLe := Lib.hid (own_below OLd.out be)
        have HBe := Lib.hid (HBd.out.ext be)
        clear be HSd HRd HCd Xd hqd OLd HBd kd HVd
        go_wp2_with fail
        refine (stl_broken HSe.out).mono ?_
        rintro e wf ⟨vf, rfl, rfl, bf⟩
        have HSf := Lib.hid (HSe.out.ext bf)
        have HRf := Lib.hid (HRe.out.ext bf)
        have HCf := Lib.hid (HCe.out.ext bf)
        have Xf := Lib.hid (bt Xe.out bf)
        have hqf : q ≤ wf.heap.size := Nat.le_trans hqe bf.size
        have OLf := Lib.hid (own_below OLe.out bf)
        have HBf := Lib.hid (HBe.out.ext bf)
        clear bf HSe HRe HCe Xe hqe OLe HBe
        go_wp2_with fail
        refine (stl_down HSf.out).mono ?_
        rintro e wg ⟨vg, rfl, rfl, bg⟩
        have HSg := Lib.hid (HSf.out.ext bg)
        have HRg := Lib.hid (HRf.out.ext bg)
        have HCg := Lib.hid (HCf.out.ext bg)
        have Xg := Lib.hid (bt Xf.out bg)
        have hqg : q ≤ wg.heap.size := Nat.le_trans hqf bg.size
        have OLg := Lib.hid (own_below OLf.out bg)
        have HBg := Lib.hid (HBf.out.ext bg)
        clear bg HSf HRf HCf Xf hqf OLf HBf
        obtain ⟨Ag, mg, cg, hrg, hkg⟩ := HRg.out
        have kg := hkg.cells
        simp only [cellsAre, Nat.zero_add, Nat.reduceAdd, and_true] at kg
        have HVg := Lib.hid hrg
        clear hrg hkg
        go_wp2_with fail
        refine (stl_alike HSg.out HVg.out (by omega) (by omega) (fun x hx => by have := HL2.out x hx; omega)).mono ?_
        rintro e wh ⟨vh, rfl, rfl, bh⟩
        have HSh := Lib.hid (HSg.out.ext bh)
        have HRh := Lib.hid (HRg.out.ext bh)
        have HCh := Lib.hid ((HCg.out.ext bh).old)
        have Xh := Lib.hid (bt Xg.out bh)
        have hqh : q ≤ wh.heap.size := Nat.le_trans hqg bh.size
        have OLh := Lib.hid (own_below OLg.out bh)
        have HBh := Lib.hid (HBg.out.ext bh)
        clear bh HSg HRg HCg Xg hqg OLg HBg HVg kg
        go_wp2_with fail
        refine (st_commit_z (F := fun b => (w.heap.size ≤ b ∧ b < q) ∨ wh.heap.size ≤ b) (HSh.out.imp fun b hb => Or.inl hb) (fun b hb => Or.inr hb) (by omega) (by omega) (by omega) HL0.out (by omega) Al _ cl l (own_rvv OLh.out) HBT.out HFT.out).mono ?_
        rintro e wi hi
        rcases hi with ⟨lf9, rfl, _, hsi, hgi⟩ | ⟨h0, _⟩
        · unfold ansV
          have HSi := Lib.hid hsi
          have HCi := Lib.hid (HCh.out.apart hgi fun b hb hX => by rcases hX with hX | hX <;> omega)
          have HRi := Lib.hid (HRh.out.chg hgi)
          have HBi := Lib.hid (HBh.out.chg hgi)
          have Xi := Lib.hid (ext_chg Xh.out hgi fun b o hX => by rcases hX.1 with hX | hX; exact hX.1; exact Nat.le_trans Xh.out.size hX)
          have OLi := Lib.hid (OwC.chg OLh.out hgi MF.tcg)
          clear hsi hgi HSh HRh HCh Xh hqh OLh HBh
          obtain ⟨Ai, mi, ci, hri, hki⟩ := HRi.out
          have ki := hki.cells
          simp only [cellsAre, Nat.zero_add, Nat.reduceAdd, and_true] at ki
          have HVi := Lib.hid hri
          clear hri hki
          go_wp2_with fail
          refine (zcommit_any HVi.out (by omega) (by omega) HL0.out (by omega) Al _ cl l (own_rvv OLi.out) (by omega)).mono ?_
          rintro e wj ⟨vj, rfl, hrj, bj⟩
          have HSj := Lib.hid (HSi.out.ext bj)
          have HCj := Lib.hid (HCi.out.ext bj)
          have HBj := Lib.hid (HBi.out.ext bj)
          have Xj := Lib.hid (bt Xi.out bj)
          have HRj := Lib.hid hrj
          clear bj hrj HSi HCi HRi HBi Xi OLi HVi ki
          obtain ⟨Aj, mj, cj, rfl, hhj⟩ := HRj.out.form
          clear hhj
          go_wp2_with fail
          refine (stl_alike HSj.out HRj.out (by rw [List.length_append, List.length_singleton]; omega) (by omega) (fun x hx => by have := HL3.out x hx; omega)).mono ?_
          rintro e wk ⟨vk, rfl, rfl, bk⟩
          have HCk := Lib.hid (HCj.out.ext bk)
          have HBk := Lib.hid (HBj.out.ext bk)
          have Xk := Lib.hid (bt Xj.out bk)
          clear bk HSj HCj HBj Xj HRj
          obtain ⟨Ak, mk, ck, hrk, hkk⟩ := HBk.out
          have kk := hkk.cells
          simp only [cellsAre, Nat.zero_add, Nat.reduceAdd, and_true] at kk
          have HVk := Lib.hid hrk
          clear hrk hkk
          go_wp2_with fail
          refine (stl_alike HCk.out HVk.out (by rw [List.length_append, List.length_singleton]; omega) (by omega) (fun x hx => by have := HL3.out x hx; omega)).mono ?_
          rintro e wl ⟨vl, rfl, rfl, bl_⟩
          have Xl := Lib.hid (bt Xk.out bl_)
          clear bl_ HCk HBk Xk HVk kk
          go_wp2_with fail
          (try simp only [Exit.inBlock, Exit.then])
          refine bodyPost_ret (v := (.bool true)) (by simp [results, Tryz.results5, go_sem, *]) rfl ?_
          exact ⟨_, rfl, rfl, Xl.out⟩
        · exact absurd rfl h0
      · unfold ansV
        have HCa := Lib.hid hca
        clear hca
        go_upto_region 15 with fail
        have xb : Ext wa (wa.alloc (.cells #[.slice Ab mb cb, .int .i64 ((1 : Nat) : Int)] TRS)) := Ext.allocR _ _
        have hbb : Blk (wa.alloc (.cells #[.slice Ab mb cb, .int .i64 ((1 : Nat) : Int)] TRS)) wa.heap.size TRS #[.slice Ab mb cb, .int .i64 ((1 : Nat) : Int)] := Blk.new_ _ _ rfl
        obtain ⟨H2, hH2⟩ : ∃ H2, wa.heap.size = H2 := ⟨_, rfl⟩
        obtain ⟨wd, hwd⟩ : ∃ wd, wa.alloc (.cells #[.slice Ab mb cb, .int .i64 ((1 : Nat) : Int)] TRS) = wd := ⟨_, rfl⟩
        rw [hH2, hwd] at hbb
        rw [hwd] at xb
        have eb1 : wa.alloc (.cells #[.slice Ab mb cb, .int .i64 1] TRS) = wd := hwd
        rw [hH2, eb1]
        have HSd0 := Lib.hid (HSa.out.ext xb)
        have HRd0 := Lib.hid (HRa.out.ext xb)
        have HCd0 := Lib.hid (HCa.out.ext xb)
        have Xd0 := Lib.hid (bt Xa.out xb)
        have hqd0 : q ≤ wd.heap.size := Nat.le_trans hqa xb.size
        have OLd0 := Lib.hid (own_below OLa.out xb)
        have HBd0 := Lib.hid (show RbX wd H2 Vs 1 from ⟨Ab, mb, cb, HVa.out.ext xb, hbb⟩)
        clear hH2 hwd eb1 xb hbb HSa HRa HCa Xa hqa OLa HVa kb
        go_wp2_with fail
        refine (std_broken HCd0.out).mono ?_
        rintro e we0 ⟨ve0, rfl, rfl, be0⟩
        have HSd := Lib.hid (HSd0.out.ext be0)
        have HRd := Lib.hid (HRd0.out.ext be0)
        have HCd := Lib.hid (HCd0.out.ext be0)
        have Xd := Lib.hid (bt Xd0.out be0)
        have hqd : q ≤ we0.heap.size := Nat.le_trans hqd0 be0.size
        have OLd := Lib.hid (own_below OLd0.out be0)
        have HBd := Lib.hid (HBd0.out.ext be0)
        clear be0 HSd0 HRd0 HCd0 Xd0 hqd0 OLd0 HBd0
        obtain ⟨Ad, md, cd, hrd, hkd⟩ := HBd.out
        have kd := hkd.cells
        simp only [cellsAre, Nat.zero_add, Nat.reduceAdd, and_true] at kd
        have HVd := Lib.hid hrd
        clear hrd hkd
        go_wp2_with fail
        refine (std_alike HCd.out HVd.out (by omega) (by omega) (fun x hx => by have := HL2.out x hx; omega)).mono ?_
        rintro e we ⟨ve, rfl, rfl, be⟩
        have HSe := Lib.hid (HSd.out.ext be)
        have HRe := Lib.hid (HRd.out.ext be)
        have HCe := Lib.hid (HCd.out.ext be)
        have Xe := Lib.hid (bt Xd.out be)
        have hqe : q ≤ we.heap.size := Nat.le_trans hqd be.size
        have OLe := Lib.hid (own_below OLd.out be)
        have HBe := Lib.hid (HBd.out.ext be)
        clear be HSd HRd HCd Xd hqd OLd HBd kd HVd
        go_wp2_with fail
        refine (stl_broken HSe.out).mono ?_
        rintro e wf ⟨vf, rfl, rfl, bf⟩
        have HSf := Lib.hid (HSe.out.ext bf)
        have HRf := Lib.hid (HRe.out.ext bf)
        have HCf := Lib.hid (HCe.out.ext bf)
        have Xf := Lib.hid (bt Xe.out bf)
        have hqf : q ≤ wf.heap.size := Nat.le_trans hqe bf.size
        have OLf := Lib.hid (own_below OLe.out bf)
        have HBf := Lib.hid (HBe.out.ext bf)
        clear bf HSe HRe HCe Xe hqe OLe HBe
        go_wp2_with fail
        refine (stl_down HSf.out).mono ?_
        rintro e wg ⟨vg, rfl, rfl, bg⟩
        have HSg := Lib.hid (HSf.out.ext bg)
        have HRg := Lib.hid (HRf.out.ext bg)
        have HCg := Lib.hid (HCf.out.ext bg)
        have Xg := Lib.hid (bt Xf.out bg)
        have hqg : q ≤ wg.heap.size := Nat.le_trans hqf bg.size
        have OLg := Lib.hid (own_below OLf.out bg)
        have HBg := Lib.hid (HBf.out.ext bg)
        clear bg HSf HRf HCf Xf hqf OLf HBf
        obtain ⟨Ag, mg, cg, hrg, hkg⟩ := HRg.out
        have kg := hkg.cells
        simp only [cellsAre, Nat.zero_add, Nat.reduceAdd, and_true] at kg
        have HVg := Lib.hid hrg
        clear hrg hkg
        go_wp2_with fail
        refine (stl_alike HSg.out HVg.out (by omega) (by omega) (fun x hx => by have := HL2.out x hx; omega)).mono ?_
        rintro e wh ⟨vh, rfl, rfl, bh⟩
        have HSh := Lib.hid (HSg.out.ext bh)
        have HRh := Lib.hid (HRg.out.ext bh)
        have HCh := Lib.hid ((HCg.out.ext bh).old)
        have Xh := Lib.hid (bt Xg.out bh)
        have hqh : q ≤ wh.heap.size := Nat.le_trans hqg bh.size
        have OLh := Lib.hid (own_below OLg.out bh)
        have HBh := Lib.hid (HBg.out.ext bh)
        clear bh HSg HRg HCg Xg hqg OLg HBg HVg kg
        go_wp2_with fail
        refine (st_commit_z (F := fun b => (w.heap.size ≤ b ∧ b < q) ∨ wh.heap.size ≤ b) (HSh.out.imp fun b hb => Or.inl hb) (fun b hb => Or.inr hb) (by omega) (by omega) (by omega) HL0.out (by omega) Al _ cl l (own_rvv OLh.out) HBT.out HFT.out).mono ?_
        rintro e wi hi
        rcases hi with ⟨lf9, rfl, _, hsi, hgi⟩ | ⟨h0, _⟩
        · unfold ansV
          have HSi := Lib.hid hsi
          have HCi := Lib.hid (HCh.out.apart hgi fun b hb hX => by rcases hX with hX | hX <;> omega)
          have HRi := Lib.hid (HRh.out.chg hgi)
          have HBi := Lib.hid (HBh.out.chg hgi)
          have Xi := Lib.hid (ext_chg Xh.out hgi fun b o hX => by rcases hX.1 with hX | hX; exact hX.1; exact Nat.le_trans Xh.out.size hX)
          have OLi := Lib.hid (OwC.chg OLh.out hgi MF.tcg)
          clear hsi hgi HSh HRh HCh Xh hqh OLh HBh
          obtain ⟨Ai, mi, ci, hri, hki⟩ := HRi.out
          have ki := hki.cells
          simp only [cellsAre, Nat.zero_add, Nat.reduceAdd, and_true] at ki
          have HVi := Lib.hid hri
          clear hri hki
          go_wp2_with fail
          refine (zcommit_any HVi.out (by omega) (by omega) HL0.out (by omega) Al _ cl l (own_rvv OLi.out) (by omega)).mono ?_
          rintro e wj ⟨vj, rfl, hrj, bj⟩
          have HSj := Lib.hid (HSi.out.ext bj)
          have HCj := Lib.hid (HCi.out.ext bj)
          have HBj := Lib.hid (HBi.out.ext bj)
          have Xj := Lib.hid (bt Xi.out bj)
          have HRj := Lib.hid hrj
          clear bj hrj HSi HCi HRi HBi Xi OLi HVi ki
          obtain ⟨Aj, mj, cj, rfl, hhj⟩ := HRj.out.form
          clear hhj
          go_wp2_with fail
          refine (stl_alike HSj.out HRj.out (by rw [List.length_append, List.length_singleton]; omega) (by omega) (fun x hx => by have := HL3.out x hx; omega)).mono ?_
          rintro e wk ⟨vk, rfl, rfl, bk⟩
          have HCk := Lib.hid (HCj.out.ext bk)
          have HBk := Lib.hid (HBj.out.ext bk)
          have Xk := Lib.hid (bt Xj.out bk)
          clear bk HSj HCj HBj Xj HRj
          obtain ⟨Ak, mk, ck, hrk, hkk⟩ := HBk.out
          have kk := hkk.cells
          simp only [cellsAre, Nat.zero_add, Nat.reduceAdd, and_true] at kk
          have HVk := Lib.hid hrk
          clear hrk hkk
          go_wp2_with fail
          refine (std_alike HCk.out HVk.out (by omega) (by omega) (fun x hx => by have := HL2.out x hx; omega)).mono ?_
          rintro e wl ⟨vl, rfl, rfl, bl_⟩
          have Xl := Lib.hid (bt Xk.out bl_)
          clear bl_ HCk HBk Xk HVk kk
          go_wp2_with fail
          (try simp only [Exit.inBlock, Exit.then])
          refine bodyPost_ret (v := (.bool true)) (by simp [results, Tryz.results5, go_sem, *]) rfl ?_
          exact ⟨_, rfl, rfl, Xl.out⟩
        · exact absurd rfl h0
end Go.Proofs.Tb
