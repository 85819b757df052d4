/- StoreCrashes: the walk. -/
import Derived.Test.YtfljnfdeboibhaaGreatRok
set_option linter.unusedVariables false
set_option linter.unusedSimpArgs false
namespace Go.Proofs.Tb
open Go.Maps Go.RowKit Go.Lib
attribute [local go_sem] cell_set_same neqMapL

set_option maxHeartbeats 6400000 in
set_option maxRecDepth 100000 in
theorem rcrashes_any (A : Option Addr) (nx cx : Nat) (act : Int) (Ak : Option Addr) (nk ck : Nat) (w : World) (h : OpX w A nx cx) (hk : ByX w Ak nk ck) :
    Calls Tryz.prog 4 #[.slice A nx cx, .int .i64 act, .slice Ak nk ck] w (Ret (fun z _ => z = .bool true) w) := by
  obtain ⟨ac, hac, eb⟩ := and127 act
  obtain ⟨ks, hks1, hks2⟩ := hk.ex
  have hle := h.le
  have hcp := h.cap
  have HX := Lib.hid h
  have HKS := Lib.hid (And.intro hks1 hks2)
  have wa : IntKind.i64.wrap ((ac : Int) + 1) = ((ac + 1 : Nat) : Int) := by rw [IntWalk.i64_in _ (by omega)]; rfl
  have wm : (max 0 ((ac + 1 : Nat) : Int)).toNat = ac + 1 := by omega
  have HWM := Lib.hid wm
  clear h hk hks1 hks2 wm
  go_enter Tryz.func4, Tryz.ntmps4
  go_wp2_with fail
  refine (ropened_any 2 (by omega) w).mono ?_
  rintro e w1 ⟨v1, rfl, ⟨s, d, rfl, hs⟩, b1⟩
  have HS1 := Lib.hid (show STl (fun b => w.heap.size ≤ b) w1 s d 2 1536 [[]] 0 from hs)
  have X1 := Lib.hid b1
  clear hs b1
  go_wp2_with fail
  refine (rlives_any w1).mono ?_
  rintro e w2 ⟨v2, rfl, rfl, b2⟩
  have HS2 := Lib.hid (HS1.out.ext b2)
  have X2 := Lib.hid (bt X1.out b2)
  clear b2 HS1 X1
  go_wp2_with fail
  refine (st_arm HS2.out ((ac + 1 : Nat) : Int) (by omega)).mono ?_
  rintro e w3 ⟨⟨v3, rfl⟩, hs3, hc3⟩
  rw [HWM.out] at hs3
  have HS3 := Lib.hid hs3
  have X3 := Lib.hid (hc3.ge X2.out)
  clear hs3 hc3 HS2 X2
  go_wp2_with fail
  refine (znew_any 2 w3).mono ?_
  rintro e w4 ⟨v4, rfl, hr4, b4⟩
  obtain ⟨A4, m4, c4, rfl, hh4⟩ := hr4.form
  clear hh4
  have HS4 := Lib.hid (HS3.out.ext b4)
  have HR4 := Lib.hid hr4
  have X4 := Lib.hid (bt X3.out b4)
  clear hr4 b4 HS3 X3
  go_upto_region 6 with fail
  have x5 : Ext w4 (w4.alloc (.cells #[.slice A4 m4 c4, .int .i64 ((2 : Nat) : Int)] TRS)) := Ext.allocR _ _
  refine wp_world (fun W => FiL w W s d w4.heap.size 2 1536 [[]] (ac + 1)) ⟨HS4.out.ext x5, ⟨A4, m4, c4, HR4.out.ext x5, Blk.new_ _ _ rfl⟩, bt X4.out x5, X4.out.size, fun l hl => by rw [List.mem_singleton.1 hl]; exact Nat.zero_le _⟩ ?_
  obtain ⟨H, hH⟩ : ∃ H, w4.heap.size = H := ⟨_, rfl⟩
  rw [hH]
  rintro W5 hw5
  have HW5 := Lib.hid hw5
  clear x5 hw5 HS4 HR4 X4 hH
  go_wp2_with fail
  go_loopw [10] (fun i wr => ∃ (j lf : Nat) (Vs : List (List Pr)), j ≤ nx ∧ j ≤ 20 ∧ i = .int .i64 (j : Int) ∧ Vs.length ≤ j + 1 ∧ FiL w wr s d H 2 1536 Vs lf) (fun i _ => nx - (intOf i).toNat)
  case atStart => exact ⟨0, _, [[]], by omega, by omega, rfl, by decide, HW5.out⟩
  case round =>
    clear HW5
    obtain ⟨j, lf, Vs, hjn, hjm, rfl, hvl, hw⟩ := hrel
    have HW := Lib.hid hw
    clear hw
    by_cases hjj : j < nx ∧ j < 20
    · have p1 : (j : Int) < (nx : Int) := by omega
      have p2 : (j : Int) < 20 := by omega
      have wj : IntKind.i64.wrap ((j : Int) + 1) = ((j + 1 : Nat) : Int) := by rw [IntWalk.i64_in _ (by omega)]; rfl
      obtain ⟨b, o, rfl, Ab, nb, cb, bs, kb, hrb, hsb⟩ := HX.out.at_ j hjj.1
      have kb1 := ext_cell HW.out.ex kb
      have HRB := Lib.hid hrb
      have HSB := Lib.hid hsb
      clear kb hrb hsb
      go_wp2_with fail
      refine (rbat_any Ab nb cb bs 6 wr (HRB.out.below HW.out.ex) HSB.out (by omega)).mono ?_
      rintro e w4 ⟨v4, rfl, ⟨l, hol, hll, hcu⟩, b4⟩
      obtain ⟨Al, cl, rfl, hrl⟩ := own_rv hol
      have HW4 := Lib.hid (HW.out.ext b4)
      have RL := Lib.hid hrl
      have OL := Lib.hid hol
      have CU := Lib.hid hcu
      clear hol b4 hrl hcu HRB HSB kb1 HW
      go_wp2_with fail
      refine (zbatch_any Al _ cl l w4 RL.out (by omega) (fun x hx => by have := CU.out x hx; omega)).mono ?_
      rintro e w5 ⟨v5, rfl, rfl, b5⟩
      have HW5 := Lib.hid (HW4.out.ext b5)
      have RL5 := Lib.hid (RL.out.below b5)
      have OL5 := Lib.hid (own_below OL.out b5)
      clear b5 HW4 RL OL
      obtain ⟨A5, m5, c5, hr5, hk5⟩ := HW5.out.rv
      have k5 := hk5.cells
      simp only [cellsAre, Nat.zero_add, Nat.reduceAdd, and_true] at k5
      have HR5 := Lib.hid hr5
      clear hk5 hr5
      cases hbat : batB l with
      | false =>
        clear hbat
        go_wp2_with fail
        exact ⟨⟨j + 1, lf, Vs, by omega, by omega, rfl, by omega, HW5.out⟩, by simp [intOf]; omega⟩
      | true =>
        have HBT := Lib.hid hbat
        obtain ⟨L, hL⟩ : ∃ L, Vs.getD (Vs.length - 1) [] = L := ⟨_, rfl⟩
        have hVp := HW5.out.st.pos
        have hLm : L.length ≤ 360 := by
          rw [← hL, show Vs.getD (Vs.length - 1) [] = Vs[Vs.length - 1] by simp [List.getD, show Vs.length - 1 < Vs.length by omega]]
          exact HW5.out.le _ (List.getElem_mem _)
        have HL := Lib.hid hL
        clear hbat hL
        go_wp2_with fail
        refine (zfits_any HR5.out (by omega) (by omega) (by omega) HL.out (fun x hx => by have := HW5.out.le x hx; omega) Al _ cl l RL5.out (by omega) 1536).mono ?_
        rintro e w6 ⟨v6, rfl, rfl, b6⟩
        have HW6 := Lib.hid (HW5.out.ext b6)
        have RL6 := Lib.hid (RL5.out.below b6)
        have OL6 := Lib.hid (own_below OL5.out b6)
        clear b6 HW5 RL5 OL5 HR5 k5
        cases hfit : fitB Vs 2 (aft L l) 1536 with
        | false =>
          clear hfit
          go_wp2_with fail
          exact ⟨⟨j + 1, lf, Vs, by omega, by omega, rfl, by omega, HW6.out⟩, by simp [intOf]; omega⟩
        | true =>
          have HFT := Lib.hid hfit
          have HLN := Lib.hid (fit_len hfit hVp)
          clear hfit
          go_wp2_with fail
          refine (st_commit_z HW6.out.st (fun b hb => Nat.le_trans HW6.out.ex.size hb) (by omega) (by omega) (by omega) HL.out (by omega) Al _ cl l RL6.out HBT.out HFT.out).mono ?_
          rintro e w7 ha
          have hc7 : Chg (MF fun b => w.heap.size ≤ b) w6 w7 := by
            cases ha with
            | ok _ _ _ _ h => exact h
            | down _ _ _ h => exact h
          have HOL7 := Lib.hid (OwC.chg OL6.out hc7 MF.tcg)
          have RL7 := Lib.hid (own_rvv HOL7.out)
          have X7 := Lib.hid (hc7.ge HW6.out.ex)
          obtain ⟨A6, m6, c6, hr6, hk6⟩ := HW6.out.rv
          have HK7 := Lib.hid (hc7.blk hk6 (MF.trs _ _))
          have HR7 := Lib.hid (hr6.chg hc7 MF.tpa MF.tps)
          have HHW := Lib.hid HW6.out.hw
          have HLE0 := Lib.hid HW6.out.le
          have HLE := Lib.hid (show ∀ x ∈ Vs ++ [aft L l], x.length ≤ 360 from fun x hx => by
            rcases List.mem_append.1 hx with hx | hx
            · exact HW6.out.le x hx
            · rw [List.mem_singleton.1 hx]; exact HLN.out)
          have k7 := HK7.out.cells
          simp only [cellsAre, Nat.zero_add, Nat.reduceAdd, and_true] at k7
          clear hc7 hk6 hr6 HW6 RL6 OL6
          rcases ha with ⟨lf', rfl, _, hs7, _⟩ | ⟨_, rfl, hs7, _⟩
          · unfold ansV
            have HS7 := Lib.hid hs7
            clear hs7
            go_wp2_with fail
            refine (zcommit_any HR7.out (by omega) (by omega) HL.out (by omega) Al _ cl l RL7.out (by omega)).mono ?_
            rintro e w9 ⟨v9, rfl, hr9, b9⟩
            obtain ⟨A9, m9, c9, rfl, hh9⟩ := hr9.form
            clear hh9
            have HS9 := Lib.hid (HS7.out.ext b9)
            have HR9 := Lib.hid hr9
            have HK9 := Lib.hid (HK7.out.below b9)
            have X9 := Lib.hid (bt X7.out b9)
            have k9 := HK9.out.cells
            simp only [cellsAre, Nat.zero_add, Nat.reduceAdd, and_true] at k9
            have f9 := HK9.out.free
            clear b9 hr9 HS7 HR7 HK7 RL7 X7 k7
            go_wp2_with fail
            exact ⟨⟨j + 1, lf', _, by omega, by omega, rfl, by rw [List.length_append, List.length_singleton]; omega, FiL.put HS9.out ⟨_, _, HK9.out⟩ HR9.out X9.out HHW.out HLE.out⟩, by simp [intOf]; omega⟩
          · unfold ansV
            have HS7 := Lib.hid hs7
            clear hs7
            go_wp2_with fail
            refine (std_down HS7.out).mono ?_
            rintro e w8 ⟨v8, rfl, rfl, b8⟩
            have HS8 := Lib.hid (HS7.out.ext b8)
            have X8 := Lib.hid (bt X7.out b8)
            have HR8 := Lib.hid (HR7.out.ext b8)
            have HK8 := Lib.hid (HK7.out.below b8)
            have OL8 := Lib.hid (own_below HOL7.out b8)
            clear b8 HS7 X7 HR7 HK7 HOL7 RL7 k7
            go_wp2_with fail
            refine (std_broken HS8.out).mono ?_
            rintro e w9 ⟨v9, rfl, rfl, b9⟩
            have HS9 := Lib.hid (HS8.out.ext b9)
            have X9 := Lib.hid (bt X8.out b9)
            have HR9 := Lib.hid (HR8.out.ext b9)
            have HK9 := Lib.hid (HK8.out.below b9)
            have OL9 := Lib.hid (own_below OL8.out b9)
            have k9 := HK9.out.cells
            simp only [cellsAre, Nat.zero_add, Nat.reduceAdd, and_true] at k9
            clear b9 HS8 X8 HR8 HK8 OL8
            go_wp2_with fail
            refine (std_alike HS9.out HR9.out (by omega) (by omega) (fun x hx => by have := HLE0.out x hx; omega)).mono ?_
            rintro e w10 ⟨v10, rfl, rfl, b10⟩
            have HS10 := Lib.hid (HS9.out.ext b10)
            have X10 := Lib.hid (bt X9.out b10)
            have HR10 := Lib.hid (HR9.out.ext b10)
            have HK10 := Lib.hid (HK9.out.below b10)
            have OL10 := Lib.hid (own_below OL9.out b10)
            have k10 := HK10.out.cells
            simp only [cellsAre, Nat.zero_add, Nat.reduceAdd, and_true] at k10
            clear b10 HS9 X9 HR9 HK9 OL9 k9
            go_wp2_with fail
            refine (rcrashed_any HS10.out (fun b hb => Nat.le_trans X10.out.size hb) (by omega) (by omega) (by omega) (fun x hx => by have := HLE0.out x hx; omega) (by have := HLN.out; omega) l HL.out rfl _ HR10.out Al _ cl (fun W hW => own_rvv (OwC.chg OL10.out hW MF.tcg)) (by omega) Ak nk ck ks (fun W hW => HKS.out.1.below (hW.ge X10.out)) HKS.out.2).mono ?_
            rintro e w11 ⟨s', rv', Vs', rfl, _, _, hr11, hc11⟩
            obtain ⟨A11, m11, c11, rfl, hh11⟩ := hr11.form
            clear hh11 hr11
            have X11 := Lib.hid (hc11.ge X10.out)
            clear hc11 HS10 HR10 HK10 OL10 k10
            go_wp2_with fail
            go_returns
            exact ⟨_, rfl, rfl, bt X11.out (Ext.allocR _ _)⟩
    · rcases Nat.lt_or_ge j nx with hlt | hge
      · have p1 : (j : Int) < (nx : Int) := by omega
        have p2 : ¬ (j : Int) < 20 := by omega
        go_wp2_with fail
        refine (stl_down HW.out.st).mono ?_
        rintro e w12 ⟨v12, rfl, rfl, b12⟩
        have HW12 := Lib.hid (HW.out.ext b12)
        clear b12 HW
        go_wp2_with fail
        refine (stl_broken HW12.out.st).mono ?_
        rintro e w13 ⟨v13, rfl, rfl, b13⟩
        have HW13 := Lib.hid (HW12.out.ext b13)
        clear b13 HW12
        obtain ⟨A6, m6, c6, hr6, hk6⟩ := HW13.out.rv
        have k6 := hk6.cells
        simp only [cellsAre, Nat.zero_add, Nat.reduceAdd, and_true] at k6
        have HR6 := Lib.hid hr6
        clear hr6 hk6
        go_wp2_with fail
        refine (stl_alike HW13.out.st HR6.out (by omega) (by omega) (fun x hx => by have := HW13.out.le x hx; omega)).mono ?_
        rintro e w14 ⟨v14, rfl, rfl, b14⟩
        have X14 := Lib.hid (bt HW13.out.ex b14)
        clear b14 HW13 HR6 k6
        go_wp2_with fail
        (try simp only [Exit.inBlock, Exit.then])
        refine bodyPost_ret (v := (.bool true)) (by simp [results, Tryz.results4, go_sem, *]) rfl ?_
        exact ⟨_, rfl, rfl, X14.out⟩
      · have p1 : ¬ (j : Int) < (nx : Int) := by omega
        go_wp2_with fail
        refine (stl_down HW.out.st).mono ?_
        rintro e w12 ⟨v12, rfl, rfl, b12⟩
        have HW12 := Lib.hid (HW.out.ext b12)
        clear b12 HW
        go_wp2_with fail
        refine (stl_broken HW12.out.st).mono ?_
        rintro e w13 ⟨v13, rfl, rfl, b13⟩
        have HW13 := Lib.hid (HW12.out.ext b13)
        clear b13 HW12
        obtain ⟨A6, m6, c6, hr6, hk6⟩ := HW13.out.rv
        have k6 := hk6.cells
        simp only [cellsAre, Nat.zero_add, Nat.reduceAdd, and_true] at k6
        have HR6 := Lib.hid hr6
        clear hr6 hk6
        go_wp2_with fail
        refine (stl_alike HW13.out.st HR6.out (by omega) (by omega) (fun x hx => by have := HW13.out.le x hx; omega)).mono ?_
        rintro e w14 ⟨v14, rfl, rfl, b14⟩
        have X14 := Lib.hid (bt HW13.out.ex b14)
        clear b14 HW13 HR6 k6
        go_wp2_with fail
        (try simp only [Exit.inBlock, Exit.then])
        refine bodyPost_ret (v := (.bool true)) (by simp [results, Tryz.results4, go_sem, *]) rfl ?_
        exact ⟨_, rfl, rfl, X14.out⟩
end Go.Proofs.Tb
