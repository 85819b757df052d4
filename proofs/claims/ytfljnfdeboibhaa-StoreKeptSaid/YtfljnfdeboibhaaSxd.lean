/- StoreKept: the walk. -/
import Derived.Test.YtfljnfdeboibhaaTwf
set_option linter.unusedVariables false
set_option linter.unusedSimpArgs false
namespace Go.Proofs.Tb
open Go.Maps Go.RowKit Go.Lib
attribute [local go_sem] cell_set_same neqMapL
theorem and7 (y : Int) : ∃ b : Nat, b ≤ 7 ∧ bits .and .i64 y 7 = (b : Int) := by
  have e : bits .and .i64 y 7 = IntKind.i64.wrap ((BitVec.ofInt 64 y &&& BitVec.ofInt 64 7).toNat : Int) := rfl
  have h : (BitVec.ofInt 64 y &&& BitVec.ofInt 64 7).toNat ≤ 7 := by
    rw [BitVec.toNat_and]
    exact Nat.and_le_right
  refine ⟨_, h, ?_⟩
  rw [e, IntWalk.i64_in _ (by omega)]
/-- Range of all pairs, at a version that is kept. -/
theorem st_range_ok {F : Nat → Prop} {w : World} {s d keep n : Nat} {Vs : List (List Pr)} (h : STx F w s d keep n Vs) (hV : Vs.length ≤ 100000) {v : Nat} (hv : v < Vs.length) (hk : Vs.length - 1 - v ≤ keep) (hz : (Vs.getD v []).length ≤ 1000) :
    Calls Try.prog 20 #[.pointer (some ⟨s, 0, none⟩), .int .i64 (v : Int), .string ⟨#[]⟩, .string ⟨#[]⟩, .int .i64 1000] w (Ret (fun z w' => ∃ z', z = ansR z' 0 ∧ OwP w.heap.size w' z' (Vs.getD v [])) w) := by
  obtain ⟨vs, B, bl, h1, h2, h3, h4⟩ := h
  have hlen := h2.len
  have hi : Vs.length - 1 - v < vs.length := by omega
  obtain ⟨t, ht1, ht2, _⟩ := h2.at_ _ hi
  have hu : (vs[Vs.length - 1 - v]).2 = t := by
    rw [List.getElem?_eq_getElem hi] at ht1
    injection ht1 with ht1
    rw [ht1]
  have ho := (h2.okAt hi).1
  rw [show Vs.length - 1 - (Vs.length - 1 - v) = v by omega] at ht2 ho
  have hts : t.er.size = (Vs.getD v []).length := by rw [← ht2, Tr.size_prs]
  have := callsIn_wide.1 (rrange_in h1.sr h2.vsn (by omega) hi (v := (v : Int)) (by omega) hu (by rw [ht2]; exact ho) (by omega) ⟨#[]⟩ ⟨#[]⟩ 1000 (by omega) (by decide))
  rw [ht2, rngP_all hz] at this
  exact this
theorem st_range_old {F : Nat → Prop} {w : World} {s d keep n : Nat} {Vs : List (List Pr)} (h : STx F w s d keep n Vs) (hV : Vs.length ≤ 100000) {v : Nat} (hv : v < Vs.length - 1 - keep) :
    Calls Try.prog 20 #[.pointer (some ⟨s, 0, none⟩), .int .i64 (v : Int), .string ⟨#[]⟩, .string ⟨#[]⟩, .int .i64 1000] w (Ret (fun z _ => z = ansR (.slice none 0 0) 10) w) := by
  obtain ⟨vs, B, bl, h1, h2, h3, h4⟩ := h
  have hlen := h2.len
  have he : verB (Vs.length - 1) vs.length (v : Int) = 10 := by
    unfold verB
    rw [if_neg (by omega), if_pos (by omega)]
  exact rrange_err h1.sr h2.vsn (by omega) (v : Int) 10 he (by decide) ⟨#[]⟩ ⟨#[]⟩ 1000
set_option maxHeartbeats 6400000 in
set_option maxRecDepth 100000 in
theorem rkept_any (A : Option Addr) (nx cx : Nat) (A' : Option Addr) (ny cy : Nat) (keep0 : Int) (w : World) (h : OpX w A nx cx) (hy : OpX w A' ny cy) :
    Calls Try.prog 4 #[.slice A nx cx, .slice A' ny cy, .int .i64 keep0] w (Ret (fun z _ => z = .bool true) w) := by
  obtain ⟨keep, hkp, eb⟩ := and7 keep0
  have hle := hy.le
  have hcp := hy.cap
  have HX := Lib.hid h
  have HY := Lib.hid hy
  clear h hy
  go_enter Try.func4, Try.ntmps4
  go_wp2_with fail
  refine (rfilled_any A nx cx 10 keep (by omega) (by omega) w HX.out).mono ?_
  rintro e w1 ⟨v1, rfl, ⟨s, d, rv, V0, rfl, hs, hr, hl1, hl2⟩, b1⟩
  obtain ⟨A1, m1, c1, rfl, hh1⟩ := hr.form
  clear hh1
  have HS1 := Lib.hid hs
  have HR1 := Lib.hid hr
  have X1 := Lib.hid b1
  have HL2 := Lib.hid hl2
  clear hs hr b1 hl2
  go_upto_region 3 with fail
  have x2 : Ext w1 (w1.alloc (.cells #[.slice A1 m1 c1, .int .i64 (keep : Int)] TRS)) := Ext.allocR _ _
  refine wp_world (fun W => FiS w W s d w1.heap.size keep 1536 V0) ⟨HS1.out.ext x2, ⟨A1, m1, c1, HR1.out.ext x2, Blk.new_ _ _ rfl⟩, bt X1.out x2, X1.out.size, HL2.out⟩ ?_
  obtain ⟨H, hH⟩ : ∃ H, w1.heap.size = H := ⟨_, rfl⟩
  rw [hH]
  rintro W2 hw2
  have HW2 := Lib.hid hw2
  clear x2 hw2 HS1 HR1 X1 hH HL2
  go_wp2_with fail
  refine (rlives_any W2).mono ?_
  rintro e w3 ⟨v3, rfl, rfl, b3⟩
  have HW3 := Lib.hid (HW2.out.ext b3)
  clear b3 HW2
  obtain ⟨A3, m3, c3, hr3, hk3⟩ := HW3.out.rv
  have k3 := hk3.cells
  simp only [cellsAre, Nat.zero_add, Nat.reduceAdd, and_true] at k3
  have HR3 := Lib.hid hr3
  have hp0 := HW3.out.st.pos
  clear hk3 hr3
  go_wp2_with fail
  refine (znewest_any HR3.out (by omega)).mono ?_
  rintro e w4 ⟨v4, rfl, rfl, b4⟩
  obtain ⟨at0, hat⟩ : ∃ at0, V0.length - 1 = at0 := ⟨_, rfl⟩
  rw [show ((V0.length : Int) - 1) = (at0 : Int) by omega]
  have HW4 := Lib.hid (HW3.out.ext b4)
  have hat1 : at0 < V0.length := by omega
  clear b4 HW3 HR3 k3 hat
  go_wp2_with fail
  go_loopw [11] (fun i wr => ∃ (j : Nat) (Vs : List (List Pr)), j ≤ ny ∧ j ≤ 10 ∧ i = .int .i64 (j : Int) ∧ Vs.length ≤ j + 11 ∧ at0 < Vs.length ∧ FiS w wr s d H keep 1536 Vs) (fun i _ => ny - (intOf i).toNat)
  case atStart => exact ⟨0, V0, by omega, by omega, rfl, by omega, hat1, HW4.out⟩
  case round =>
    clear HW4
    obtain ⟨j, Vs, hjn, hjm, rfl, hvl, hav, hw⟩ := hrel
    have HW := Lib.hid hw
    clear hw
    by_cases hjj : j < ny ∧ j < 10
    · have p1 : (j : Int) < (ny : Int) := by omega
      have p2 : (j : Int) < 10 := by omega
      have wj : IntKind.i64.wrap ((j : Int) + 1) = ((j + 1 : Nat) : Int) := by rw [IntWalk.i64_in _ (by omega)]; rfl
      obtain ⟨b, o, rfl, Ab, nb, cb, bs, kb, hrb, hsb⟩ := HY.out.at_ j hjj.1
      have kb1 := ext_cell HW.out.ex kb
      have HRB := Lib.hid hrb
      have HSB := Lib.hid hsb
      clear kb hrb hsb
      go_wp2_with fail
      refine (rbat_any Ab nb cb bs 6 wr (HRB.out.below HW.out.ex) HSB.out (by omega)).mono ?_
      rintro e w4 ⟨v4, rfl, ⟨l, hol, hll, hcu⟩, b4⟩
      obtain ⟨Al, cl, rfl, hrl⟩ := own_rv hol
      have HW4 := Lib.hid (HW.out.ext b4)
      have RL := Lib.hid hrl
      have OL := Lib.hid hol
      have CU := Lib.hid hcu
      clear hol b4 hrl hcu HRB HSB kb1 HW
      go_wp2_with fail
      refine (zbatch_any Al _ cl l w4 RL.out (by omega) (fun x hx => by have := CU.out x hx; omega)).mono ?_
      rintro e w5 ⟨v5, rfl, rfl, b5⟩
      have HW5 := Lib.hid (HW4.out.ext b5)
      have RL5 := Lib.hid (RL.out.below b5)
      have OL5 := Lib.hid (own_below OL.out b5)
      clear b5 HW4 RL OL
      obtain ⟨A5, m5, c5, hr5, hk5⟩ := HW5.out.rv
      have k5 := hk5.cells
      simp only [cellsAre, Nat.zero_add, Nat.reduceAdd, and_true] at k5
      have HR5 := Lib.hid hr5
      clear hk5 hr5
      cases hbat : batB l with
      | false =>
        clear hbat
        go_wp2_with fail
        exact ⟨⟨j + 1, Vs, by omega, by omega, rfl, by omega, hav, HW5.out⟩, by simp [intOf]; omega⟩
      | true =>
        have HBT := Lib.hid hbat
        obtain ⟨L, hL⟩ : ∃ L, Vs.getD (Vs.length - 1) [] = L := ⟨_, rfl⟩
        have hVp := HW5.out.st.pos
        have hLm : L.length ≤ 360 := by
          rw [← hL, show Vs.getD (Vs.length - 1) [] = Vs[Vs.length - 1] by simp [List.getD, show Vs.length - 1 < Vs.length by omega]]
          exact HW5.out.le _ (List.getElem_mem _)
        have HL := Lib.hid hL
        clear hbat hL
        go_wp2_with fail
        refine (zfits_any HR5.out (by omega) (by omega) (by omega) HL.out (fun x hx => by have := HW5.out.le x hx; omega) Al _ cl l RL5.out (by omega) 1536).mono ?_
        rintro e w6 ⟨v6, rfl, rfl, b6⟩
        have HW6 := Lib.hid (HW5.out.ext b6)
        have RL6 := Lib.hid (RL5.out.below b6)
        have OL6 := Lib.hid (own_below OL5.out b6)
        clear b6 HW5 RL5 OL5 HR5 k5
        cases hfit : fitB Vs keep (aft L l) 1536 with
        | false =>
          clear hfit
          go_wp2_with fail
          exact ⟨⟨j + 1, Vs, by omega, by omega, rfl, by omega, hav, HW6.out⟩, by simp [intOf]; omega⟩
        | true =>
          have HFT := Lib.hid hfit
          have HLN := Lib.hid (fit_len hfit hVp)
          clear hfit
          go_wp2_with fail
          refine (st_commit_fit HW6.out.st (fun b hb => Nat.le_trans HW6.out.ex.size hb) (by omega) (by omega) (by omega) HL.out (by omega) Al _ cl l RL6.out HBT.out HFT.out).mono ?_
          rintro e w7 ⟨rfl, hs7, hc7⟩
          unfold ansV
          have HS7 := Lib.hid hs7
          have RL7 := Lib.hid (own_rvv (OwC.chg OL6.out hc7 MF.tcg))
          have X7 := Lib.hid (hc7.ge HW6.out.ex)
          obtain ⟨A6, m6, c6, hr6, hk6⟩ := HW6.out.rv
          have HK7 := Lib.hid (hc7.blk hk6 (MF.trs _ _))
          have HR7 := Lib.hid (hr6.chg hc7 MF.tpa MF.tps)
          have HHW := Lib.hid HW6.out.hw
          have HLE := Lib.hid (show ∀ x ∈ Vs ++ [aft L l], x.length ≤ 360 from fun x hx => by
            rcases List.mem_append.1 hx with hx | hx
            · exact HW6.out.le x hx
            · rw [List.mem_singleton.1 hx]; exact HLN.out)
          have k7 := HK7.out.cells
          simp only [cellsAre, Nat.zero_add, Nat.reduceAdd, and_true] at k7
          clear hs7 hc7 hk6 hr6 HW6 RL6 OL6
          go_wp2_with fail
          refine (zcommit_any HR7.out (by omega) (by omega) HL.out (by omega) Al _ cl l RL7.out (by omega)).mono ?_
          rintro e w9 ⟨v9, rfl, hr9, b9⟩
          obtain ⟨A9, m9, c9, rfl, hh9⟩ := hr9.form
          clear hh9
          have HS9 := Lib.hid (HS7.out.ext b9)
          have HR9 := Lib.hid hr9
          have HK9 := Lib.hid (HK7.out.below b9)
          have X9 := Lib.hid (bt X7.out b9)
          have k9 := HK9.out.cells
          simp only [cellsAre, Nat.zero_add, Nat.reduceAdd, and_true] at k9
          have f9 := HK9.out.free
          obtain ⟨Vt, hVt⟩ : ∃ Vt, Vs ++ [aft L l] = Vt := ⟨_, rfl⟩
          have hVtl : Vt.length = Vs.length + 1 := by rw [← hVt, List.length_append, List.length_singleton]
          rw [hVt] at HS9 HR9 HLE
          clear b9 hr9 HS7 HR7 HK7 RL7 X7 k7 hVt HFT HBT HLN HL hLm
          go_upto_region 15 with fail
          refine wp_world (fun W => FiS w W s d H keep 1536 Vt) (FiS.put HS9.out ⟨_, _, HK9.out⟩ HR9.out X9.out HHW.out HLE.out).1 ?_
          clear HS9 HR9 HK9 X9 k9 f9
          rintro W10 hw10
          have HW10 := Lib.hid hw10
          clear hw10
          by_cases hold : at0 < Vt.length - 1 - keep
          · go_wp2_with fail
            refine (st_range_old HW10.out.st (by omega) hold).mono ?_
            rintro e w11 ⟨v11, rfl, rfl, b11⟩
            unfold ansR
            have HW11 := Lib.hid (HW10.out.ext b11)
            clear b11 HW10
            obtain ⟨A11, m11, c11, hr11, hk11⟩ := HW11.out.rv
            have k11 := hk11.cells
            simp only [cellsAre, Nat.zero_add, Nat.reduceAdd, and_true] at k11
            have HR11 := Lib.hid hr11
            have HK11 := Lib.hid hk11
            clear hr11 hk11
            go_wp2_with fail
            refine (zoldest_any HR11.out (by omega) (by omega)).mono ?_
            rintro e w12 ⟨v12, rfl, rfl, b12⟩
            have HW12 := Lib.hid (HW11.out.ext b12)
            have HR12 := Lib.hid (HR11.out.ext b12)
            have HK12 := Lib.hid (HK11.out.below b12)
            have k12 := HK12.out.cells
            simp only [cellsAre, Nat.zero_add, Nat.reduceAdd, and_true] at k12
            clear k11 HW11 HR11 HK11
            have pl : (at0 : Int) < ((Vt.length - 1 - keep : Nat) : Int) := by omega
            go_wp2_with fail
            exact ⟨⟨j + 1, Vt, by omega, by omega, rfl, by omega, by omega, HW12.out⟩, by simp [intOf]; omega⟩
          · have hatz : (Vt.getD at0 []).length ≤ 1000 := by
              rw [show Vt.getD at0 [] = Vt[at0] by simp [List.getD, show at0 < Vt.length by omega]]
              have := HLE.out _ (List.getElem_mem (l := Vt) (n := at0) (by omega))
              omega
            have hRg := st_range_ok HW10.out.st (by omega) (v := at0) (by omega) (by omega) hatz
            obtain ⟨L0, hL0⟩ : ∃ L0, Vt.getD at0 [] = L0 := ⟨_, rfl⟩
            rw [hL0] at hRg hatz
            have HRG := Lib.hid hRg
            have HL0 := Lib.hid hL0
            clear hRg hL0
            go_wp2_with fail
            refine HRG.out.mono ?_
            rintro e w11 ⟨v11, rfl, ⟨z6, rfl, o6⟩, b11⟩
            unfold ansR
            obtain ⟨Ap, cp, rfl, rp⟩ := OwP.rv o6
            have RP := Lib.hid rp
            clear o6 rp
            have HW11 := Lib.hid (HW10.out.ext b11)
            clear b11 HW10
            obtain ⟨A11, m11, c11, hr11, hk11⟩ := HW11.out.rv
            have k11 := hk11.cells
            simp only [cellsAre, Nat.zero_add, Nat.reduceAdd, and_true] at k11
            have HR11 := Lib.hid hr11
            have HK11 := Lib.hid hk11
            clear hr11 hk11
            go_wp2_with fail
            refine (zoldest_any HR11.out (by omega) (by omega)).mono ?_
            rintro e w12 ⟨v12, rfl, rfl, b12⟩
            have HW12 := Lib.hid (HW11.out.ext b12)
            have HR12 := Lib.hid (HR11.out.ext b12)
            have HK12 := Lib.hid (HK11.out.below b12)
            have k12 := HK12.out.cells
            simp only [cellsAre, Nat.zero_add, Nat.reduceAdd, and_true] at k12
            clear k11 HW11 HR11 HK11
            have pl : ¬ (at0 : Int) < ((Vt.length - 1 - keep : Nat) : Int) := by omega
            have RP2 := Lib.hid (RP.out.below b12)
            obtain ⟨A12, m12, c12, er12, hov, hn12, hnc12, hcc12⟩ := HR12.out.form
            simp at er12
            obtain ⟨rfl, rfl, rfl⟩ := er12
            have hq : at0 < Vt.length := by omega
            obtain ⟨b2, o2, Az, cz, rfl, kz, hz⟩ := hov.at_ hq
            have pn : (at0 : Int) < (m11 : Int) := by omega
            have eV : Vt[at0] = L0 := by rw [← HL0.out]; simp [List.getD, hq]
            rw [eV] at kz hz
            have HZ := Lib.hid hz
            have HNN := Lib.hid hn12
            clear hov hz eV RP hn12 HR12 HRG
            go_wp2_with fail
            refine (zsame_any Ap Az _ cp _ cz L0 w12 RP2.out HZ.out (by omega)).mono ?_
            rintro e w13 ⟨v13, rfl, rfl, b13⟩
            have HW13 := Lib.hid (HW12.out.ext b13)
            clear b13 HW12 RP2 HZ k12 kz
            go_wp2_with fail
            exact ⟨⟨j + 1, Vt, by omega, by omega, rfl, by omega, by omega, HW13.out⟩, by simp [intOf]; omega⟩
    · obtain ⟨A6, m6, c6, hr6, hk6⟩ := HW.out.rv
      have k6 := hk6.cells
      simp only [cellsAre, Nat.zero_add, Nat.reduceAdd, and_true] at k6
      have HR6 := Lib.hid hr6
      clear hr6 hk6
      rcases Nat.lt_or_ge j ny with hlt | hge
      · have p1 : (j : Int) < (ny : Int) := by omega
        have p2 : ¬ (j : Int) < 10 := by omega
        go_wp2_with fail
        refine (st_alike HW.out.st HR6.out (by omega) (by omega) (fun x hx => by have := HW.out.le x hx; omega)).mono ?_
        rintro e w12 ⟨v12, rfl, rfl, b12⟩
        have X12 := Lib.hid (bt HW.out.ex b12)
        clear b12 HW HR6 k6
        go_wp2_with fail
        (try simp only [Exit.inBlock, Exit.then])
        refine bodyPost_ret (v := (.bool true)) (by simp [results, Try.results4, go_sem, *]) rfl ?_
        exact ⟨_, rfl, rfl, X12.out⟩
      · have p1 : ¬ (j : Int) < (ny : Int) := by omega
        go_wp2_with fail
        refine (st_alike HW.out.st HR6.out (by omega) (by omega) (fun x hx => by have := HW.out.le x hx; omega)).mono ?_
        rintro e w12 ⟨v12, rfl, rfl, b12⟩
        have X12 := Lib.hid (bt HW.out.ex b12)
        clear b12 HW HR6 k6
        go_wp2_with fail
        (try simp only [Exit.inBlock, Exit.then])
        refine bodyPost_ret (v := (.bool true)) (by simp [results, Try.results4, go_sem, *]) rfl ?_
        exact ⟨_, rfl, rfl, X12.out⟩
end Go.Proofs.Tb
