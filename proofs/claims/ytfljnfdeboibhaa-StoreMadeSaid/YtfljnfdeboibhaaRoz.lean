/- StoreMade: the walk. -/
import Derived.Test.YtfljnfdeboibhaaRok
set_option linter.unusedVariables false
set_option linter.unusedSimpArgs false
namespace Go.Proofs.Tb
open Go.Maps Go.RowKit Go.Lib
attribute [local go_sem] cell_set_same neqMapL

theorem and7m (y : Int) : ∃ b : Nat, b ≤ 7 ∧ bits .and .i64 y 7 = (b : Int) := by
  have e : bits .and .i64 y 7 = IntKind.i64.wrap ((BitVec.ofInt 64 y &&& BitVec.ofInt 64 7).toNat : Int) := rfl
  have h : (BitVec.ofInt 64 y &&& BitVec.ofInt 64 7).toNat ≤ 7 := by
    rw [BitVec.toNat_and]
    exact Nat.and_le_right
  refine ⟨_, h, ?_⟩
  rw [e, IntWalk.i64_in _ (by omega)]
/-- Small versions fit. -/
theorem fit_four {Vs : List (List Pr)} {L : List Pr} {m : Nat} (hV : ∀ l ∈ Vs, l.length ≤ m) (hL : L.length ≤ m) (hm : m ≤ 72) : fitB Vs 2 L 1536 = true := by
  have h1 : ∀ l ∈ (Vs ++ [L]).drop (Vs.length - 1 - 2), l.length ≤ m := fun l hl => by
    rcases List.mem_append.1 (List.mem_of_mem_drop hl) with h | h
    · exact hV l h
    · rw [List.mem_singleton.1 h]; exact hL
  have h2 := fitN_le _ h1
  have h3 : ((Vs ++ [L]).drop (Vs.length - 1 - 2)).length ≤ 4 := by
    rw [List.length_drop, List.length_append, List.length_singleton]; omega
  have h4 : ((Vs ++ [L]).drop (Vs.length - 1 - 2)).length * (4 * (m + 24)) ≤ 4 * (4 * (m + 24)) := Nat.mul_le_mul_right _ h3
  unfold fitB
  rw [decide_eq_true_iff]
  omega
theorem lastsB_one (cur : List (List Nat)) : lastsB (cur.map fun l => [l]) = cur := by
  unfold lastsB
  rw [List.map_map]
  conv => rhs; rw [← List.map_id cur]
  exact List.map_congr_left fun _ _ => rfl
theorem one_few (cur : List (List Nat)) (k : Nat) : ((cur.map fun l => [l]).getD k []).length ≤ 1 := by
  rw [List.getD_eq_getElem?_getD, List.getElem?_map]
  cases cur[k]? <;> simp
/-- Open of a disk that went down while it was made. -/
theorem dn0_open {F : Nat → Prop} {w : World} {d n : Nat} {cur : List (List Nat)} (hd : DW F w d (cur.map fun l => [l]) false 0) (hF : ∀ b, w.heap.size ≤ b → F b) (h0 : Dn0 2 n cur) (hl : cur.length = n) (hn : 2 ≤ n) :
    Calls Try.prog 24 #[.pointer (some ⟨d, 0, none⟩), .int .i64 2] w fun e w' => ∃ s, e = .returned (.tuple #[.pointer (some ⟨s, 0, none⟩), .int .i64 0]) ∧ STl F w' s d 2 n [[]] 0 ∧ Chg (MF F) w w' := by
  rcases h0 with rfl | h0
  · have e : ((List.replicate n z64).map fun l => [l]) = newB n := by unfold newB; rw [List.map_replicate]
    rw [e] at hd
    refine (st_open_l (keep := 2) hd hF hn (by omega)).mono ?_
    intro e w' ha
    cases ha with
    | ok s lf h1 h2 h3 h4 =>
      obtain rfl : lf = 0 := h2 rfl
      exact ⟨s, h1, h3, h4⟩
    | dn bl lf h1 => exact absurd rfl h1
  · refine (ropen_at (keep := 2) (n := n) (Vs := [[]]) hd hF (by rw [lastsB_one]; exact h0) (one_few cur) (by rw [List.length_map]; exact hl) (by omega) (by simp) (fun l hl => by rw [List.mem_singleton.1 hl]; exact Nat.zero_le _) 2 (by omega)).mono ?_
    rintro e w' ⟨v, rfl, ⟨s, rfl, h⟩, b⟩
    exact ⟨s, rfl, h, Chg.ext b⟩
set_option maxHeartbeats 12800000 in
set_option maxRecDepth 100000 in
theorem rmadeL_any (act : Int) (Ak : Option Addr) (nk ck : Nat) (A : Option Addr) (nx cx : Nat) (w : World) (hk : ByX w Ak nk ck) (h : OpX w A nx cx) :
    Calls Try.prog 9 #[.int .i64 act, .slice Ak nk ck, .slice A nx cx] w (Ret (fun z _ => z = .bool true) w) := by
  obtain ⟨ac, hac, eb⟩ := and7m act
  obtain ⟨ks, hks1, hks2⟩ := hk.ex
  have hle := h.le
  have hcp := h.cap
  have HX := Lib.hid h
  have HKS := Lib.hid (And.intro hks1 hks2)
  have wa : IntKind.i64.wrap ((ac : Int) + 1) = ((ac + 1 : Nat) : Int) := by rw [IntWalk.i64_in _ (by omega)]; rfl
  have wm : (max 0 ((ac + 1 : Nat) : Int)).toNat = ac + 1 := by omega
  have HWM := Lib.hid wm
  clear h hk hks1 hks2 wm
  go_enter Try.func9, Try.ntmps9
  go_wp2_with fail
  refine (rnewdisk_ok (F := fun b => w.heap.size ≤ b) 1536 (by omega) (by omega) w (fun b h => h)).mono ?_
  rintro e w1 ⟨v1, rfl, ⟨d, rfl, hd⟩, b1⟩
  have X1 := Lib.hid b1
  have HD1 := Lib.hid hd
  clear hd b1
  go_wp2_with fail
  refine (rlives_any w1).mono ?_
  rintro e w2 ⟨v2, rfl, rfl, b2⟩
  have HD2 := Lib.hid (HD1.out.ext b2)
  have X2 := Lib.hid (bt X1.out b2)
  clear b2 HD1 X1
  go_wp2_with fail
  refine (rarm_any HD2.out ((ac + 1 : Nat) : Int) (by omega)).mono ?_
  rintro e w3 ⟨⟨v3, rfl⟩, hd3, hc3⟩
  rw [HWM.out] at hd3
  have HD3 := Lib.hid hd3
  have X3 := Lib.hid (hc3.ge X2.out)
  clear hd3 hc3 HD2 X2
  go_wp2_with fail
  refine (st_open_l (keep := 2) HD3.out (fun b hb => Nat.le_trans X3.out.size hb) (by omega) (by omega)).mono ?_
  rintro e w4 (⟨s, lf, rfl, _, hs4, hc4⟩ | ⟨bl, lf, _, rfl, hd4, hbl, hfew, hrst, hc4⟩)
  · have HS := Lib.hid hs4
    have X := Lib.hid (hc4.ge X3.out)
    clear hs4 hc4 HD3 X3
    go_wp2_with fail
    refine (st_arm HS.out 0 (by omega)).mono ?_
    rintro e wa ⟨⟨va, rfl⟩, hsa, hca⟩
    have HSa := Lib.hid (show STl (fun b => w.heap.size ≤ b) wa s d 2 1536 [[]] 0 from hsa)
    have Xa := Lib.hid (hca.ge X.out)
    clear hsa hca HS X
    go_wp2_with fail
    refine (znew_any 2 wa).mono ?_
    rintro e wb ⟨vb, rfl, hrb, bb⟩
    obtain ⟨Ab, mb, cb, rfl, hhb⟩ := hrb.form
    clear hhb
    have HSb := Lib.hid (HSa.out.ext bb)
    have HRb := Lib.hid hrb
    have Xb := Lib.hid (bt Xa.out bb)
    clear hrb bb HSa Xa
    go_upto_region 16 with fail
    have x5 : Ext wb (wb.alloc (.cells #[.slice Ab mb cb, .int .i64 ((2 : Nat) : Int)] TRS)) := Ext.allocR _ _
    refine wp_world (fun W => FiL w W s d wb.heap.size 2 1536 [[]] 0) ⟨HSb.out.ext x5, ⟨Ab, mb, cb, HRb.out.ext x5, Blk.new_ _ _ rfl⟩, bt Xb.out x5, Xb.out.size, fun l hl => by rw [List.mem_singleton.1 hl]; exact Nat.zero_le _⟩ ?_
    obtain ⟨H, hH⟩ : ∃ H, wb.heap.size = H := ⟨_, rfl⟩
    rw [hH]
    rintro W5 hw5
    have HW5 := Lib.hid hw5
    clear x5 hw5 HSb HRb Xb hH
    obtain ⟨A5, m5, c5, hr5, hk5⟩ := HW5.out.rv
    have k5 := hk5.cells
    simp only [cellsAre, Nat.zero_add, Nat.reduceAdd, and_true] at k5
    have HR5 := Lib.hid hr5
    clear hr5 hk5
    go_wp2_with fail
    refine (stl_alike HW5.out.st HR5.out (by simp) (by omega) (fun x hx => by have := HW5.out.le x hx; omega)).mono ?_
    rintro e W6 ⟨v6_, rfl, rfl, b6_⟩
    have HW6 := Lib.hid (HW5.out.ext b6_)
    clear b6_ HW5 HR5 k5
    go_wp2_with fail
    go_loopw [14] (fun i wr => ∃ (j : Nat) (Vs : List (List Pr)), j ≤ nx ∧ j ≤ 4 ∧ i = .int .i64 (j : Int) ∧ Vs.length ≤ j + 1 ∧ (∀ l ∈ Vs, l.length ≤ 17 * j) ∧ FiL w wr s d H 2 1536 Vs 0) (fun i _ => nx - (intOf i).toNat)
    case atStart => exact ⟨0, [[]], by omega, by omega, rfl, by decide, fun l hl => by rw [List.mem_singleton.1 hl]; exact Nat.zero_le _, HW6.out⟩
    case round =>
      clear HW6
      obtain ⟨j, Vs, hjn, hjm, rfl, hvl, hsm, hw⟩ := hrel
      have HW := Lib.hid hw
      have HSM := Lib.hid hsm
      clear hw hsm
      by_cases hjj : j < nx ∧ j < 4
      · have p1 : (j : Int) < (nx : Int) := by omega
        have p2 : (j : Int) < 4 := by omega
        have wj : IntKind.i64.wrap ((j : Int) + 1) = ((j + 1 : Nat) : Int) := by rw [IntWalk.i64_in _ (by omega)]; rfl
        obtain ⟨b, o, rfl, Ab, nb, cb, bs, kb, hrb, hsb⟩ := HX.out.at_ j hjj.1
        have kb1 := ext_cell HW.out.ex kb
        have HRB := Lib.hid hrb
        have HSB := Lib.hid hsb
        clear kb hrb hsb
        go_wp2_with fail
        refine (rbat_any Ab nb cb bs 6 wr (HRB.out.below HW.out.ex) HSB.out (by omega)).mono ?_
        rintro e w4 ⟨v4, rfl, ⟨l, hol, hll, hcu⟩, b4⟩
        obtain ⟨Al, cl, rfl, hrl⟩ := own_rv hol
        have HW4 := Lib.hid (HW.out.ext b4)
        have RL := Lib.hid hrl
        have OL := Lib.hid hol
        have CU := Lib.hid hcu
        clear hol b4 hrl hcu HRB HSB kb1 HW
        go_wp2_with fail
        refine (zbatch_any Al _ cl l w4 RL.out (by omega) (fun x hx => by have := CU.out x hx; omega)).mono ?_
        rintro e w5 ⟨v5, rfl, rfl, b5⟩
        have HW5 := Lib.hid (HW4.out.ext b5)
        have RL5 := Lib.hid (RL.out.below b5)
        have OL5 := Lib.hid (own_below OL.out b5)
        clear b5 HW4 RL OL
        cases hbat : batB l with
        | false =>
          clear hbat
          go_wp2_with fail
          exact ⟨⟨j + 1, Vs, by omega, by omega, rfl, by omega, fun x hx => by have := HSM.out x hx; omega, HW5.out⟩, by simp [intOf]; omega⟩
        | true =>
          have HBT := Lib.hid hbat
          obtain ⟨L, hL⟩ : ∃ L, Vs.getD (Vs.length - 1) [] = L := ⟨_, rfl⟩
          have hVp := HW5.out.st.pos
          have hLm : L.length ≤ 17 * j := by
            rw [← hL, show Vs.getD (Vs.length - 1) [] = Vs[Vs.length - 1] by simp [List.getD, show Vs.length - 1 < Vs.length by omega]]
            exact HSM.out _ (List.getElem_mem _)
          have hal : (aft L l).length ≤ 17 * (j + 1) := by have := aft_len l L; omega
          have HL := Lib.hid hL
          have HSN := Lib.hid (show ∀ x ∈ Vs ++ [aft L l], x.length ≤ 17 * (j + 1) from fun x hx => by
            rcases List.mem_append.1 hx with hx | hx
            · have := HSM.out x hx; omega
            · rw [List.mem_singleton.1 hx]; exact hal)
          have HFT := Lib.hid (fit_four (m := 17 * (j + 1)) (fun x hx => by have := HSM.out x hx; omega) hal (by omega))
          clear hbat hL
          go_wp2_with fail
          refine (st_commit_z HW5.out.st (fun b hb => Nat.le_trans HW5.out.ex.size hb) (by omega) (by omega) (by omega) HL.out (by omega) Al _ cl l RL5.out HBT.out HFT.out).mono ?_
          rintro e w7 ha
          rcases ha with ⟨lf', rfl, hlf, hs7, hc7⟩ | ⟨h0, _⟩
          · obtain rfl : lf' = 0 := hlf rfl
            unfold ansV
            have HS7 := Lib.hid hs7
            have RL7 := Lib.hid (own_rvv (OwC.chg OL5.out hc7 MF.tcg))
            have X7 := Lib.hid (hc7.ge HW5.out.ex)
            obtain ⟨A6, m6, c6, hr6, hk6⟩ := HW5.out.rv
            have HK7 := Lib.hid (hc7.blk hk6 (MF.trs2 _ _))
            have HR7 := Lib.hid (hr6.chg hc7 MF.tpa MF.tps)
            have HHW := Lib.hid HW5.out.hw
            have k7 := HK7.out.cells
            simp only [cellsAre, Nat.zero_add, Nat.reduceAdd, and_true] at k7
            clear hs7 hlf hc7 hk6 hr6 HW5 RL5 OL5
            go_wp2_with fail
            refine (zcommit_any HR7.out (by omega) (by omega) HL.out (by omega) Al _ cl l RL7.out (by omega)).mono ?_
            rintro e w9 ⟨v9, rfl, hr9, b9⟩
            obtain ⟨A9, m9, c9, rfl, hh9⟩ := hr9.form
            clear hh9
            have HS9 := Lib.hid (HS7.out.ext b9)
            have HR9 := Lib.hid hr9
            have HK9 := Lib.hid (HK7.out.below b9)
            have X9 := Lib.hid (bt X7.out b9)
            have k9 := HK9.out.cells
            simp only [cellsAre, Nat.zero_add, Nat.reduceAdd, and_true] at k9
            have f9 := HK9.out.free
            clear b9 hr9 HS7 HR7 HK7 RL7 X7 k7
            go_wp2_with fail
            exact ⟨⟨j + 1, _, by omega, by omega, rfl, by rw [List.length_append, List.length_singleton]; omega, HSN.out, FiL.put HS9.out ⟨_, _, HK9.out⟩ HR9.out X9.out HHW.out (fun x hx => by have := HSN.out x hx; omega)⟩, by simp [intOf]; omega⟩
          · exact absurd rfl h0
      · obtain ⟨A6, m6, c6, hr6, hk6⟩ := HW.out.rv
        have k6 := hk6.cells
        simp only [cellsAre, Nat.zero_add, Nat.reduceAdd, and_true] at k6
        have HR6 := Lib.hid hr6
        clear hr6 hk6
        rcases Nat.lt_or_ge j nx with hlt | hge
        · have p1 : (j : Int) < (nx : Int) := by omega
          have p2 : ¬ (j : Int) < 4 := by omega
          go_wp2_with fail
          refine (stl_alike HW.out.st HR6.out (by omega) (by omega) (fun x hx => by have := HW.out.le x hx; omega)).mono ?_
          rintro e w14 ⟨v14, rfl, rfl, b14⟩
          have X14 := Lib.hid (bt HW.out.ex b14)
          clear b14 HW HR6 k6
          go_wp2_with fail
          (try simp only [Exit.inBlock, Exit.then])
          refine bodyPost_ret (v := (.bool true)) (by simp [results, Try.results9, go_sem, *]) rfl ?_
          exact ⟨_, rfl, rfl, X14.out⟩
        · have p1 : ¬ (j : Int) < (nx : Int) := by omega
          go_wp2_with fail
          refine (stl_alike HW.out.st HR6.out (by omega) (by omega) (fun x hx => by have := HW.out.le x hx; omega)).mono ?_
          rintro e w14 ⟨v14, rfl, rfl, b14⟩
          have X14 := Lib.hid (bt HW.out.ex b14)
          clear b14 HW HR6 k6
          go_wp2_with fail
          (try simp only [Exit.inBlock, Exit.then])
          refine bodyPost_ret (v := (.bool true)) (by simp [results, Try.results9, go_sem, *]) rfl ?_
          exact ⟨_, rfl, rfl, X14.out⟩
  · have HD4 := Lib.hid hd4
    have X4 := Lib.hid (hc4.ge X3.out)
    have HB := Lib.hid (And.intro hbl (And.intro hfew hrst))
    clear hd4 hc4 hbl hfew hrst HD3 X3
    obtain ⟨g4, v4, hb4⟩ := HD4.out.blk
    have HK4 := Lib.hid hb4
    clear hb4
    go_wp2_with fail
    refine (rdown_at d g4 v4 true lf w4 HK4.out).mono ?_
    rintro e w5 ⟨v5, rfl, rfl, b5⟩
    have HD5 := Lib.hid (HD4.out.ext b5)
    have X5 := Lib.hid (bt X4.out b5)
    have HK5 := Lib.hid (HK4.out.below b5)
    clear b5 HD4 X4 HK4
    go_wp2_with fail
    refine (ropen_down 2 g4 v4 HK5.out (by omega) (by omega)).mono ?_
    rintro e w6 ⟨v6, rfl, rfl, b6⟩
    unfold noOp
    have HD6 := Lib.hid (HD5.out.ext b6)
    have X6 := Lib.hid (bt X5.out b6)
    clear b6 HD5 X5 HK5
    go_wp2_with fail
    refine (rrestart_ok HD6.out (fun b hb => Nat.le_trans X6.out.size hb) (by have := HB.out.1; omega) Ak nk ck ks (fun W hW => HKS.out.1.below (hW.ge X6.out)) HKS.out.2 (fun k => Nat.le_trans (HB.out.2.1 k) (by omega))).mono ?_
    rintro e w7 ⟨⟨v7, rfl⟩, cur, hrs, hd7, hc7⟩
    have HD7 := Lib.hid hd7
    have X7 := Lib.hid (hc7.ge X6.out)
    have HD0 := Lib.hid (And.intro (HB.out.2.2 cur hrs) (hrs.1.trans HB.out.1))
    clear hd7 hc7 hrs HD6 X6 HB
    go_wp2_with fail
    refine (dn0_open HD7.out (fun b hb => Nat.le_trans X7.out.size hb) HD0.out.1 HD0.out.2 (by omega)).mono ?_
    rintro e w8 ⟨s, rfl, hs8, hc8⟩
    have HS := Lib.hid hs8
    have X := Lib.hid (hc8.ge X7.out)
    clear hs8 hc8 HD7 X7 HD0
    go_wp2_with fail
    refine (st_arm HS.out 0 (by omega)).mono ?_
    rintro e wa ⟨⟨va, rfl⟩, hsa, hca⟩
    have HSa := Lib.hid (show STl (fun b => w.heap.size ≤ b) wa s d 2 1536 [[]] 0 from hsa)
    have Xa := Lib.hid (hca.ge X.out)
    clear hsa hca HS X
    go_wp2_with fail
    refine (znew_any 2 wa).mono ?_
    rintro e wb ⟨vb, rfl, hrb, bb⟩
    obtain ⟨Ab, mb, cb, rfl, hhb⟩ := hrb.form
    clear hhb
    have HSb := Lib.hid (HSa.out.ext bb)
    have HRb := Lib.hid hrb
    have Xb := Lib.hid (bt Xa.out bb)
    clear hrb bb HSa Xa
    go_upto_region 16 with fail
    have x5 : Ext wb (wb.alloc (.cells #[.slice Ab mb cb, .int .i64 ((2 : Nat) : Int)] TRS)) := Ext.allocR _ _
    refine wp_world (fun W => FiL w W s d wb.heap.size 2 1536 [[]] 0) ⟨HSb.out.ext x5, ⟨Ab, mb, cb, HRb.out.ext x5, Blk.new_ _ _ rfl⟩, bt Xb.out x5, Xb.out.size, fun l hl => by rw [List.mem_singleton.1 hl]; exact Nat.zero_le _⟩ ?_
    obtain ⟨H, hH⟩ : ∃ H, wb.heap.size = H := ⟨_, rfl⟩
    rw [hH]
    rintro W5 hw5
    have HW5 := Lib.hid hw5
    clear x5 hw5 HSb HRb Xb hH
    obtain ⟨A5, m5, c5, hr5, hk5⟩ := HW5.out.rv
    have k5 := hk5.cells
    simp only [cellsAre, Nat.zero_add, Nat.reduceAdd, and_true] at k5
    have HR5 := Lib.hid hr5
    clear hr5 hk5
    go_wp2_with fail
    refine (stl_alike HW5.out.st HR5.out (by simp) (by omega) (fun x hx => by have := HW5.out.le x hx; omega)).mono ?_
    rintro e W6 ⟨v6_, rfl, rfl, b6_⟩
    have HW6 := Lib.hid (HW5.out.ext b6_)
    clear b6_ HW5 HR5 k5
    go_wp2_with fail
    go_loopw [14] (fun i wr => ∃ (j : Nat) (Vs : List (List Pr)), j ≤ nx ∧ j ≤ 4 ∧ i = .int .i64 (j : Int) ∧ Vs.length ≤ j + 1 ∧ (∀ l ∈ Vs, l.length ≤ 17 * j) ∧ FiL w wr s d H 2 1536 Vs 0) (fun i _ => nx - (intOf i).toNat)
    case atStart => exact ⟨0, [[]], by omega, by omega, rfl, by decide, fun l hl => by rw [List.mem_singleton.1 hl]; exact Nat.zero_le _, HW6.out⟩
    case round =>
      clear HW6
      obtain ⟨j, Vs, hjn, hjm, rfl, hvl, hsm, hw⟩ := hrel
      have HW := Lib.hid hw
      have HSM := Lib.hid hsm
      clear hw hsm
      by_cases hjj : j < nx ∧ j < 4
      · have p1 : (j : Int) < (nx : Int) := by omega
        have p2 : (j : Int) < 4 := by omega
        have wj : IntKind.i64.wrap ((j : Int) + 1) = ((j + 1 : Nat) : Int) := by rw [IntWalk.i64_in _ (by omega)]; rfl
        obtain ⟨b, o, rfl, Ab, nb, cb, bs, kb, hrb, hsb⟩ := HX.out.at_ j hjj.1
        have kb1 := ext_cell HW.out.ex kb
        have HRB := Lib.hid hrb
        have HSB := Lib.hid hsb
        clear kb hrb hsb
        go_wp2_with fail
        refine (rbat_any Ab nb cb bs 6 wr (HRB.out.below HW.out.ex) HSB.out (by omega)).mono ?_
        rintro e w4 ⟨v4, rfl, ⟨l, hol, hll, hcu⟩, b4⟩
        obtain ⟨Al, cl, rfl, hrl⟩ := own_rv hol
        have HW4 := Lib.hid (HW.out.ext b4)
        have RL := Lib.hid hrl
        have OL := Lib.hid hol
        have CU := Lib.hid hcu
        clear hol b4 hrl hcu HRB HSB kb1 HW
        go_wp2_with fail
        refine (zbatch_any Al _ cl l w4 RL.out (by omega) (fun x hx => by have := CU.out x hx; omega)).mono ?_
        rintro e w5 ⟨v5, rfl, rfl, b5⟩
        have HW5 := Lib.hid (HW4.out.ext b5)
        have RL5 := Lib.hid (RL.out.below b5)
        have OL5 := Lib.hid (own_below OL.out b5)
        clear b5 HW4 RL OL
        cases hbat : batB l with
        | false =>
          clear hbat
          go_wp2_with fail
          exact ⟨⟨j + 1, Vs, by omega, by omega, rfl, by omega, fun x hx => by have := HSM.out x hx; omega, HW5.out⟩, by simp [intOf]; omega⟩
        | true =>
          have HBT := Lib.hid hbat
          obtain ⟨L, hL⟩ : ∃ L, Vs.getD (Vs.length - 1) [] = L := ⟨_, rfl⟩
          have hVp := HW5.out.st.pos
          have hLm : L.length ≤ 17 * j := by
            rw [← hL, show Vs.getD (Vs.length - 1) [] = Vs[Vs.length - 1] by simp [List.getD, show Vs.length - 1 < Vs.length by omega]]
            exact HSM.out _ (List.getElem_mem _)
          have hal : (aft L l).length ≤ 17 * (j + 1) := by have := aft_len l L; omega
          have HL := Lib.hid hL
          have HSN := Lib.hid (show ∀ x ∈ Vs ++ [aft L l], x.length ≤ 17 * (j + 1) from fun x hx => by
            rcases List.mem_append.1 hx with hx | hx
            · have := HSM.out x hx; omega
            · rw [List.mem_singleton.1 hx]; exact hal)
          have HFT := Lib.hid (fit_four (m := 17 * (j + 1)) (fun x hx => by have := HSM.out x hx; omega) hal (by omega))
          clear hbat hL
          go_wp2_with fail
          refine (st_commit_z HW5.out.st (fun b hb => Nat.le_trans HW5.out.ex.size hb) (by omega) (by omega) (by omega) HL.out (by omega) Al _ cl l RL5.out HBT.out HFT.out).mono ?_
          rintro e w7 ha
          rcases ha with ⟨lf', rfl, hlf, hs7, hc7⟩ | ⟨h0, _⟩
          · obtain rfl : lf' = 0 := hlf rfl
            unfold ansV
            have HS7 := Lib.hid hs7
            have RL7 := Lib.hid (own_rvv (OwC.chg OL5.out hc7 MF.tcg))
            have X7 := Lib.hid (hc7.ge HW5.out.ex)
            obtain ⟨A6, m6, c6, hr6, hk6⟩ := HW5.out.rv
            have HK7 := Lib.hid (hc7.blk hk6 (MF.trs2 _ _))
            have HR7 := Lib.hid (hr6.chg hc7 MF.tpa MF.tps)
            have HHW := Lib.hid HW5.out.hw
            have k7 := HK7.out.cells
            simp only [cellsAre, Nat.zero_add, Nat.reduceAdd, and_true] at k7
            clear hs7 hlf hc7 hk6 hr6 HW5 RL5 OL5
            go_wp2_with fail
            refine (zcommit_any HR7.out (by omega) (by omega) HL.out (by omega) Al _ cl l RL7.out (by omega)).mono ?_
            rintro e w9 ⟨v9, rfl, hr9, b9⟩
            obtain ⟨A9, m9, c9, rfl, hh9⟩ := hr9.form
            clear hh9
            have HS9 := Lib.hid (HS7.out.ext b9)
            have HR9 := Lib.hid hr9
            have HK9 := Lib.hid (HK7.out.below b9)
            have X9 := Lib.hid (bt X7.out b9)
            have k9 := HK9.out.cells
            simp only [cellsAre, Nat.zero_add, Nat.reduceAdd, and_true] at k9
            have f9 := HK9.out.free
            clear b9 hr9 HS7 HR7 HK7 RL7 X7 k7
            go_wp2_with fail
            exact ⟨⟨j + 1, _, by omega, by omega, rfl, by rw [List.length_append, List.length_singleton]; omega, HSN.out, FiL.put HS9.out ⟨_, _, HK9.out⟩ HR9.out X9.out HHW.out (fun x hx => by have := HSN.out x hx; omega)⟩, by simp [intOf]; omega⟩
          · exact absurd rfl h0
      · obtain ⟨A6, m6, c6, hr6, hk6⟩ := HW.out.rv
        have k6 := hk6.cells
        simp only [cellsAre, Nat.zero_add, Nat.reduceAdd, and_true] at k6
        have HR6 := Lib.hid hr6
        clear hr6 hk6
        rcases Nat.lt_or_ge j nx with hlt | hge
        · have p1 : (j : Int) < (nx : Int) := by omega
          have p2 : ¬ (j : Int) < 4 := by omega
          go_wp2_with fail
          refine (stl_alike HW.out.st HR6.out (by omega) (by omega) (fun x hx => by have := HW.out.le x hx; omega)).mono ?_
          rintro e w14 ⟨v14, rfl, rfl, b14⟩
          have X14 := Lib.hid (bt HW.out.ex b14)
          clear b14 HW HR6 k6
          go_wp2_with fail
          (try simp only [Exit.inBlock, Exit.then])
          refine bodyPost_ret (v := (.bool true)) (by simp [results, Try.results9, go_sem, *]) rfl ?_
          exact ⟨_, rfl, rfl, X14.out⟩
        · have p1 : ¬ (j : Int) < (nx : Int) := by omega
          go_wp2_with fail
          refine (stl_alike HW.out.st HR6.out (by omega) (by omega) (fun x hx => by have := HW.out.le x hx; omega)).mono ?_
          rintro e w14 ⟨v14, rfl, rfl, b14⟩
          have X14 := Lib.hid (bt HW.out.ex b14)
          clear b14 HW HR6 k6
          go_wp2_with fail
          (try simp only [Exit.inBlock, Exit.then])
          refine bodyPost_ret (v := (.bool true)) (by simp [results, Try.results9, go_sem, *]) rfl ?_
          exact ⟨_, rfl, rfl, X14.out⟩
end Go.Proofs.Tb
