/- StorePlays: the walk. -/
import Derived.Test.YtfljnfdeboibhaaGreatRos
import Derived.Test.YtfljnfdeboibhaaGreatSxd
set_option linter.unusedVariables false
set_option linter.unusedSimpArgs false
namespace Go.Proofs.Tb
open Go.Maps Go.RowKit Go.Lib
attribute [local go_sem] cell_set_same neqMapL

/-- Ops in memory, with all that they hold. -/
structure OpZ (w : World) (A : Option Addr) (n c : Nat) : Prop where
  le : n ≤ c
  cap : c ≤ 9223372036854775807
  at_ : ∀ j, j < n → ∃ b o, A = some ⟨b, o, none⟩ ∧ ∃ (kd : Nat) (N : Int) (Ak : Option Addr) (nk ck : Nat) (ks : List Nat) (A' : Option Addr) (n' c' : Nat) (cs : List Cg), w.cell? ⟨b, o + j * 4, none⟩ = some (.int .u8 (kd : Int)) ∧ w.cell? ⟨b, o + j * 4 + 1, none⟩ = some (.int .i64 N) ∧ w.cell? ⟨b, o + j * 4 + 2, none⟩ = some (.slice Ak nk ck) ∧ w.cell? ⟨b, o + j * 4 + 3, none⟩ = some (.slice A' n' c') ∧ kd < 256 ∧ Rv w 1 Ak nk ck (bc ks) ∧ (∀ b ∈ ks, b < 256) ∧ Rv w 3 A' n' c' (ccs cs) ∧ ∀ x ∈ cs, x.k.size ≤ 9223372036854775807 ∧ x.v.size ≤ 9223372036854775807
theorem st_commit_bad {F : Nat → Prop} {w : World} {s d keep n left : Nat} {Vs : List (List Pr)} (h : STl F w s d keep n Vs left) (A : Option Addr) (m c : Nat) (cs : List Cg) (hr : Rv w 3 A m c (ccs cs)) (hm : m ≤ 1000) (hcs : ∀ c ∈ cs, c.k.size ≤ 1000000000 ∧ c.v.size ≤ 1000000000) (hb : batB cs = false) :
    Calls Tryz.prog 22 #[.pointer (some ⟨s, 0, none⟩), .slice A m c] w fun e w' => e = ansV 0 1 ∧ Ext w w' := by
  obtain ⟨vs, B, bl, h1, _⟩ := h
  obtain ⟨A1, m1, c1, hs, _⟩ := h1.se
  exact rcommit_bad s d _ _ w hs A m c cs hr hm hcs hb
theorem std_commit {F : Nat → Prop} {w : World} {s d keep n : Nat} {Vs : List (List Pr)} {L : List Pr} (h : STd F w s d keep n Vs L) (A : Option Addr) (m c : Nat) :
    Calls Tryz.prog 22 #[.pointer (some ⟨s, 0, none⟩), .slice A m c] w fun e w' => e = ansV 0 7 ∧ Ext w w' := by
  obtain ⟨vs, B, bl, lf, h1, _⟩ := h
  obtain ⟨A1, m1, c1, hs, _⟩ := h1.se
  exact rcommit_broken s d _ _ w hs A m c
theorem st_range_er {F : Nat → Prop} {w : World} {s d keep n : Nat} {Vs : List (List Pr)} (h : STx F w s d keep n Vs) (hV : Vs.length ≤ 100000) {v er : Int} (hv : verB (Vs.length - 1) (min (keep + 1) Vs.length) v = er) (he : er ≠ 0) :
    Calls Tryz.prog 31 #[.pointer (some ⟨s, 0, none⟩), .int .i64 v, .string ⟨#[]⟩, .string ⟨#[]⟩, .int .i64 1000] w (Ret (fun z _ => z = ansR (.slice none 0 0) er) w) := by
  obtain ⟨vs, B, bl, h1, h2, h3, h4⟩ := h
  have hlen := h2.len
  exact rrange_err h1.sr h2.vsn (by omega) v er (by rw [hlen]; exact hv) he ⟨#[]⟩ ⟨#[]⟩ 1000
theorem FiL.st_ {w W W' : World} {s s' d H keep n left left' : Nat} {Vs : List (List Pr)} (h : FiL w W s d H keep n Vs left) (hs : STl (fun b => w.heap.size ≤ b) W' s' d keep n Vs left') (hc : Chg (MF fun b => w.heap.size ≤ b) W W') : FiL w W' s' d H keep n Vs left' := by
  obtain ⟨A, m, c, h1, h2⟩ := h.rv
  exact ⟨hs, ⟨A, m, c, h1.chg hc MF.tpa MF.tps, hc.blk h2 (MF.trs2 _ _)⟩, hc.ge h.ex, h.hw, h.le⟩
/-- Where StorePlays stands behind a crash. -/
structure PlC (w W : World) (s d H H2 keep n : Nat) (Vs : List (List Pr)) : Prop where
  st : STl (fun b => w.heap.size ≤ b) W s d keep n Vs 0
  hb : ∃ x y, Blk W H TRS #[x, y]
  rv : RbX W H2 Vs keep
  ex : Ext w W
theorem PlC.new {w W : World} {s d H H2 keep n m c : Nat} {A : Option Addr} {p q : Value} {Vs : List (List Pr)} (hs : STl (fun b => w.heap.size ≤ b) W s d keep n Vs 0) (hr : RSv W (.agg #[.slice A m c, .int .i64 (keep : Int)]) Vs keep) (hb : ∃ x y, Blk W H TRS #[x, y]) (hx : Ext w W) (h2 : Blk W H2 TRS #[p, q]) (hne : H ≠ H2) (hw : w.heap.size ≤ H2) :
    PlC w ((W.setCell ⟨H2, 0, none⟩ (.slice A m c)).setCell ⟨H2, 1, none⟩ (.int .i64 (keep : Int))) s d H H2 keep n Vs := by
  obtain ⟨g1, g2⟩ := trs_put (keep := keep) (A := A) (m := m) (c := c) h2
  obtain ⟨x, y, hb⟩ := hb
  exact ⟨hs.trs g1, ⟨x, y, g1.blk hb fun hX => hne hX.1⟩, ⟨A, m, c, hr.chg g1 (XTr.no (by decide)) (XTr.no (by decide)), g2⟩, (hx.setCell (p := ⟨H2, 0, none⟩) hw _).setCell (p := ⟨H2, 1, none⟩) hw _⟩
theorem plS {w W : World} {H : Nat} {x y v : Value} {a : Addr} (hk : Blk W H TRS #[x, y]) (hx : Ext w W) (h2 : w.cell? a = some v) : W.cell? ⟨H, 0, none⟩ = some x ∧ W.cell? ⟨H, 1, none⟩ = some y ∧ W.cell? a = some v := by
  have k := hk.cells
  simp only [cellsAre, Nat.zero_add, Nat.reduceAdd, and_true] at k
  exact ⟨k.1, k.2, ext_cell hx h2⟩
theorem verB_three (N k : Nat) (v : Int) : verB N k v = 1 ∨ verB N k v = 10 ∨ (verB N k v = 0 ∧ 0 ≤ v ∧ v ≤ (N : Int) ∧ (N : Int) - ((k : Int) - 1) ≤ v) := by
  unfold verB
  split
  · exact Or.inl rfl
  · split
    · exact Or.inr (Or.inl rfl)
    · exact Or.inr (Or.inr ⟨rfl, by omega, by omega, by omega⟩)
set_option maxHeartbeats 25600000 in
set_option maxRecDepth 100000 in
theorem rplays_any (A : Option Addr) (nx cx : Nat) (k0 : Int) (w : World) (h : OpZ w A nx cx) :
    Calls Tryz.prog 6 #[.slice A nx cx, .int .i64 k0] w (Ret (fun z _ => z = .bool true) w) := by
  obtain ⟨keep, hkp, eb⟩ := and3 k0
  have hle := h.le
  have hcp := h.cap
  have HX := Lib.hid h
  clear h
  go_enter Tryz.func6, Tryz.ntmps6
  go_wp2_with fail
  refine (ropened_any keep (by omega) w).mono ?_
  rintro e w1 ⟨v1, rfl, ⟨s0, d, rfl, hs⟩, b1⟩
  have HS1 := Lib.hid (show STl (fun b => w.heap.size ≤ b) w1 s0 d keep 1536 [[]] 0 from hs)
  have X1 := Lib.hid b1
  clear hs b1
  go_wp2_with fail
  refine (rlives_any w1).mono ?_
  rintro e w2 ⟨v2, rfl, rfl, b2⟩
  have HS2 := Lib.hid (HS1.out.ext b2)
  have X2 := Lib.hid (bt X1.out b2)
  clear b2 HS1 X1
  go_wp2_with fail
  refine (znew_any keep w2).mono ?_
  rintro e w4 ⟨v4, rfl, hr4, b4⟩
  obtain ⟨A4, m4, c4, rfl, hh4⟩ := hr4.form
  clear hh4
  have HS4 := Lib.hid (HS2.out.ext b4)
  have HR4 := Lib.hid hr4
  have X4 := Lib.hid (bt X2.out b4)
  clear hr4 b4 HS2 X2
  go_upto_region 6 with fail
  have x5 : Ext w4 (w4.alloc (.cells #[.slice A4 m4 c4, .int .i64 (keep : Int)] TRS)) := Ext.allocR _ _
  refine wp_world (fun W => FiL w W s0 d w4.heap.size keep 1536 [[]] 0) ⟨HS4.out.ext x5, ⟨A4, m4, c4, HR4.out.ext x5, Blk.new_ _ _ rfl⟩, bt X4.out x5, X4.out.size, fun l hl => by rw [List.mem_singleton.1 hl]; exact Nat.zero_le _⟩ ?_
  obtain ⟨H, hH⟩ : ∃ H, w4.heap.size = H := ⟨_, rfl⟩
  rw [hH]
  rintro W5 hw5
  have HW5 := Lib.hid hw5
  clear x5 hw5 HS4 HR4 X4 hH
  go_wp2_with fail
  go_loopw [5, 8] (fun sv i wr => ∃ (j s : Nat) (Vs : List (List Pr)), j ≤ nx ∧ j ≤ 24 ∧ i = .int .i64 (j : Int) ∧ sv = .pointer (some ⟨s, 0, none⟩) ∧ Vs.length ≤ j + 1 ∧ FiL w wr s d H keep 1536 Vs 0) (fun _ i _ => nx - (intOf i).toNat)
  case atStart => exact ⟨0, s0, [[]], by omega, by omega, rfl, rfl, by decide, HW5.out⟩
  case round =>
    clear HW5
    obtain ⟨j, s, Vs, hjn, hjm, rfl, rfl, hvl, hw⟩ := hrel
    have HW := Lib.hid hw
    clear hw
    by_cases hjj : j < nx ∧ j < 24
    · have p1 : (j : Int) < (nx : Int) := by omega
      have p2 : (j : Int) < 24 := by omega
      have wj : IntKind.i64.wrap ((j : Int) + 1) = ((j + 1 : Nat) : Int) := by rw [IntWalk.i64_in _ (by omega)]; rfl
      obtain ⟨b, o, rfl, kd, NN, Ak, nk, ck, ks, Ab, nb, cb, bs, kb0, kb1, kb2, kb3, hkd, hrk, hks, hrb, hsb⟩ := HX.out.at_ j hjj.1
      have K0 := Lib.hid kb0
      have K1 := Lib.hid kb1
      have K2 := Lib.hid kb2
      have kw3 := ext_cell HW.out.ex kb3
      have HRK := Lib.hid (And.intro hrk hks)
      have HRB := Lib.hid hrb
      have HSB := Lib.hid hsb
      clear kb0 kb1 kb2 kb3 hrk hks hrb hsb
      obtain ⟨n15, h15, eb15⟩ := and15 NN
      obtain ⟨n7, h7, eb7⟩ := and7a NN
      have wa : IntKind.i64.wrap ((n15 : Int) + 1) = ((n15 + 1 : Nat) : Int) := by rw [IntWalk.i64_in _ (by omega)]; rfl
      obtain ⟨q, hq⟩ : ∃ q, kd % 6 = q := ⟨_, rfl⟩
      have hq5 : q ≤ 5 := by omega
      have hqt : (kd : Int).tmod 6 = (q : Int) := by rw [← hq]; rfl
      have hqm : (kd : Int) % 6 = (q : Int) := by rw [← hq]; rfl
      have hVp := HW.out.st.pos
      clear hq
      go_wp2_with fail
      refine (rbat_any Ab nb cb bs 6 wr (HRB.out.below HW.out.ex) HSB.out (by omega)).mono ?_
      rintro e w4 ⟨v4, rfl, ⟨l, hol, hll, hcu⟩, b4⟩
      obtain ⟨Al, cl, rfl, hrl⟩ := own_rv hol
      have HW4 := Lib.hid (HW.out.ext b4)
      have RL := Lib.hid hrl
      have OL := Lib.hid hol
      have CU := Lib.hid hcu
      clear hol b4 hrl hcu HRB HSB kw3 HW
      go_wp2_with fail
      refine (zbatch_any Al _ cl l w4 RL.out (by omega) (fun x hx => by have := CU.out x hx; omega)).mono ?_
      rintro e w5 ⟨v5, rfl, rfl, b5⟩
      have HW5 := Lib.hid (HW4.out.ext b5)
      have RL5 := Lib.hid (RL.out.below b5)
      have OL5 := Lib.hid (own_below OL.out b5)
      clear b5 HW4 RL OL
      cases hbat : batB l with
      | false =>
        have HBT := Lib.hid hbat
        clear hbat
        have g0 := ext_cell HW5.out.ex K0.out
        rcases (show q = 3 ∨ q = 4 ∨ q = 5 ∨ q ≤ 2 by omega) with e3 | e3 | e3 | e3
        · subst e3
          have g1 := ext_cell HW5.out.ex K1.out
          go_wp2_with fail
          refine (st_arm HW5.out.st ((n15 + 1 : Nat) : Int) (by omega)).mono ?_
          rintro e w6 ⟨⟨v6, rfl⟩, hs6, hc6⟩
          have HW6 := Lib.hid (HW5.out.st_ hs6 hc6)
          have RL6 := Lib.hid (own_rvv (OwC.chg OL5.out hc6 MF.tcg))
          clear hs6 hc6 HW5 RL5 OL5 g0 g1
          go_wp2_with fail
          refine (st_commit_bad HW6.out.st Al _ cl l RL6.out (by omega) (fun x hx => by have := CU.out x hx; omega) HBT.out).mono ?_
          rintro e w7 ⟨rfl, b7⟩
          unfold ansV
          have HW7 := Lib.hid (HW6.out.ext b7)
          clear b7 HW6 RL6
          go_wp2_with fail
          refine (st_arm HW7.out.st 0 (by omega)).mono ?_
          rintro e w8 ⟨⟨v8, rfl⟩, hs8, hc8⟩
          have HW8 := Lib.hid (show FiL w w8 s d H keep 1536 Vs 0 from HW7.out.st_ hs8 hc8)
          clear hs8 hc8 HW7
          as_aux_lemma =>
            go_wp2_with fail
            refine (stl_broken HW8.out.st).mono ?_
            rintro e wy1 ⟨vy1, rfl, rfl, bx1⟩
            have HWy1 := Lib.hid (HW8.out.ext bx1)
            clear bx1 HW8
            obtain ⟨Ay1, my1, cy1, hry1, hky1⟩ := HWy1.out.rv
            have ky1 := hky1.cells
            simp only [cellsAre, Nat.zero_add, Nat.reduceAdd, and_true] at ky1
            have HRy1 := Lib.hid hry1
            clear hry1 hky1
            go_wp2_with fail
            refine (stl_alike HWy1.out.st HRy1.out (by omega) (by omega) (fun x hx => by have := HWy1.out.le x hx; omega)).mono ?_
            rintro e wy2 ⟨vy2, rfl, rfl, bx2⟩
            have HWy2 := Lib.hid (HWy1.out.ext bx2)
            clear bx2 HWy1 HRy1 ky1
            go_wp2_with fail
            exact ⟨⟨j + 1, _, _, by omega, by omega, rfl, rfl, (by omega), HWy2.out⟩, by simp [intOf]; omega⟩
        · subst e3
          as_aux_lemma =>
            go_wp2_with fail
            refine (dks_clone HW5.out.st.disk (by omega) fun b hb => Nat.le_trans HW5.out.ex.size hb).mono ?_
            rintro e w6 ⟨v6, rfl, ⟨d2, rfl, hd6⟩, b6⟩
            have HD6 := Lib.hid hd6
            have HW6 := Lib.hid (HW5.out.ext b6)
            clear b6 hd6 HW5 RL5 OL5 g0
            go_wp2_with fail
            refine (dks_open HD6.out (fun b hb => Nat.le_trans HW6.out.ex.size hb) (by omega) (by omega) (fun x hx => by have := HW6.out.le x hx; omega) 8 (by omega)).mono ?_
            rintro e w7 ⟨v7, rfl, ⟨s2, rfl, hs7⟩, b7⟩
            have HS7 := Lib.hid hs7
            have HW7 := Lib.hid (HW6.out.ext b7)
            clear b7 hs7 HW6 HD6
            obtain ⟨A7, m7, c7, hr7, hk7⟩ := HW7.out.rv
            have k7 := hk7.cells
            simp only [cellsAre, Nat.zero_add, Nat.reduceAdd, and_true] at k7
            have HV7 := Lib.hid hr7
            clear hr7 hk7
            go_wp2_with fail
            refine (stl_alike HS7.out HV7.out (by omega) (by omega) (fun x hx => by have := HW7.out.le x hx; omega)).mono ?_
            rintro e w8 ⟨v8, rfl, rfl, b8⟩
            have HW8 := Lib.hid (HW7.out.ext b8)
            clear b8 HS7 HW7 HV7 k7
            go_wp2_with fail
            refine (stl_broken HW8.out.st).mono ?_
            rintro e wy1 ⟨vy1, rfl, rfl, bx1⟩
            have HWy1 := Lib.hid (HW8.out.ext bx1)
            clear bx1 HW8
            obtain ⟨Ay1, my1, cy1, hry1, hky1⟩ := HWy1.out.rv
            have ky1 := hky1.cells
            simp only [cellsAre, Nat.zero_add, Nat.reduceAdd, and_true] at ky1
            have HRy1 := Lib.hid hry1
            clear hry1 hky1
            go_wp2_with fail
            refine (stl_alike HWy1.out.st HRy1.out (by omega) (by omega) (fun x hx => by have := HWy1.out.le x hx; omega)).mono ?_
            rintro e wy2 ⟨vy2, rfl, rfl, bx2⟩
            have HWy2 := Lib.hid (HWy1.out.ext bx2)
            clear bx2 HWy1 HRy1 ky1
            go_wp2_with fail
            exact ⟨⟨j + 1, _, _, by omega, by omega, rfl, rfl, (by omega), HWy2.out⟩, by simp [intOf]; omega⟩
        · subst e3
          as_aux_lemma =>
            obtain ⟨A5, m5, c5, hr5, hk5⟩ := HW5.out.rv
            have HV5 := Lib.hid hr5
            have kh := fun W' (hh : Ext w5 W') => (hk5.below hh).cells
            have k1' := fun W' (hh : Ext w5 W') => ext_cell (bt HW5.out.ex hh) K1.out
            simp only [cellsAre, Nat.zero_add, Nat.reduceAdd, and_true] at kh
            have hst : Ext w5 w5.drew := Ext.drew _
            clear hr5 hk5
            go_upto_region 42 with fail
            refine wp_region_adv 8 [] [(0, true, some 210, none), (2, true, some 212, none), (3, true, some 213, none), (4, true, some 214, none), (5, true, some 215, none), (6, true, some 216, none), (7, true, some 217, none), (1, false, some 211, none)] (by kernel_rfl) (by kernel_rfl) (by kernel_rfl) (by intro it hit; (repeat (rcases List.mem_cons.1 hit with rfl | hit; (focus (intro o ho ev w; injection ho with ho; subst ho; kernel_rfl)))); cases hit) (fun _ _ _ _ _ => ⟨fun h => h, fun h => h⟩) hst ?_
            repeat (first | (refine wpSeq_pure (v := ?_) rfl ?_ ?_; rotate_left 1; (focus (intro wq_ hSq_; (try dsimp only at hSq_); go_simp; (try with_reducible rfl); done)); (try simp only [Act.put, List.setIfInBounds_toArray, List.set_cons_zero, List.set_cons_succ])) | (refine wpSeq_pureG (v := ?_) rfl rfl ?_ ?_; rotate_left 1; (focus (intro wq_ hSq_; (try dsimp only at hSq_); go_simp; (try with_reducible rfl); done)); (try simp only [Act.put, List.setIfInBounds_toArray, List.set_cons_zero, List.set_cons_succ])) | (refine wpSeq_off rfl rfl ?_; (try simp only [Act.put, List.setIfInBounds_toArray, List.set_cons_zero, List.set_cons_succ])) | (refine wpSeq_offU rfl ?_; (try simp only [Act.put, List.setIfInBounds_toArray, List.set_cons_zero, List.set_cons_succ])))
            first | refine wpSeq_call rfl (fun u1 gu1 su1 K hK => ?_) | refine wpSeq_callG rfl rfl (fun u1 gu1 su1 K hK => ?_)
            go_simp
            refine (znewest_any (HV5.out.ext su1) (by omega)).mono ?_
            rintro e y6 ⟨v6, rfl, rfl, b6⟩
            (try go_wp2_with fail)
            refine hK.out _ _ b6 ?_
            clear hK K
            (try simp only [Act.put, List.setIfInBounds_toArray, List.set_cons_zero, List.set_cons_succ])
            repeat (first | (refine wpSeq_pure (v := ?_) rfl ?_ ?_; rotate_left 1; (focus (intro wq_ hSq_; (try dsimp only at hSq_); go_simp; (try with_reducible rfl); done)); (try simp only [Act.put, List.setIfInBounds_toArray, List.set_cons_zero, List.set_cons_succ])) | (refine wpSeq_pureG (v := ?_) rfl rfl ?_ ?_; rotate_left 1; (focus (intro wq_ hSq_; (try dsimp only at hSq_); go_simp; (try with_reducible rfl); done)); (try simp only [Act.put, List.setIfInBounds_toArray, List.set_cons_zero, List.set_cons_succ])) | (refine wpSeq_off rfl rfl ?_; (try simp only [Act.put, List.setIfInBounds_toArray, List.set_cons_zero, List.set_cons_succ])) | (refine wpSeq_offU rfl ?_; (try simp only [Act.put, List.setIfInBounds_toArray, List.set_cons_zero, List.set_cons_succ])))
            intro wz gz sz_
            (try simp only [endJ, List.drop_succ_cons, List.drop_zero])
            have HWz := Lib.hid (HW5.out.ext sz_)
            obtain ⟨vv, hvv⟩ : ∃ vv, IntKind.i64.wrap ((Vs.length : Int) - 1 - (n7 : Int)) = vv := ⟨_, rfl⟩
            have hvv2 : (Vs.length : Int) - 1 - (n7 : Int) = vv := by rw [← hvv, IntWalk.i64_in _ (by omega)]
            clear kh k1' hst gz sz_ HW5 HV5 RL5 OL5 g0
            rcases verB_three (Vs.length - 1) (min (keep + 1) Vs.length) vv with hER | hER | ⟨hER, hv0, hv1, hv2⟩
            · have HER := Lib.hid hER
              clear hER hvv2
              go_wp2_with fail
              refine (st_range_er HWz.out.st (by omega) HER.out (by decide)).mono ?_
              rintro e w11 ⟨v11, rfl, rfl, b11⟩
              unfold ansR
              have HW11 := Lib.hid (HWz.out.ext b11)
              clear b11 HWz hvv
              obtain ⟨A11, m11, c11, hr11, hk11⟩ := HW11.out.rv
              have k11 := hk11.cells
              simp only [cellsAre, Nat.zero_add, Nat.reduceAdd, and_true] at k11
              have HR11 := Lib.hid hr11
              clear hr11 hk11
              go_wp2_with fail
              refine (zversion_any HR11.out (by omega) (by omega) (by omega) vv).mono ?_
              rintro e w12 ⟨v12, rfl, rfl, b12⟩
              rw [HER.out]
              have HW12 := Lib.hid (HW11.out.ext b12)
              clear k11 HW11 HR11 b12
              go_wp2_with fail
              refine (stl_broken HW12.out.st).mono ?_
              rintro e wy1 ⟨vy1, rfl, rfl, bx1⟩
              have HWy1 := Lib.hid (HW12.out.ext bx1)
              clear bx1 HW12
              obtain ⟨Ay1, my1, cy1, hry1, hky1⟩ := HWy1.out.rv
              have ky1 := hky1.cells
              simp only [cellsAre, Nat.zero_add, Nat.reduceAdd, and_true] at ky1
              have HRy1 := Lib.hid hry1
              clear hry1 hky1
              go_wp2_with fail
              refine (stl_alike HWy1.out.st HRy1.out (by omega) (by omega) (fun x hx => by have := HWy1.out.le x hx; omega)).mono ?_
              rintro e wy2 ⟨vy2, rfl, rfl, bx2⟩
              have HWy2 := Lib.hid (HWy1.out.ext bx2)
              clear bx2 HWy1 HRy1 ky1
              go_wp2_with fail
              exact ⟨⟨j + 1, _, _, by omega, by omega, rfl, rfl, (by omega), HWy2.out⟩, by simp [intOf]; omega⟩
            · have HER := Lib.hid hER
              clear hER hvv2
              go_wp2_with fail
              refine (st_range_er HWz.out.st (by omega) HER.out (by decide)).mono ?_
              rintro e w11 ⟨v11, rfl, rfl, b11⟩
              unfold ansR
              have HW11 := Lib.hid (HWz.out.ext b11)
              clear b11 HWz hvv
              obtain ⟨A11, m11, c11, hr11, hk11⟩ := HW11.out.rv
              have k11 := hk11.cells
              simp only [cellsAre, Nat.zero_add, Nat.reduceAdd, and_true] at k11
              have HR11 := Lib.hid hr11
              clear hr11 hk11
              go_wp2_with fail
              refine (zversion_any HR11.out (by omega) (by omega) (by omega) vv).mono ?_
              rintro e w12 ⟨v12, rfl, rfl, b12⟩
              rw [HER.out]
              have HW12 := Lib.hid (HW11.out.ext b12)
              clear k11 HW11 HR11 b12
              go_wp2_with fail
              refine (stl_broken HW12.out.st).mono ?_
              rintro e wy1 ⟨vy1, rfl, rfl, bx1⟩
              have HWy1 := Lib.hid (HW12.out.ext bx1)
              clear bx1 HW12
              obtain ⟨Ay1, my1, cy1, hry1, hky1⟩ := HWy1.out.rv
              have ky1 := hky1.cells
              simp only [cellsAre, Nat.zero_add, Nat.reduceAdd, and_true] at ky1
              have HRy1 := Lib.hid hry1
              clear hry1 hky1
              go_wp2_with fail
              refine (stl_alike HWy1.out.st HRy1.out (by omega) (by omega) (fun x hx => by have := HWy1.out.le x hx; omega)).mono ?_
              rintro e wy2 ⟨vy2, rfl, rfl, bx2⟩
              have HWy2 := Lib.hid (HWy1.out.ext bx2)
              clear bx2 HWy1 HRy1 ky1
              go_wp2_with fail
              exact ⟨⟨j + 1, _, _, by omega, by omega, rfl, rfl, (by omega), HWy2.out⟩, by simp [intOf]; omega⟩
            · obtain ⟨vn, rfl⟩ : ∃ vn : Nat, vv = (vn : Int) := ⟨vv.toNat, by omega⟩
              have hvn : vn < Vs.length := by omega
              have HER := Lib.hid hER
              have hatz : (Vs.getD vn []).length ≤ 1000 := by
                rw [show Vs.getD vn [] = Vs[vn] by simp [List.getD, hvn]]
                have := HWz.out.le _ (List.getElem_mem (l := Vs) (n := vn) hvn)
                omega
              have hRg := st_range_ok HWz.out.st (by omega) (v := vn) hvn (by omega) hatz
              obtain ⟨L0, hL0⟩ : ∃ L0, Vs.getD vn [] = L0 := ⟨_, rfl⟩
              rw [hL0] at hRg hatz
              have HRG := Lib.hid hRg
              have HL0 := Lib.hid hL0
              clear hRg hL0 hER hvv2 hv0 hv1 hv2
              go_wp2_with fail
              refine HRG.out.mono ?_
              rintro e w11 ⟨v11, rfl, ⟨z6, rfl, o6⟩, b11⟩
              unfold ansR
              obtain ⟨Ap, cp, rfl, rp⟩ := OwP.rv o6
              have RP := Lib.hid rp
              have HW11 := Lib.hid (HWz.out.ext b11)
              clear o6 rp b11 HWz HRG hvv
              obtain ⟨A11, m11, c11, hr11, hk11⟩ := HW11.out.rv
              have k11 := hk11.cells
              simp only [cellsAre, Nat.zero_add, Nat.reduceAdd, and_true] at k11
              have HR11 := Lib.hid hr11
              have HK11 := Lib.hid hk11
              clear hr11 hk11
              go_wp2_with fail
              refine (zversion_any HR11.out (by omega) (by omega) (by omega) (vn : Int)).mono ?_
              rintro e w12 ⟨v12, rfl, rfl, b12⟩
              rw [HER.out]
              have HW12 := Lib.hid (HW11.out.ext b12)
              have HR12 := Lib.hid (HR11.out.ext b12)
              have HK12 := Lib.hid (HK11.out.below b12)
              have k12 := HK12.out.cells
              simp only [cellsAre, Nat.zero_add, Nat.reduceAdd, and_true] at k12
              have RP2 := Lib.hid (RP.out.below b12)
              clear k11 HW11 HR11 HK11 RP b12
              obtain ⟨A12, m12, c12, er12, hov, hn12, hnc12, hcc12⟩ := HR12.out.form
              simp at er12
              obtain ⟨rfl, rfl, rfl⟩ := er12
              obtain ⟨b2, o2, Az, cz, rfl, kz, hz⟩ := hov.at_ hvn
              have pn : (vn : Int) < (m11 : Int) := by omega
              have eV : Vs[vn] = L0 := by rw [← HL0.out]; simp [List.getD, hvn]
              rw [eV] at kz hz
              have HZ := Lib.hid hz
              have HNN := Lib.hid hn12
              clear hov hz eV hn12 HR12
              go_wp2_with fail
              refine (zsame_any Ap Az _ cp _ cz L0 w12 RP2.out HZ.out (by omega)).mono ?_
              rintro e w13 ⟨v13, rfl, rfl, b13⟩
              have HW13 := Lib.hid (HW12.out.ext b13)
              clear b13 HW12 RP2 HZ k12 kz HK12
              go_wp2_with fail
              refine (stl_broken HW13.out.st).mono ?_
              rintro e wy1 ⟨vy1, rfl, rfl, bx1⟩
              have HWy1 := Lib.hid (HW13.out.ext bx1)
              clear bx1 HW13
              obtain ⟨Ay1, my1, cy1, hry1, hky1⟩ := HWy1.out.rv
              have ky1 := hky1.cells
              simp only [cellsAre, Nat.zero_add, Nat.reduceAdd, and_true] at ky1
              have HRy1 := Lib.hid hry1
              clear hry1 hky1
              go_wp2_with fail
              refine (stl_alike HWy1.out.st HRy1.out (by omega) (by omega) (fun x hx => by have := HWy1.out.le x hx; omega)).mono ?_
              rintro e wy2 ⟨vy2, rfl, rfl, bx2⟩
              have HWy2 := Lib.hid (HWy1.out.ext bx2)
              clear bx2 HWy1 HRy1 ky1
              go_wp2_with fail
              exact ⟨⟨j + 1, _, _, by omega, by omega, rfl, rfl, (by omega), HWy2.out⟩, by simp [intOf]; omega⟩
        · have q3 : ¬ (q : Int) = 3 := by omega
          have q4 : ¬ (q : Int) = 4 := by omega
          have q5 : ¬ (q : Int) = 5 := by omega
          go_wp2_with fail
          refine (st_commit_bad HW5.out.st Al _ cl l RL5.out (by omega) (fun x hx => by have := CU.out x hx; omega) HBT.out).mono ?_
          rintro e w6 ⟨rfl, b6⟩
          unfold ansV
          have HW6 := Lib.hid (HW5.out.ext b6)
          clear b6 HW5 RL5 OL5 g0
          as_aux_lemma =>
            go_wp2_with fail
            refine (stl_broken HW6.out.st).mono ?_
            rintro e wy1 ⟨vy1, rfl, rfl, bx1⟩
            have HWy1 := Lib.hid (HW6.out.ext bx1)
            clear bx1 HW6
            obtain ⟨Ay1, my1, cy1, hry1, hky1⟩ := HWy1.out.rv
            have ky1 := hky1.cells
            simp only [cellsAre, Nat.zero_add, Nat.reduceAdd, and_true] at ky1
            have HRy1 := Lib.hid hry1
            clear hry1 hky1
            go_wp2_with fail
            refine (stl_alike HWy1.out.st HRy1.out (by omega) (by omega) (fun x hx => by have := HWy1.out.le x hx; omega)).mono ?_
            rintro e wy2 ⟨vy2, rfl, rfl, bx2⟩
            have HWy2 := Lib.hid (HWy1.out.ext bx2)
            clear bx2 HWy1 HRy1 ky1
            go_wp2_with fail
            exact ⟨⟨j + 1, _, _, by omega, by omega, rfl, rfl, (by omega), HWy2.out⟩, by simp [intOf]; omega⟩
      | true =>
        have HBT := Lib.hid hbat
        obtain ⟨L, hL⟩ : ∃ L, Vs.getD (Vs.length - 1) [] = L := ⟨_, rfl⟩
        have hLm : L.length ≤ 360 := by rw [← hL]; exact last_le HW5.out.le hVp
        have HL := Lib.hid hL
        obtain ⟨A5, m5, c5, hr5, hk5⟩ := HW5.out.rv
        have k5 := hk5.cells
        simp only [cellsAre, Nat.zero_add, Nat.reduceAdd, and_true] at k5
        have HR5 := Lib.hid hr5
        clear hk5 hr5 hbat hL
        go_wp2_with fail
        refine (zfits_any HR5.out (by omega) (by omega) (by omega) HL.out (fun x hx => by have := HW5.out.le x hx; omega) Al _ cl l RL5.out (by omega) 1536).mono ?_
        rintro e w5 ⟨v6, rfl, rfl, b6⟩
        have HWx := HW5.out.ext b6
        have RLx := RL5.out.below b6
        have OLx := own_below OL5.out b6
        clear b6 HW5 RL5 OL5 HR5 k5
        have HW5 := Lib.hid HWx
        have RL5 := Lib.hid RLx
        have OL5 := Lib.hid OLx
        clear HWx RLx OLx
        cases hfit : fitB Vs keep (aft L l) 1536 with
        | false =>
          clear hfit
          go_wp2_with fail
          (try simp only [Exit.inBlock, Exit.then])
          refine bodyPost_ret (v := (.bool true)) (by simp [results, Tryz.results6, go_sem, *]) rfl ?_
          exact ⟨_, rfl, rfl, HW5.out.ex⟩
        | true =>
          have HFT := Lib.hid hfit
          have HLN := Lib.hid (fit_len hfit hVp)
          clear hfit
          have HLE := Lib.hid (show ∀ x ∈ Vs ++ [aft L l], x.length ≤ 360 from fun x hx => by
            rcases List.mem_append.1 hx with hx | hx
            · exact HW5.out.le x hx
            · rw [List.mem_singleton.1 hx]; exact HLN.out)
          have HHW := Lib.hid HW5.out.hw
          have g0 := ext_cell HW5.out.ex K0.out
          rcases (show q = 3 ∨ q = 4 ∨ q = 5 ∨ q ≤ 2 by omega) with e3 | e3 | e3 | e3
          · subst e3
            have g1 := ext_cell HW5.out.ex K1.out
            go_wp2_with fail
            refine (st_arm HW5.out.st ((n15 + 1 : Nat) : Int) (by omega)).mono ?_
            rintro e w6 ⟨⟨v6, rfl⟩, hs6, hc6⟩
            have HW6 := Lib.hid (HW5.out.st_ hs6 hc6)
            have OL6 := Lib.hid (OwC.chg OL5.out hc6 MF.tcg)
            have RL6 := Lib.hid (own_rvv OL6.out)
            clear hs6 hc6 HW5 RL5 OL5 g0 g1
            go_wp2_with fail
            refine (st_commit_z HW6.out.st (fun b hb => Nat.le_trans HW6.out.ex.size hb) (by omega) (by omega) (by omega) HL.out (by omega) Al _ cl l RL6.out HBT.out HFT.out).mono ?_
            rintro e w7 ha
            have hc7 : Chg (MF fun b => w.heap.size ≤ b) w6 w7 := by
              cases ha with
              | ok _ _ _ _ h => exact h
              | down _ _ _ h => exact h
            have HOL7 := Lib.hid (OwC.chg OL6.out hc7 MF.tcg)
            have RL7 := Lib.hid (own_rvv HOL7.out)
            have X7 := Lib.hid (hc7.ge HW6.out.ex)
            obtain ⟨A6, m6, c6, hr6, hk6⟩ := HW6.out.rv
            have HK7 := Lib.hid (hc7.blk hk6 (MF.trs2 _ _))
            have HR7 := Lib.hid (hr6.chg hc7 MF.tpa MF.tps)
            have HLE0 := Lib.hid HW6.out.le
            have k7 := HK7.out.cells
            simp only [cellsAre, Nat.zero_add, Nat.reduceAdd, and_true] at k7
            clear hc7 hk6 hr6 HW6
            rcases ha with ⟨lf', rfl, _, hs7, _⟩ | ⟨_, rfl, hs7, _⟩
            · unfold ansV
              have HS7 := Lib.hid hs7
              clear hs7
              go_wp2_with fail
              refine (st_arm HS7.out 0 (by omega)).mono ?_
              rintro e w7 ⟨⟨v8, rfl⟩, hs8, hc8⟩
              have HSx := (show STl (fun b => w.heap.size ≤ b) w7 s d keep 1536 (Vs ++ [aft L l]) 0 from hs8)
              have HRx := HR7.out.chg hc8 MF.tpa MF.tps
              have HKx := hc8.blk HK7.out (MF.trs2 _ _)
              have OLx := OwC.chg HOL7.out hc8 MF.tcg
              have Xx := hc8.ge X7.out
              clear hs8 hc8 HS7 HR7 HK7 HOL7 X7 RL7 k7
              have HS7 := Lib.hid HSx
              have HR7 := Lib.hid HRx
              have HK7 := Lib.hid HKx
              have RL7 := Lib.hid (own_rvv OLx)
              have X7 := Lib.hid Xx
              have k7 := HK7.out.cells
              simp only [cellsAre, Nat.zero_add, Nat.reduceAdd, and_true] at k7
              clear HSx HRx HKx OLx Xx
              as_aux_lemma =>
                go_wp2_with fail
                refine (zcommit_any HR7.out (by omega) (by omega) HL.out (by omega) Al _ cl l RL7.out (by omega)).mono ?_
                rintro e w9 ⟨v9, rfl, hr9, b9⟩
                obtain ⟨A9, m9, c9, rfl, hh9⟩ := hr9.form
                clear hh9
                have HS9 := Lib.hid (HS7.out.ext b9)
                have HR9 := Lib.hid hr9
                have HK9 := Lib.hid (HK7.out.below b9)
                have X9 := Lib.hid (bt X7.out b9)
                have k9 := HK9.out.cells
                simp only [cellsAre, Nat.zero_add, Nat.reduceAdd, and_true] at k9
                have f9 := HK9.out.free
                clear b9 hr9 HS7 HR7 HK7 RL7 X7 k7
                go_upto_region 35 with fail
                refine wp_world (fun W => FiL w W s d H keep 1536 (Vs ++ [aft L l]) 0) (FiL.put HS9.out ⟨_, _, HK9.out⟩ HR9.out X9.out HHW.out HLE.out) ?_
                rintro W10 hw10
                have HW10 := Lib.hid hw10
                clear hw10 HS9 HR9 HK9 X9 k9 f9
                obtain ⟨A10, m10, c10, hr10, hk10⟩ := HW10.out.rv
                have k10 := hk10.cells
                simp only [cellsAre, Nat.zero_add, Nat.reduceAdd, and_true] at k10
                have HV10 := Lib.hid hr10
                clear hr10 hk10
                go_wp2_with fail
                refine (znewest_any HV10.out (by rw [List.length_append, List.length_singleton]; omega)).mono ?_
                rintro e w11 ⟨v11, rfl, rfl, b11⟩
                rw [show (((Vs ++ [aft L l]).length : Int) - 1) = (Vs.length : Int) by rw [List.length_append, List.length_singleton]; omega]
                have HW11 := Lib.hid (HW10.out.ext b11)
                clear b11 HW10 HV10 k10
                go_wp2_with fail
                refine (stl_broken HW11.out.st).mono ?_
                rintro e wy1 ⟨vy1, rfl, rfl, bx1⟩
                have HWy1 := Lib.hid (HW11.out.ext bx1)
                clear bx1 HW11
                obtain ⟨Ay1, my1, cy1, hry1, hky1⟩ := HWy1.out.rv
                have ky1 := hky1.cells
                simp only [cellsAre, Nat.zero_add, Nat.reduceAdd, and_true] at ky1
                have HRy1 := Lib.hid hry1
                clear hry1 hky1
                go_wp2_with fail
                refine (stl_alike HWy1.out.st HRy1.out (by rw [List.length_append, List.length_singleton]; omega) (by omega) (fun x hx => by have := HWy1.out.le x hx; omega)).mono ?_
                rintro e wy2 ⟨vy2, rfl, rfl, bx2⟩
                have HWy2 := Lib.hid (HWy1.out.ext bx2)
                clear bx2 HWy1 HRy1 ky1
                go_wp2_with fail
                exact ⟨⟨j + 1, _, _, by omega, by omega, rfl, rfl, (by rw [List.length_append, List.length_singleton]; omega), HWy2.out⟩, by simp [intOf]; omega⟩
            · unfold ansV
              have HS7 := Lib.hid hs7
              clear hs7
              as_aux_lemma =>
                go_wp2_with fail
                refine (std_commit HS7.out Al _ cl).mono ?_
                rintro e w8 ⟨rfl, b8⟩
                unfold ansV
                have HS8 := Lib.hid (HS7.out.ext b8)
                have X8 := Lib.hid (bt X7.out b8)
                have HR8 := Lib.hid (HR7.out.ext b8)
                have HK8 := Lib.hid (HK7.out.below b8)
                have OL8 := Lib.hid (own_below HOL7.out b8)
                clear b8 HS7 X7 HR7 HK7 HOL7 RL7 k7
                go_wp2_with fail
                refine (std_broken HS8.out).mono ?_
                rintro e w9 ⟨v9, rfl, rfl, b9⟩
                have HS9 := Lib.hid (HS8.out.ext b9)
                have X9 := Lib.hid (bt X8.out b9)
                have HR9 := Lib.hid (HR8.out.ext b9)
                have HK9 := Lib.hid (HK8.out.below b9)
                have OL9 := Lib.hid (own_below OL8.out b9)
                have k9 := HK9.out.cells
                simp only [cellsAre, Nat.zero_add, Nat.reduceAdd, and_true] at k9
                clear b9 HS8 X8 HR8 HK8 OL8
                go_wp2_with fail
                refine (std_alike HS9.out HR9.out (by omega) (by omega) (fun x hx => by have := HLE0.out x hx; omega)).mono ?_
                rintro e w10 ⟨v10, rfl, rfl, b10⟩
                have HS10 := Lib.hid (HS9.out.ext b10)
                have X10 := Lib.hid (bt X9.out b10)
                have HR10 := Lib.hid (HR9.out.ext b10)
                have HK10 := Lib.hid (HK9.out.below b10)
                have OL10 := Lib.hid (own_below OL9.out b10)
                clear b10 HS9 X9 HR9 HK9 OL9 k9
                go_upto_region 28 with fail
                have hst : Ext w10 w10.drew := Ext.drew _
                go_cut [15, 16, 17] (fun a1 a2 a3 wx => ∃ (s' H2 : Nat) (Vs' : List (List Pr)), a1 = .pointer (some ⟨s', 0, none⟩) ∧ a2 = .pointer (some ⟨H2, 0, none⟩) ∧ a3 = .bool true ∧ (Vs' = Vs ∨ Vs' = Vs ++ [aft L l]) ∧ PlC w wx s' d H H2 keep 1536 Vs')
                case first =>
                  refine wp_region_brn (S := (fun W => W.cell? ⟨H, 0, none⟩ = some (.slice A6 m6 c6) ∧ W.cell? ⟨H, 1, none⟩ = some (.int .i64 (keep : Int)) ∧ W.cell? ⟨b, o + j * 4 + 2, none⟩ = some (.slice Ak nk ck))) (by kernel_rfl) (by kernel_rfl) (fun _ _ _ _ _ => ⟨fun h => h, fun h => h⟩) ?_
                  intro hsel_ hQ_
                  obtain ⟨wd, hwd⟩ : ∃ wd, w10.drew = wd := ⟨_, rfl⟩
                  rw [hwd] at hst ⊢
                  have HSd := Lib.hid (HS10.out.ext hst)
                  have Xd := Lib.hid (bt X10.out hst)
                  have HRd := Lib.hid (HR10.out.ext hst)
                  have HKd := Lib.hid (HK10.out.below hst)
                  have OLd := Lib.hid (own_below OL10.out hst)
                  clear hwd hst HS10 X10 HR10 HK10 OL10
                  have s0_ := plS HKd.out Xd.out K2.out
                  refine wpB_chunk (f := 9) (L' := #[true, true, true, true, true, true, true, true, false, false, false, false, false, false, false, false, false]) hsel_ hQ_ [(0, true, some 152, none), (1, true, some 153, none), (2, true, some 154, none), (3, true, some 155, none), (4, true, some 156, none), (5, true, some 157, none), (6, true, some 158, none), (7, true, some 159, none)] _ _ _ (by kernel_rfl) s0_ ?_
                  repeat (first | (refine wpSeqB_pure (v := ?_) rfl ?_ ?_; rotate_left 1; (focus (intro wq_ hSq_; (try dsimp only at hSq_); go_simp; (try with_reducible rfl); done)); (try simp only [Act.put, List.setIfInBounds_toArray, List.set_cons_zero, List.set_cons_succ])) | (refine wpSeqB_pureG (v := ?_) rfl rfl ?_ ?_; rotate_left 1; (focus (intro wq_ hSq_; (try dsimp only at hSq_); go_simp; (try with_reducible rfl); done)); (try simp only [Act.put, List.setIfInBounds_toArray, List.set_cons_zero, List.set_cons_succ])) | (refine wpSeqB_off rfl rfl ?_; (try simp only [Act.put, List.setIfInBounds_toArray, List.set_cons_zero, List.set_cons_succ])) | (refine wpSeqB_offU rfl ?_; (try simp only [Act.put, List.setIfInBounds_toArray, List.set_cons_zero, List.set_cons_succ])))
                  intro s_
                  clear s_
                  refine wpB_two 8 13 (by kernel_rfl) rfl rfl rfl rfl ?_ ?_
                  · intro K hK
                    go_simp
                    refine (rcrashed_any HSd.out (fun b hb => Nat.le_trans Xd.out.size hb) (by omega) (by omega) (by omega) (fun x hx => by have := HLE0.out x hx; omega) (by have := HLN.out; omega) l HL.out rfl _ HRd.out Al _ cl (fun W hW => own_rvv (OwC.chg OLd.out hW MF.tcg)) (by omega) Ak nk ck ks (fun W hW => HRK.out.1.below (hW.ge Xd.out)) HRK.out.2).mono ?_
                    rintro e y1 ⟨s', rv', Vs', rfl, hV', hs', hr', hc'⟩
                    obtain ⟨A11, m11, c11, rfl, hh11⟩ := hr'.form
                    clear hh11
                    have HB1 := Lib.hid (hc'.blk HKd.out (MF.trs2 _ _))
                    have X1 := Lib.hid (hc'.ge Xd.out)
                    have HS1 := Lib.hid (show STl (fun b => w.heap.size ≤ b) y1 s' d keep 1536 Vs' 0 from hs')
                    have HR1 := Lib.hid hr'
                    have s1 := plS HB1.out X1.out K2.out
                    have hHy : H < y1.heap.size := HB1.out.lt
                    clear hs' hr' hc'
                    (try go_wp2_with fail)
                    refine hK.out _ _ s1 ?_
                    clear hK K
                    (try simp only [List.getElem_toArray, List.getElem_cons_succ, List.getElem_cons_zero, Act.put, List.setIfInBounds_toArray, List.set_cons_zero, List.set_cons_succ])
                    refine wpB_chunk (f := 0) (L' := #[true, true, true, true, true, true, true, true, true, true, true, true, true, true, true, true, true]) hsel_ hQ_ [(9, true, some 151, none), (10, true, some 161, none), (11, true, some 162, none), (12, true, some 163, none), (13, false, some 16, none), (14, false, some 15, none), (15, false, none, none), (16, false, some 17, none)] _ _ _ (by kernel_rfl) s1 ?_
                    repeat (first | (refine wpSeqB_pure (v := ?_) rfl ?_ ?_; rotate_left 1; (focus (intro wq_ hSq_; (try dsimp only at hSq_); go_simp; (try with_reducible rfl); done)); (try simp only [Act.put, List.setIfInBounds_toArray, List.set_cons_zero, List.set_cons_succ])) | (refine wpSeqB_pureG (v := ?_) rfl rfl ?_ ?_; rotate_left 1; (focus (intro wq_ hSq_; (try dsimp only at hSq_); go_simp; (try with_reducible rfl); done)); (try simp only [Act.put, List.setIfInBounds_toArray, List.set_cons_zero, List.set_cons_succ])) | (refine wpSeqB_off rfl rfl ?_; (try simp only [Act.put, List.setIfInBounds_toArray, List.set_cons_zero, List.set_cons_succ])) | (refine wpSeqB_offU rfl ?_; (try simp only [Act.put, List.setIfInBounds_toArray, List.set_cons_zero, List.set_cons_succ])))
                    first | refine wpSeqB_call rfl (fun K hK => ?_) | refine wpSeqB_callG rfl rfl (fun K hK => ?_)
                    go_simp
                    have x2 : Ext y1 (y1.alloc (.cells #[.slice none 0 0, .int .i64 0] TRS)) := Ext.allocR _ _
                    have hb2 : Blk (y1.alloc (.cells #[.slice none 0 0, .int .i64 0] TRS)) y1.heap.size TRS #[.slice none 0 0, .int .i64 0] := Blk.new_ _ _ rfl
                    have hne2 : H ≠ y1.heap.size := by omega
                    have hw2 : w.heap.size ≤ y1.heap.size := X1.out.size
                    obtain ⟨H2, hH2⟩ : ∃ H2, y1.heap.size = H2 := ⟨_, rfl⟩
                    obtain ⟨y2, hy2⟩ : ∃ y2, y1.alloc (.cells #[.slice none 0 0, .int .i64 0] TRS) = y2 := ⟨_, rfl⟩
                    rw [hH2, hy2] at hb2
                    rw [hH2] at hne2 hw2
                    rw [hy2] at x2
                    rw [hH2, hy2]
                    have HB2 := Lib.hid (HB1.out.below x2)
                    have X2 := Lib.hid (bt X1.out x2)
                    have HC := PlC.new (keep := keep) (n := 1536) (d := d) (HS1.out.ext x2) (HR1.out.ext x2) ⟨_, _, HB2.out⟩ X2.out hb2 hne2 hw2
                    have f2 := hb2.free
                    have c2_ := hb2.cells
                    simp only [cellsAre, Nat.zero_add, Nat.reduceAdd, and_true] at c2_
                    have HCC := Lib.hid HC
                    have s2 := plS HB2.out X2.out K2.out
                    have s3 := plS ((HB2.out.far (p := ⟨H2, 0, none⟩) hne2 (.slice A11 m11 c11)).far (p := ⟨H2, 1, none⟩) hne2 (.int .i64 (keep : Int))) HCC.out.ex K2.out
                    clear hH2 hy2 x2 HC hb2
                    refine hK.out _ _ s2 ?_
                    clear hK K
                    (try simp only [List.getElem_toArray, List.getElem_cons_succ, List.getElem_cons_zero, Act.put, List.setIfInBounds_toArray, List.set_cons_zero, List.set_cons_succ])
                    repeat (first | (refine wpSeqB_pure (v := ?_) rfl ?_ ?_; rotate_left 1; (focus (intro wq_ hSq_; (try dsimp only at hSq_); go_simp; (try with_reducible rfl); done)); (try simp only [Act.put, List.setIfInBounds_toArray, List.set_cons_zero, List.set_cons_succ])) | (refine wpSeqB_pureG (v := ?_) rfl rfl ?_ ?_; rotate_left 1; (focus (intro wq_ hSq_; (try dsimp only at hSq_); go_simp; (try with_reducible rfl); done)); (try simp only [Act.put, List.setIfInBounds_toArray, List.set_cons_zero, List.set_cons_succ])) | (refine wpSeqB_off rfl rfl ?_; (try simp only [Act.put, List.setIfInBounds_toArray, List.set_cons_zero, List.set_cons_succ])) | (refine wpSeqB_offU rfl ?_; (try simp only [Act.put, List.setIfInBounds_toArray, List.set_cons_zero, List.set_cons_succ])))
                    first | refine wpSeqB_call rfl (fun K hK => ?_) | refine wpSeqB_callG rfl rfl (fun K hK => ?_)
                    go_simp
                    refine hK.out _ _ s2 ?_
                    clear hK K
                    (try simp only [List.getElem_toArray, List.getElem_cons_succ, List.getElem_cons_zero, Act.put, List.setIfInBounds_toArray, List.set_cons_zero, List.set_cons_succ])
                    repeat (first | (refine wpSeqB_pure (v := ?_) rfl ?_ ?_; rotate_left 1; (focus (intro wq_ hSq_; (try dsimp only at hSq_); go_simp; (try with_reducible rfl); done)); (try simp only [Act.put, List.setIfInBounds_toArray, List.set_cons_zero, List.set_cons_succ])) | (refine wpSeqB_pureG (v := ?_) rfl rfl ?_ ?_; rotate_left 1; (focus (intro wq_ hSq_; (try dsimp only at hSq_); go_simp; (try with_reducible rfl); done)); (try simp only [Act.put, List.setIfInBounds_toArray, List.set_cons_zero, List.set_cons_succ])) | (refine wpSeqB_off rfl rfl ?_; (try simp only [Act.put, List.setIfInBounds_toArray, List.set_cons_zero, List.set_cons_succ])) | (refine wpSeqB_offU rfl ?_; (try simp only [Act.put, List.setIfInBounds_toArray, List.set_cons_zero, List.set_cons_succ])))
                    first | refine wpSeqB_call rfl (fun K hK => ?_) | refine wpSeqB_callG rfl rfl (fun K hK => ?_)
                    go_simp
                    refine hK.out _ _ s3 ?_
                    clear hK K
                    (try simp only [List.getElem_toArray, List.getElem_cons_succ, List.getElem_cons_zero, Act.put, List.setIfInBounds_toArray, List.set_cons_zero, List.set_cons_succ])
                    first | refine wpSeqB_call rfl (fun K hK => ?_) | refine wpSeqB_callG rfl rfl (fun K hK => ?_)
                    go_simp
                    refine hK.out _ _ s3 ?_
                    clear hK K
                    (try simp only [List.getElem_toArray, List.getElem_cons_succ, List.getElem_cons_zero, Act.put, List.setIfInBounds_toArray, List.set_cons_zero, List.set_cons_succ])
                    repeat (first | (refine wpSeqB_pure (v := ?_) rfl ?_ ?_; rotate_left 1; (focus (intro wq_ hSq_; (try dsimp only at hSq_); go_simp; (try with_reducible rfl); done)); (try simp only [Act.put, List.setIfInBounds_toArray, List.set_cons_zero, List.set_cons_succ])) | (refine wpSeqB_pureG (v := ?_) rfl rfl ?_ ?_; rotate_left 1; (focus (intro wq_ hSq_; (try dsimp only at hSq_); go_simp; (try with_reducible rfl); done)); (try simp only [Act.put, List.setIfInBounds_toArray, List.set_cons_zero, List.set_cons_succ])) | (refine wpSeqB_off rfl rfl ?_; (try simp only [Act.put, List.setIfInBounds_toArray, List.set_cons_zero, List.set_cons_succ])) | (refine wpSeqB_offU rfl ?_; (try simp only [Act.put, List.setIfInBounds_toArray, List.set_cons_zero, List.set_cons_succ])))
                    intro s_
                    refine wpB_end (by kernel_rfl) ?_
                    clear s_
                    go_wp2_with fail
                    go_meet
                    exact ⟨_, _, _, rfl, rfl, rfl, hV', HCC.out⟩
                  · intro K hK
                    go_simp
                    have x1 : Ext wd (wd.alloc (.cells #[.slice none 0 0, .int .i64 0] TRS)) := Ext.allocR _ _
                    have hb1 : Blk (wd.alloc (.cells #[.slice none 0 0, .int .i64 0] TRS)) wd.heap.size TRS #[.slice none 0 0, .int .i64 0] := Blk.new_ _ _ rfl
                    have hne2 : H ≠ wd.heap.size := by have := HKd.out.lt; omega
                    have hw2 : w.heap.size ≤ wd.heap.size := Xd.out.size
                    obtain ⟨H2, hH2⟩ : ∃ H2, wd.heap.size = H2 := ⟨_, rfl⟩
                    obtain ⟨y1, hy1⟩ : ∃ y1, wd.alloc (.cells #[.slice none 0 0, .int .i64 0] TRS) = y1 := ⟨_, rfl⟩
                    rw [hH2, hy1] at hb1
                    rw [hH2] at hne2 hw2
                    rw [hy1] at x1
                    rw [hH2, hy1]
                    have HSy := Lib.hid (HSd.out.ext x1)
                    have Xy := Lib.hid (bt Xd.out x1)
                    have HRy := Lib.hid (HRd.out.ext x1)
                    have HKy := Lib.hid (HKd.out.below x1)
                    have OLy := Lib.hid (own_below OLd.out x1)
                    have HB1 := Lib.hid hb1
                    have s1 := plS HKy.out Xy.out K2.out
                    clear hH2 hy1 x1 hb1 HSd Xd HRd HKd OLd
                    refine hK.out _ _ s1 ?_
                    clear hK K
                    (try simp only [List.getElem_toArray, List.getElem_cons_succ, List.getElem_cons_zero, Act.put, List.setIfInBounds_toArray, List.set_cons_zero, List.set_cons_succ])
                    refine wpB_chunk (f := 0) (L' := #[true, true, true, true, true, true, true, true, true, true, true, true, true, true, true, true, true]) hsel_ hQ_ [(8, false, some 160, none), (9, true, some 151, none), (10, true, some 161, none), (11, true, some 162, none), (12, true, some 163, none), (14, false, some 15, none), (15, false, none, none), (16, false, some 17, none)] _ _ _ (by kernel_rfl) s1 ?_
                    repeat (first | (refine wpSeqB_pure (v := ?_) rfl ?_ ?_; rotate_left 1; (focus (intro wq_ hSq_; (try dsimp only at hSq_); go_simp; (try with_reducible rfl); done)); (try simp only [Act.put, List.setIfInBounds_toArray, List.set_cons_zero, List.set_cons_succ])) | (refine wpSeqB_pureG (v := ?_) rfl rfl ?_ ?_; rotate_left 1; (focus (intro wq_ hSq_; (try dsimp only at hSq_); go_simp; (try with_reducible rfl); done)); (try simp only [Act.put, List.setIfInBounds_toArray, List.set_cons_zero, List.set_cons_succ])) | (refine wpSeqB_off rfl rfl ?_; (try simp only [Act.put, List.setIfInBounds_toArray, List.set_cons_zero, List.set_cons_succ])) | (refine wpSeqB_offU rfl ?_; (try simp only [Act.put, List.setIfInBounds_toArray, List.set_cons_zero, List.set_cons_succ])))
                    first | refine wpSeqB_call rfl (fun K hK => ?_) | refine wpSeqB_callG rfl rfl (fun K hK => ?_)
                    go_simp
                    refine (rcrashed_any HSy.out (fun b hb => Nat.le_trans Xy.out.size hb) (by omega) (by omega) (by omega) (fun x hx => by have := HLE0.out x hx; omega) (by have := HLN.out; omega) l HL.out rfl _ HRy.out Al _ cl (fun W hW => own_rvv (OwC.chg OLy.out hW MF.tcg)) (by omega) Ak nk ck ks (fun W hW => HRK.out.1.below (hW.ge Xy.out)) HRK.out.2).mono ?_
                    rintro e y2 ⟨s', rv', Vs', rfl, hV', hs', hr', hc'⟩
                    obtain ⟨A11, m11, c11, rfl, hh11⟩ := hr'.form
                    clear hh11
                    have HB2 := Lib.hid (hc'.blk HKy.out (MF.trs2 _ _))
                    have hb2 := hc'.blk HB1.out (MF.trs2 _ _)
                    have X2 := Lib.hid (hc'.ge Xy.out)
                    have HC := PlC.new (keep := keep) (n := 1536) (d := d) (show STl (fun b => w.heap.size ≤ b) y2 s' d keep 1536 Vs' 0 from hs') hr' ⟨_, _, HB2.out⟩ X2.out hb2 hne2 hw2
                    have f2 := hb2.free
                    have c2_ := hb2.cells
                    simp only [cellsAre, Nat.zero_add, Nat.reduceAdd, and_true] at c2_
                    have HCC := Lib.hid HC
                    have s2 := plS HB2.out X2.out K2.out
                    have s3 := plS ((HB2.out.far (p := ⟨H2, 0, none⟩) hne2 (.slice A11 m11 c11)).far (p := ⟨H2, 1, none⟩) hne2 (.int .i64 (keep : Int))) HCC.out.ex K2.out
                    clear HC hb2 hs' hr' hc' HSy Xy HRy HKy OLy HB1
                    (try go_wp2_with fail)
                    refine hK.out _ _ s2 ?_
                    clear hK K
                    (try simp only [List.getElem_toArray, List.getElem_cons_succ, List.getElem_cons_zero, Act.put, List.setIfInBounds_toArray, List.set_cons_zero, List.set_cons_succ])
                    repeat (first | (refine wpSeqB_pure (v := ?_) rfl ?_ ?_; rotate_left 1; (focus (intro wq_ hSq_; (try dsimp only at hSq_); go_simp; (try with_reducible rfl); done)); (try simp only [Act.put, List.setIfInBounds_toArray, List.set_cons_zero, List.set_cons_succ])) | (refine wpSeqB_pureG (v := ?_) rfl rfl ?_ ?_; rotate_left 1; (focus (intro wq_ hSq_; (try dsimp only at hSq_); go_simp; (try with_reducible rfl); done)); (try simp only [Act.put, List.setIfInBounds_toArray, List.set_cons_zero, List.set_cons_succ])) | (refine wpSeqB_off rfl rfl ?_; (try simp only [Act.put, List.setIfInBounds_toArray, List.set_cons_zero, List.set_cons_succ])) | (refine wpSeqB_offU rfl ?_; (try simp only [Act.put, List.setIfInBounds_toArray, List.set_cons_zero, List.set_cons_succ])))
                    first | refine wpSeqB_call rfl (fun K hK => ?_) | refine wpSeqB_callG rfl rfl (fun K hK => ?_)
                    go_simp
                    refine hK.out _ _ s2 ?_
                    clear hK K
                    (try simp only [List.getElem_toArray, List.getElem_cons_succ, List.getElem_cons_zero, Act.put, List.setIfInBounds_toArray, List.set_cons_zero, List.set_cons_succ])
                    repeat (first | (refine wpSeqB_pure (v := ?_) rfl ?_ ?_; rotate_left 1; (focus (intro wq_ hSq_; (try dsimp only at hSq_); go_simp; (try with_reducible rfl); done)); (try simp only [Act.put, List.setIfInBounds_toArray, List.set_cons_zero, List.set_cons_succ])) | (refine wpSeqB_pureG (v := ?_) rfl rfl ?_ ?_; rotate_left 1; (focus (intro wq_ hSq_; (try dsimp only at hSq_); go_simp; (try with_reducible rfl); done)); (try simp only [Act.put, List.setIfInBounds_toArray, List.set_cons_zero, List.set_cons_succ])) | (refine wpSeqB_off rfl rfl ?_; (try simp only [Act.put, List.setIfInBounds_toArray, List.set_cons_zero, List.set_cons_succ])) | (refine wpSeqB_offU rfl ?_; (try simp only [Act.put, List.setIfInBounds_toArray, List.set_cons_zero, List.set_cons_succ])))
                    first | refine wpSeqB_call rfl (fun K hK => ?_) | refine wpSeqB_callG rfl rfl (fun K hK => ?_)
                    go_simp
                    refine hK.out _ _ s3 ?_
                    clear hK K
                    (try simp only [List.getElem_toArray, List.getElem_cons_succ, List.getElem_cons_zero, Act.put, List.setIfInBounds_toArray, List.set_cons_zero, List.set_cons_succ])
                    first | refine wpSeqB_call rfl (fun K hK => ?_) | refine wpSeqB_callG rfl rfl (fun K hK => ?_)
                    go_simp
                    refine hK.out _ _ s3 ?_
                    clear hK K
                    (try simp only [List.getElem_toArray, List.getElem_cons_succ, List.getElem_cons_zero, Act.put, List.setIfInBounds_toArray, List.set_cons_zero, List.set_cons_succ])
                    repeat (first | (refine wpSeqB_pure (v := ?_) rfl ?_ ?_; rotate_left 1; (focus (intro wq_ hSq_; (try dsimp only at hSq_); go_simp; (try with_reducible rfl); done)); (try simp only [Act.put, List.setIfInBounds_toArray, List.set_cons_zero, List.set_cons_succ])) | (refine wpSeqB_pureG (v := ?_) rfl rfl ?_ ?_; rotate_left 1; (focus (intro wq_ hSq_; (try dsimp only at hSq_); go_simp; (try with_reducible rfl); done)); (try simp only [Act.put, List.setIfInBounds_toArray, List.set_cons_zero, List.set_cons_succ])) | (refine wpSeqB_off rfl rfl ?_; (try simp only [Act.put, List.setIfInBounds_toArray, List.set_cons_zero, List.set_cons_succ])) | (refine wpSeqB_offU rfl ?_; (try simp only [Act.put, List.setIfInBounds_toArray, List.set_cons_zero, List.set_cons_succ])))
                    intro s_
                    refine wpB_end (by kernel_rfl) ?_
                    clear s_
                    go_wp2_with fail
                    go_meet
                    exact ⟨_, _, _, rfl, rfl, rfl, hV', HCC.out⟩
                case rest =>
                  obtain ⟨s', H2, Vs', rfl, rfl, rfl, hV', hc⟩ := hcut
                  have HC := Lib.hid hc
                  obtain ⟨Ab2, mb2, cb2, hrb2, hkb2⟩ := hc.rv
                  have HRV := Lib.hid hrb2
                  have HK2 := Lib.hid hkb2
                  obtain ⟨x_, y_, hbH⟩ := hc.hb
                  have HBH := Lib.hid hbH
                  have HLE2 := Lib.hid (show ∀ x ∈ Vs', x.length ≤ 360 by rcases hV' with hV' | hV' <;> rw [hV'] <;> first | exact HLE0.out | exact HLE.out)
                  have hVl2 : Vs'.length ≤ Vs.length + 1 := by
                    rcases hV' with hV' | hV' <;> rw [hV']
                    · omega
                    · rw [List.length_append, List.length_singleton]; omega
                  have kk := fun W' (hh : Ext wc W') => (HK2.out.below hh).cells
                  simp only [cellsAre, Nat.zero_add, Nat.reduceAdd, and_true] at kk
                  have hst : Ext wc wc.drew := Ext.drew _
                  clear hc hrb2 hkb2 hbH hV'
                  go_upto_region 31 with fail
                  refine wp_region_adv 3 [] [(0, true, some 166, none), (1, true, some 167, none), (2, false, some 5, none)] (by kernel_rfl) (by kernel_rfl) (by kernel_rfl) (by intro it hit; (repeat (rcases List.mem_cons.1 hit with rfl | hit; (focus (intro o ho ev w; injection ho with ho; subst ho; kernel_rfl)))); cases hit) (fun _ _ _ _ _ => ⟨fun h => h, fun h => h⟩) hst ?_
                  repeat (first | (refine wpSeq_pure (v := ?_) rfl ?_ ?_; rotate_left 1; (focus (intro wq_ hSq_; (try dsimp only at hSq_); go_simp; (try with_reducible rfl); done)); (try simp only [Act.put, List.setIfInBounds_toArray, List.set_cons_zero, List.set_cons_succ])) | (refine wpSeq_pureG (v := ?_) rfl rfl ?_ ?_; rotate_left 1; (focus (intro wq_ hSq_; (try dsimp only at hSq_); go_simp; (try with_reducible rfl); done)); (try simp only [Act.put, List.setIfInBounds_toArray, List.set_cons_zero, List.set_cons_succ])) | (refine wpSeq_off rfl rfl ?_; (try simp only [Act.put, List.setIfInBounds_toArray, List.set_cons_zero, List.set_cons_succ])) | (refine wpSeq_offU rfl ?_; (try simp only [Act.put, List.setIfInBounds_toArray, List.set_cons_zero, List.set_cons_succ])))
                  first | refine wpSeq_call rfl (fun u1 gu1 su1 K hK => ?_) | refine wpSeq_callG rfl rfl (fun u1 gu1 su1 K hK => ?_)
                  go_simp
                  (try go_wp2_with fail)
                  refine hK.out _ _ (Ext.refl _) ?_
                  clear hK K
                  (try simp only [Act.put, List.setIfInBounds_toArray, List.set_cons_zero, List.set_cons_succ])
                  repeat (first | (refine wpSeq_pure (v := ?_) rfl ?_ ?_; rotate_left 1; (focus (intro wq_ hSq_; (try dsimp only at hSq_); go_simp; (try with_reducible rfl); done)); (try simp only [Act.put, List.setIfInBounds_toArray, List.set_cons_zero, List.set_cons_succ])) | (refine wpSeq_pureG (v := ?_) rfl rfl ?_ ?_; rotate_left 1; (focus (intro wq_ hSq_; (try dsimp only at hSq_); go_simp; (try with_reducible rfl); done)); (try simp only [Act.put, List.setIfInBounds_toArray, List.set_cons_zero, List.set_cons_succ])) | (refine wpSeq_off rfl rfl ?_; (try simp only [Act.put, List.setIfInBounds_toArray, List.set_cons_zero, List.set_cons_succ])) | (refine wpSeq_offU rfl ?_; (try simp only [Act.put, List.setIfInBounds_toArray, List.set_cons_zero, List.set_cons_succ])))
                  intro wz gz sz_
                  (try simp only [endJ, List.drop_succ_cons, List.drop_zero])
                  have HBz := Lib.hid (HBH.out.below sz_)
                  have HPz := Lib.hid (FiL.put (HC.out.st.ext sz_) ⟨_, _, HBz.out⟩ (HRV.out.ext sz_) (bt HC.out.ex sz_) HHW.out HLE2.out)
                  have fz := HBz.out.free
                  have kz := HBz.out.cells
                  simp only [cellsAre, Nat.zero_add, Nat.reduceAdd, and_true] at kz
                  clear kk hst gz sz_ HC HRV HK2 HBH
                  go_wp2_with fail
                  exact ⟨⟨j + 1, _, _, by omega, by omega, rfl, rfl, by omega, HPz.out⟩, by simp [intOf]; omega⟩
          · subst e3
            as_aux_lemma =>
              go_wp2_with fail
              refine (dks_clone HW5.out.st.disk (by omega) fun b hb => Nat.le_trans HW5.out.ex.size hb).mono ?_
              rintro e w6 ⟨v6, rfl, ⟨d2, rfl, hd6⟩, b6⟩
              have HD6 := Lib.hid hd6
              have HW6 := Lib.hid (HW5.out.ext b6)
              clear b6 hd6 HW5 RL5 OL5 g0
              go_wp2_with fail
              refine (dks_open HD6.out (fun b hb => Nat.le_trans HW6.out.ex.size hb) (by omega) (by omega) (fun x hx => by have := HW6.out.le x hx; omega) 8 (by omega)).mono ?_
              rintro e w7 ⟨v7, rfl, ⟨s2, rfl, hs7⟩, b7⟩
              have HS7 := Lib.hid hs7
              have HW7 := Lib.hid (HW6.out.ext b7)
              clear b7 hs7 HW6 HD6
              obtain ⟨A7, m7, c7, hr7, hk7⟩ := HW7.out.rv
              have k7 := hk7.cells
              simp only [cellsAre, Nat.zero_add, Nat.reduceAdd, and_true] at k7
              have HV7 := Lib.hid hr7
              clear hr7 hk7
              go_wp2_with fail
              refine (stl_alike HS7.out HV7.out (by omega) (by omega) (fun x hx => by have := HW7.out.le x hx; omega)).mono ?_
              rintro e w8 ⟨v8, rfl, rfl, b8⟩
              have HW8 := Lib.hid (HW7.out.ext b8)
              clear b8 HS7 HW7 HV7 k7
              go_wp2_with fail
              refine (stl_broken HW8.out.st).mono ?_
              rintro e wy1 ⟨vy1, rfl, rfl, bx1⟩
              have HWy1 := Lib.hid (HW8.out.ext bx1)
              clear bx1 HW8
              obtain ⟨Ay1, my1, cy1, hry1, hky1⟩ := HWy1.out.rv
              have ky1 := hky1.cells
              simp only [cellsAre, Nat.zero_add, Nat.reduceAdd, and_true] at ky1
              have HRy1 := Lib.hid hry1
              clear hry1 hky1
              go_wp2_with fail
              refine (stl_alike HWy1.out.st HRy1.out (by omega) (by omega) (fun x hx => by have := HWy1.out.le x hx; omega)).mono ?_
              rintro e wy2 ⟨vy2, rfl, rfl, bx2⟩
              have HWy2 := Lib.hid (HWy1.out.ext bx2)
              clear bx2 HWy1 HRy1 ky1
              go_wp2_with fail
              exact ⟨⟨j + 1, _, _, by omega, by omega, rfl, rfl, (by omega), HWy2.out⟩, by simp [intOf]; omega⟩
          · subst e3
            as_aux_lemma =>
              obtain ⟨A5, m5, c5, hr5, hk5⟩ := HW5.out.rv
              have HV5 := Lib.hid hr5
              have kh := fun W' (hh : Ext w5 W') => (hk5.below hh).cells
              have k1' := fun W' (hh : Ext w5 W') => ext_cell (bt HW5.out.ex hh) K1.out
              simp only [cellsAre, Nat.zero_add, Nat.reduceAdd, and_true] at kh
              have hst : Ext w5 w5.drew := Ext.drew _
              clear hr5 hk5
              go_upto_region 42 with fail
              refine wp_region_adv 8 [] [(0, true, some 210, none), (2, true, some 212, none), (3, true, some 213, none), (4, true, some 214, none), (5, true, some 215, none), (6, true, some 216, none), (7, true, some 217, none), (1, false, some 211, none)] (by kernel_rfl) (by kernel_rfl) (by kernel_rfl) (by intro it hit; (repeat (rcases List.mem_cons.1 hit with rfl | hit; (focus (intro o ho ev w; injection ho with ho; subst ho; kernel_rfl)))); cases hit) (fun _ _ _ _ _ => ⟨fun h => h, fun h => h⟩) hst ?_
              repeat (first | (refine wpSeq_pure (v := ?_) rfl ?_ ?_; rotate_left 1; (focus (intro wq_ hSq_; (try dsimp only at hSq_); go_simp; (try with_reducible rfl); done)); (try simp only [Act.put, List.setIfInBounds_toArray, List.set_cons_zero, List.set_cons_succ])) | (refine wpSeq_pureG (v := ?_) rfl rfl ?_ ?_; rotate_left 1; (focus (intro wq_ hSq_; (try dsimp only at hSq_); go_simp; (try with_reducible rfl); done)); (try simp only [Act.put, List.setIfInBounds_toArray, List.set_cons_zero, List.set_cons_succ])) | (refine wpSeq_off rfl rfl ?_; (try simp only [Act.put, List.setIfInBounds_toArray, List.set_cons_zero, List.set_cons_succ])) | (refine wpSeq_offU rfl ?_; (try simp only [Act.put, List.setIfInBounds_toArray, List.set_cons_zero, List.set_cons_succ])))
              first | refine wpSeq_call rfl (fun u1 gu1 su1 K hK => ?_) | refine wpSeq_callG rfl rfl (fun u1 gu1 su1 K hK => ?_)
              go_simp
              refine (znewest_any (HV5.out.ext su1) (by omega)).mono ?_
              rintro e y6 ⟨v6, rfl, rfl, b6⟩
              (try go_wp2_with fail)
              refine hK.out _ _ b6 ?_
              clear hK K
              (try simp only [Act.put, List.setIfInBounds_toArray, List.set_cons_zero, List.set_cons_succ])
              repeat (first | (refine wpSeq_pure (v := ?_) rfl ?_ ?_; rotate_left 1; (focus (intro wq_ hSq_; (try dsimp only at hSq_); go_simp; (try with_reducible rfl); done)); (try simp only [Act.put, List.setIfInBounds_toArray, List.set_cons_zero, List.set_cons_succ])) | (refine wpSeq_pureG (v := ?_) rfl rfl ?_ ?_; rotate_left 1; (focus (intro wq_ hSq_; (try dsimp only at hSq_); go_simp; (try with_reducible rfl); done)); (try simp only [Act.put, List.setIfInBounds_toArray, List.set_cons_zero, List.set_cons_succ])) | (refine wpSeq_off rfl rfl ?_; (try simp only [Act.put, List.setIfInBounds_toArray, List.set_cons_zero, List.set_cons_succ])) | (refine wpSeq_offU rfl ?_; (try simp only [Act.put, List.setIfInBounds_toArray, List.set_cons_zero, List.set_cons_succ])))
              intro wz gz sz_
              (try simp only [endJ, List.drop_succ_cons, List.drop_zero])
              have HWz := Lib.hid (HW5.out.ext sz_)
              obtain ⟨vv, hvv⟩ : ∃ vv, IntKind.i64.wrap ((Vs.length : Int) - 1 - (n7 : Int)) = vv := ⟨_, rfl⟩
              have hvv2 : (Vs.length : Int) - 1 - (n7 : Int) = vv := by rw [← hvv, IntWalk.i64_in _ (by omega)]
              clear kh k1' hst gz sz_ HW5 HV5 RL5 OL5 g0
              rcases verB_three (Vs.length - 1) (min (keep + 1) Vs.length) vv with hER | hER | ⟨hER, hv0, hv1, hv2⟩
              · have HER := Lib.hid hER
                clear hER hvv2
                go_wp2_with fail
                refine (st_range_er HWz.out.st (by omega) HER.out (by decide)).mono ?_
                rintro e w11 ⟨v11, rfl, rfl, b11⟩
                unfold ansR
                have HW11 := Lib.hid (HWz.out.ext b11)
                clear b11 HWz hvv
                obtain ⟨A11, m11, c11, hr11, hk11⟩ := HW11.out.rv
                have k11 := hk11.cells
                simp only [cellsAre, Nat.zero_add, Nat.reduceAdd, and_true] at k11
                have HR11 := Lib.hid hr11
                clear hr11 hk11
                go_wp2_with fail
                refine (zversion_any HR11.out (by omega) (by omega) (by omega) vv).mono ?_
                rintro e w12 ⟨v12, rfl, rfl, b12⟩
                rw [HER.out]
                have HW12 := Lib.hid (HW11.out.ext b12)
                clear k11 HW11 HR11 b12
                go_wp2_with fail
                refine (stl_broken HW12.out.st).mono ?_
                rintro e wy1 ⟨vy1, rfl, rfl, bx1⟩
                have HWy1 := Lib.hid (HW12.out.ext bx1)
                clear bx1 HW12
                obtain ⟨Ay1, my1, cy1, hry1, hky1⟩ := HWy1.out.rv
                have ky1 := hky1.cells
                simp only [cellsAre, Nat.zero_add, Nat.reduceAdd, and_true] at ky1
                have HRy1 := Lib.hid hry1
                clear hry1 hky1
                go_wp2_with fail
                refine (stl_alike HWy1.out.st HRy1.out (by omega) (by omega) (fun x hx => by have := HWy1.out.le x hx; omega)).mono ?_
                rintro e wy2 ⟨vy2, rfl, rfl, bx2⟩
                have HWy2 := Lib.hid (HWy1.out.ext bx2)
                clear bx2 HWy1 HRy1 ky1
                go_wp2_with fail
                exact ⟨⟨j + 1, _, _, by omega, by omega, rfl, rfl, (by omega), HWy2.out⟩, by simp [intOf]; omega⟩
              · have HER := Lib.hid hER
                clear hER hvv2
                go_wp2_with fail
                refine (st_range_er HWz.out.st (by omega) HER.out (by decide)).mono ?_
                rintro e w11 ⟨v11, rfl, rfl, b11⟩
                unfold ansR
                have HW11 := Lib.hid (HWz.out.ext b11)
                clear b11 HWz hvv
                obtain ⟨A11, m11, c11, hr11, hk11⟩ := HW11.out.rv
                have k11 := hk11.cells
                simp only [cellsAre, Nat.zero_add, Nat.reduceAdd, and_true] at k11
                have HR11 := Lib.hid hr11
                clear hr11 hk11
                go_wp2_with fail
                refine (zversion_any HR11.out (by omega) (by omega) (by omega) vv).mono ?_
                rintro e w12 ⟨v12, rfl, rfl, b12⟩
                rw [HER.out]
                have HW12 := Lib.hid (HW11.out.ext b12)
                clear k11 HW11 HR11 b12
                go_wp2_with fail
                refine (stl_broken HW12.out.st).mono ?_
                rintro e wy1 ⟨vy1, rfl, rfl, bx1⟩
                have HWy1 := Lib.hid (HW12.out.ext bx1)
                clear bx1 HW12
                obtain ⟨Ay1, my1, cy1, hry1, hky1⟩ := HWy1.out.rv
                have ky1 := hky1.cells
                simp only [cellsAre, Nat.zero_add, Nat.reduceAdd, and_true] at ky1
                have HRy1 := Lib.hid hry1
                clear hry1 hky1
                go_wp2_with fail
                refine (stl_alike HWy1.out.st HRy1.out (by omega) (by omega) (fun x hx => by have := HWy1.out.le x hx; omega)).mono ?_
                rintro e wy2 ⟨vy2, rfl, rfl, bx2⟩
                have HWy2 := Lib.hid (HWy1.out.ext bx2)
                clear bx2 HWy1 HRy1 ky1
                go_wp2_with fail
                exact ⟨⟨j + 1, _, _, by omega, by omega, rfl, rfl, (by omega), HWy2.out⟩, by simp [intOf]; omega⟩
              · obtain ⟨vn, rfl⟩ : ∃ vn : Nat, vv = (vn : Int) := ⟨vv.toNat, by omega⟩
                have hvn : vn < Vs.length := by omega
                have HER := Lib.hid hER
                have hatz : (Vs.getD vn []).length ≤ 1000 := by
                  rw [show Vs.getD vn [] = Vs[vn] by simp [List.getD, hvn]]
                  have := HWz.out.le _ (List.getElem_mem (l := Vs) (n := vn) hvn)
                  omega
                have hRg := st_range_ok HWz.out.st (by omega) (v := vn) hvn (by omega) hatz
                obtain ⟨L0, hL0⟩ : ∃ L0, Vs.getD vn [] = L0 := ⟨_, rfl⟩
                rw [hL0] at hRg hatz
                have HRG := Lib.hid hRg
                have HL0 := Lib.hid hL0
                clear hRg hL0 hER hvv2 hv0 hv1 hv2
                go_wp2_with fail
                refine HRG.out.mono ?_
                rintro e w11 ⟨v11, rfl, ⟨z6, rfl, o6⟩, b11⟩
                unfold ansR
                obtain ⟨Ap, cp, rfl, rp⟩ := OwP.rv o6
                have RP := Lib.hid rp
                have HW11 := Lib.hid (HWz.out.ext b11)
                clear o6 rp b11 HWz HRG hvv
                obtain ⟨A11, m11, c11, hr11, hk11⟩ := HW11.out.rv
                have k11 := hk11.cells
                simp only [cellsAre, Nat.zero_add, Nat.reduceAdd, and_true] at k11
                have HR11 := Lib.hid hr11
                have HK11 := Lib.hid hk11
                clear hr11 hk11
                go_wp2_with fail
                refine (zversion_any HR11.out (by omega) (by omega) (by omega) (vn : Int)).mono ?_
                rintro e w12 ⟨v12, rfl, rfl, b12⟩
                rw [HER.out]
                have HW12 := Lib.hid (HW11.out.ext b12)
                have HR12 := Lib.hid (HR11.out.ext b12)
                have HK12 := Lib.hid (HK11.out.below b12)
                have k12 := HK12.out.cells
                simp only [cellsAre, Nat.zero_add, Nat.reduceAdd, and_true] at k12
                have RP2 := Lib.hid (RP.out.below b12)
                clear k11 HW11 HR11 HK11 RP b12
                obtain ⟨A12, m12, c12, er12, hov, hn12, hnc12, hcc12⟩ := HR12.out.form
                simp at er12
                obtain ⟨rfl, rfl, rfl⟩ := er12
                obtain ⟨b2, o2, Az, cz, rfl, kz, hz⟩ := hov.at_ hvn
                have pn : (vn : Int) < (m11 : Int) := by omega
                have eV : Vs[vn] = L0 := by rw [← HL0.out]; simp [List.getD, hvn]
                rw [eV] at kz hz
                have HZ := Lib.hid hz
                have HNN := Lib.hid hn12
                clear hov hz eV hn12 HR12
                go_wp2_with fail
                refine (zsame_any Ap Az _ cp _ cz L0 w12 RP2.out HZ.out (by omega)).mono ?_
                rintro e w13 ⟨v13, rfl, rfl, b13⟩
                have HW13 := Lib.hid (HW12.out.ext b13)
                clear b13 HW12 RP2 HZ k12 kz HK12
                go_wp2_with fail
                refine (stl_broken HW13.out.st).mono ?_
                rintro e wy1 ⟨vy1, rfl, rfl, bx1⟩
                have HWy1 := Lib.hid (HW13.out.ext bx1)
                clear bx1 HW13
                obtain ⟨Ay1, my1, cy1, hry1, hky1⟩ := HWy1.out.rv
                have ky1 := hky1.cells
                simp only [cellsAre, Nat.zero_add, Nat.reduceAdd, and_true] at ky1
                have HRy1 := Lib.hid hry1
                clear hry1 hky1
                go_wp2_with fail
                refine (stl_alike HWy1.out.st HRy1.out (by omega) (by omega) (fun x hx => by have := HWy1.out.le x hx; omega)).mono ?_
                rintro e wy2 ⟨vy2, rfl, rfl, bx2⟩
                have HWy2 := Lib.hid (HWy1.out.ext bx2)
                clear bx2 HWy1 HRy1 ky1
                go_wp2_with fail
                exact ⟨⟨j + 1, _, _, by omega, by omega, rfl, rfl, (by omega), HWy2.out⟩, by simp [intOf]; omega⟩
          · have q3 : ¬ (q : Int) = 3 := by omega
            have q4 : ¬ (q : Int) = 4 := by omega
            have q5 : ¬ (q : Int) = 5 := by omega
            go_wp2_with fail
            refine (st_commit_z HW5.out.st (fun b hb => Nat.le_trans HW5.out.ex.size hb) (by omega) (by omega) (by omega) HL.out (by omega) Al _ cl l RL5.out HBT.out HFT.out).mono ?_
            rintro e w7 ha
            clear g0
            have hc7 : Chg (MF fun b => w.heap.size ≤ b) w5 w7 := by
              cases ha with
              | ok _ _ _ _ h => exact h
              | down _ _ _ h => exact h
            have HOL7 := Lib.hid (OwC.chg OL5.out hc7 MF.tcg)
            have RL7 := Lib.hid (own_rvv HOL7.out)
            have X7 := Lib.hid (hc7.ge HW5.out.ex)
            obtain ⟨A6, m6, c6, hr6, hk6⟩ := HW5.out.rv
            have HK7 := Lib.hid (hc7.blk hk6 (MF.trs2 _ _))
            have HR7 := Lib.hid (hr6.chg hc7 MF.tpa MF.tps)
            have HLE0 := Lib.hid HW5.out.le
            have k7 := HK7.out.cells
            simp only [cellsAre, Nat.zero_add, Nat.reduceAdd, and_true] at k7
            clear hc7 hk6 hr6 HW5
            rcases ha with ⟨lf', rfl, hlf, hs7, _⟩ | ⟨h0, _⟩
            · obtain rfl : lf' = 0 := hlf rfl
              unfold ansV
              have HS7 := Lib.hid hs7
              clear hs7 hlf
              as_aux_lemma =>
                go_wp2_with fail
                refine (zcommit_any HR7.out (by omega) (by omega) HL.out (by omega) Al _ cl l RL7.out (by omega)).mono ?_
                rintro e w9 ⟨v9, rfl, hr9, b9⟩
                obtain ⟨A9, m9, c9, rfl, hh9⟩ := hr9.form
                clear hh9
                have HS9 := Lib.hid (HS7.out.ext b9)
                have HR9 := Lib.hid hr9
                have HK9 := Lib.hid (HK7.out.below b9)
                have X9 := Lib.hid (bt X7.out b9)
                have k9 := HK9.out.cells
                simp only [cellsAre, Nat.zero_add, Nat.reduceAdd, and_true] at k9
                have f9 := HK9.out.free
                clear b9 hr9 HS7 HR7 HK7 RL7 X7 k7
                go_upto_region 19 with fail
                refine wp_world (fun W => FiL w W s d H keep 1536 (Vs ++ [aft L l]) 0) (FiL.put HS9.out ⟨_, _, HK9.out⟩ HR9.out X9.out HHW.out HLE.out) ?_
                rintro W10 hw10
                have HW10 := Lib.hid hw10
                clear hw10 HS9 HR9 HK9 X9 k9 f9
                obtain ⟨A10, m10, c10, hr10, hk10⟩ := HW10.out.rv
                have k10 := hk10.cells
                simp only [cellsAre, Nat.zero_add, Nat.reduceAdd, and_true] at k10
                have HV10 := Lib.hid hr10
                clear hr10 hk10
                go_wp2_with fail
                refine (znewest_any HV10.out (by rw [List.length_append, List.length_singleton]; omega)).mono ?_
                rintro e w11 ⟨v11, rfl, rfl, b11⟩
                rw [show (((Vs ++ [aft L l]).length : Int) - 1) = (Vs.length : Int) by rw [List.length_append, List.length_singleton]; omega]
                have HW11 := Lib.hid (HW10.out.ext b11)
                clear b11 HW10 HV10 k10
                go_wp2_with fail
                refine (stl_broken HW11.out.st).mono ?_
                rintro e wy1 ⟨vy1, rfl, rfl, bx1⟩
                have HWy1 := Lib.hid (HW11.out.ext bx1)
                clear bx1 HW11
                obtain ⟨Ay1, my1, cy1, hry1, hky1⟩ := HWy1.out.rv
                have ky1 := hky1.cells
                simp only [cellsAre, Nat.zero_add, Nat.reduceAdd, and_true] at ky1
                have HRy1 := Lib.hid hry1
                clear hry1 hky1
                go_wp2_with fail
                refine (stl_alike HWy1.out.st HRy1.out (by rw [List.length_append, List.length_singleton]; omega) (by omega) (fun x hx => by have := HWy1.out.le x hx; omega)).mono ?_
                rintro e wy2 ⟨vy2, rfl, rfl, bx2⟩
                have HWy2 := Lib.hid (HWy1.out.ext bx2)
                clear bx2 HWy1 HRy1 ky1
                go_wp2_with fail
                exact ⟨⟨j + 1, _, _, by omega, by omega, rfl, rfl, (by rw [List.length_append, List.length_singleton]; omega), HWy2.out⟩, by simp [intOf]; omega⟩
            · exact absurd rfl h0
    · obtain ⟨A6, m6, c6, hr6, hk6⟩ := HW.out.rv
      rcases Nat.lt_or_ge j nx with hlt | hge
      · have p1 : (j : Int) < (nx : Int) := by omega
        have p2 : ¬ (j : Int) < 24 := by omega
        go_wp2_with fail
        (try simp only [Exit.inBlock, Exit.then])
        refine bodyPost_ret (v := (.bool true)) (by simp [results, Tryz.results6, go_sem, *]) rfl ?_
        exact ⟨_, rfl, rfl, HW.out.ex⟩
      · have p1 : ¬ (j : Int) < (nx : Int) := by omega
        go_wp2_with fail
        (try simp only [Exit.inBlock, Exit.then])
        refine bodyPost_ret (v := (.bool true)) (by simp [results, Tryz.results6, go_sem, *]) rfl ?_
        exact ⟨_, rfl, rfl, HW.out.ex⟩
end Go.Proofs.Tb
