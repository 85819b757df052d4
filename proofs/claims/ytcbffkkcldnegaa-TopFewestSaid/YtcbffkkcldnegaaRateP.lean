/- Contracts for RateParts: Make of the reference; the law's within. -/
import Derived.Test.YtcbffkkcldnegaaRefZ
import Derived.Test.YtcbffkkcldnegaaLawK
set_option linter.unusedVariables false
set_option linter.unusedSimpArgs false
namespace Go.Proofs.Tb
open Go.RowKit
attribute [local go_sem] cell_set_same

theorem andM (x : Int) : 0 ≤ bits .and .i64 x 1023 ∧ bits .and .i64 x 1023 ≤ 1023 := by
  have h : (BitVec.ofInt 64 x &&& BitVec.ofInt 64 1023).toNat ≤ 1023 := by
    rw [BitVec.toNat_and]
    exact Nat.and_le_right
  have e : bits .and .i64 x 1023 = IntKind.i64.wrap ((BitVec.ofInt 64 x &&& BitVec.ofInt 64 1023).toNat : Int) := rfl
  rw [e, IntWalk.i64_in _ (by omega)]
  omega
theorem qv_nonneg {p q : Int} (hq : 0 < q) (hp : 0 ≤ p) : 0 ≤ qv p q := by
  rcases Int.lt_or_eq_of_le hp with h | h
  · exact Rat.le_of_lt ((qv_pos hq).2 h)
  · rw [(qv_zero (by omega)).2 h.symm]; exact Rat.le_refl
theorem fit_small {p q : Int} (h1 : 0 ≤ p ∧ p ≤ 1000000) (h2 : 0 < q ∧ q ≤ 1000000) : fitQ (qv p q) := (okFrac_q h2.1).1 (lim_lown h2.1 (by omega) (by omega))

set_option maxHeartbeats 1600000 in
set_option maxRecDepth 100000 in
theorem zmake_any (p q : Int) (w : World) (h1 : 0 ≤ p ∧ p ≤ 1000000) (h2 : 0 < q ∧ q ≤ 1000000) :
    Calls Try.prog 50 #[.int .i64 p, .int .i64 q] w (Ret (fun v _ => v = .tuple #[.agg #[.int .i64 (qv p q).num, .int .i64 ((qv p q).den : Int)], .int .i64 0]) w) := by
  have H1 := Lib.hid h1
  have H2 := Lib.hid h2
  have HF := Lib.hid (fit_small h1 h2)
  have g1 : (q == 0) = false := by rw [beq_eq_false_iff_ne]; omega
  obtain ⟨x, hx⟩ : ∃ x, qv p q = x := ⟨_, rfl⟩
  rw [hx] at HF ⊢
  have HX := Lib.hid hx
  clear h1 h2 hx
  go_enter Try.func50, Try.ntmps50
  go_wp2_with fail
  obtain ⟨W0, hW0⟩ : ∃ W0, W0 = w.alloc (.cells #[.int .i64 0, .int .i64 0] TF) := ⟨_, rfl⟩
  have b4 : Blk W0 w.heap.size TF #[.int .i64 0, .int .i64 0] := by rw [hW0]; exact Blk.new_ _ _ rfl
  have hb0 : Below w.heap.size w W0 := by rw [hW0]; go_grown
  rw [← hW0]
  clear hW0
  refine (zint_any p W0 (by have := H1.out; omega) (by have := H1.out; omega)).mono ?_
  rintro e w1 ⟨v1, rfl, z1, hb1⟩
  obtain ⟨A1, n1, c1, rfl, s1⟩ := id z1
  have Z1 := Lib.hid z1
  have B4 := Lib.hid (b4.below hb1)
  have HB1 := Lib.hid (bt hb0 hb1)
  clear z1 s1 b4 hb0 hb1
  go_wp2_with fail
  refine (zint_any q w1 (by have := H2.out; omega) (by have := H2.out; omega)).mono ?_
  rintro e w2 ⟨v2, rfl, z2, hb2⟩
  obtain ⟨A2, n2, c2, rfl, s2⟩ := id z2
  have Z2 := Lib.hid z2
  have Z1 := Lib.hid (Z1.out.below hb2)
  have B4 := Lib.hid (B4.out.below hb2)
  have HB2 := Lib.hid (bt HB1.out hb2)
  clear z2 s2 hb2
  go_wp2_with fail
  refine (zover_any _ _ p q w2 Z1.out Z2.out (by have := H2.out; omega)).mono ?_
  rintro e w3 ⟨v3, rfl, z3, hb3⟩
  have x3 : ZX w3 v3 x 5 := ⟨_, _, z3, by rw [qv_rn (by have := H2.out; omega)]; exact HX.out, by rw [rn_pos _ _ H2.out.1]; exact s10_small p (by have := H1.out; omega) (by have := H1.out; omega), by rw [rd_of_pos _ H2.out.1]; exact s10_small q (by have := H2.out; omega) (by have := H2.out; omega)⟩
  obtain ⟨d, D, m, e, d', D', m', e', rfl⟩ := x3.form
  have X3 := Lib.hid x3
  have B4 := Lib.hid (B4.out.below hb3)
  have HB3 := Lib.hid (bt HB2.out hb3)
  clear z3 x3 hb3
  go_wp2_with fail
  refine (xfrac_any X3.out (by omega)).mono ?_
  rintro e w4 ⟨v4, rfl, hf, hb4⟩
  have hv4 := hf.1 HF.out
  subst hv4
  have B5 := Lib.hid (B4.out.below hb4)
  have k4 := B5.out.cells
  have kf4 := B5.out.free
  simp only [cellsAre, Nat.zero_add, Nat.reduceAdd, and_true] at k4
  have HB4 := Lib.hid (bt HB3.out hb4)
  have HBF : Hid (∀ a b, Below w.heap.size w ((w4.setCell ⟨w.heap.size, 0, none⟩ a).setCell ⟨w.heap.size, 1, none⟩ b)) := fun a b => (HB4.out.setCell (Nat.le_refl _) a).setCell (Nat.le_refl _) b
  clear hf hb4
  go_wp2
  (try simp only [Exit.inBlock, Exit.then])
  refine bodyPost_ret (v := .tuple #[.agg #[.int .i64 x.num, .int .i64 (x.den : Int)], .int .i64 0]) (by simp [results, Try.results50, go_sem, k4]) rfl ?_
  exact ⟨_, rfl, rfl, HBF.out _ _⟩

theorem SmallR.sub {rs : List Rdg} (hs : SmallR rs) {a n : Nat} (h : a + n ≤ rs.length) : SmallR (subR rs a n) := fun k hk => by
  rw [subR_len h] at hk
  have := hs (a + k) (by omega)
  unfold tm ofs at this ⊢
  rw [subR_get hk]
  exact this
set_option maxHeartbeats 3200000 in
set_option maxRecDepth 100000 in
theorem lwithin_any (A : Option Addr) (n c : Nat) (rs : List Rdg) (a : Nat) (x : Rat) (mn md : Int) (w : World) (h : Rd w A n c (subR rs a n)) (hv : Vld rs) (hsm : SmallR rs) (hn1 : 1 ≤ n) (han : a + n ≤ rs.length) (hx : qv mn md = x) (hr1 : rngI mn) (hr2 : 0 < md) (hr3 : rngI md) (hx0 : 0 ≤ x) :
    Calls Try.prog 51 #[.slice A n c, .agg #[.int .i64 mn, .int .i64 md]] w (Ret (fun v _ => v = .bool (wiB rs x a (a + (n - 1)))) w) := by
  have hn := h.le
  have hc := h.cap
  have hn64 : n ≤ 64 := by have := hv.2.1; omega
  have H := Lib.hid h
  have HX0 := Lib.hid hx0
  by_cases h2 : n < 2
  · have g1 : decide ((n : Int) < 2) = true := by simp; omega
    have HT := Lib.hid (wiB_t (rs := rs) (M := x) (a := a) (b := a + (n - 1)) (Wi.two (by omega)))
    clear h hv han hx hsm hr1 hr2 hr3 hx0
    go_enter Try.func51, Try.ntmps51
    go_wp2
    go_returns
    exact ⟨_, rfl, by rw [HT.out]; rfl, by go_grown⟩
  · have g1 : decide ((n : Int) < 2) = false := by simp; omega
    have HV := Lib.hid (hv.sub han (by omega))
    have HSM := Lib.hid (hsm.sub han)
    have HWI := Lib.hid (wi_sub (rs := rs) (M := x) (a := a) hn1)
    have HLN : Hid ((subR rs a n).length = n) := subR_len han
    have HQM : Hid (∀ W, Calls Try.prog 39 #[.agg #[.int .i64 mn, .int .i64 md]] W (Ret (fun v w' => ZX w' v x 5) W)) := fun W => by
      have := xof_any mn md W hr1.1 hr1.2 hr2 hr3.2
      rw [hx] at this
      exact this
    clear h hv han hx hsm hr1 hr2 hr3 hx0
    go_enter Try.func51, Try.ntmps51
    go_wp2_with fail
    obtain ⟨W0, hW0⟩ : ∃ W0, W0 = w.alloc (.cells #[.int .i64 mn, .int .i64 md] TF) := ⟨_, rfl⟩
    have e3 : Blk W0 w.heap.size TF #[.int .i64 mn, .int .i64 md] := by rw [hW0]; exact Blk.new_ _ _ rfl
    have hb0 : Below w.heap.size w W0 := by rw [hW0]; go_grown
    rw [← hW0]
    clear hW0
    refine (rleast_any A n c _ W0 (H.out.below hb0)).mono ?_
    rintro e w1 ⟨v1, rfl, h1, hb1⟩
    obtain ⟨s, k, E, hi, f1, f2, f3, hv1⟩ := h1.ok HV.out HSM.out
    subst hv1
    have HI := Lib.hid hi
    have HVE := Lib.hid (vF_true (fit_vf f3))
    have RE := Lib.hid (fit_rng f3)
    have QE := Lib.hid (qv_self E)
    obtain ⟨sn, hsn⟩ : ∃ x, s.num = x := ⟨_, rfl⟩
    obtain ⟨sd, hsd⟩ : ∃ x : Int, (s.den : Int) = x := ⟨_, rfl⟩
    obtain ⟨kn, hkn⟩ : ∃ x, k.num = x := ⟨_, rfl⟩
    obtain ⟨kd, hkd⟩ : ∃ x : Int, (k.den : Int) = x := ⟨_, rfl⟩
    obtain ⟨en, hen⟩ : ∃ x, E.num = x := ⟨_, rfl⟩
    obtain ⟨ed, hed⟩ : ∃ x : Int, (E.den : Int) = x := ⟨_, rfl⟩
    rw [hsn, hsd, hkn, hkd, hen, hed]
    rw [hen, hed] at RE HVE QE
    have E3 := Lib.hid (e3.below hb1)
    have HB1 := Lib.hid (bt hb0 hb1)
    have HQE : Hid (∀ W, Calls Try.prog 39 #[.agg #[.int .i64 en, .int .i64 ed]] W (Ret (fun v w' => ZX w' v E 5) W)) := fun W => by
      have := xof_any en ed W RE.out.1.1 RE.out.1.2 RE.out.2.1 RE.out.2.2.2
      rw [QE.out] at this
      exact this
    have HVA : Hid (∀ W, Calls Try.prog 17 #[.agg #[.int .i64 en, .int .i64 ed]] W (Ret (fun v _ => v = .bool true) W)) := fun W => by
      have := zvalid_any en ed W RE.out.1.1 RE.out.1.2 RE.out.2.2.1 RE.out.2.2.2
      rw [HVE.out] at this
      exact this
    clear h1 hi f1 f2 f3 hsn hsd hkn hkd hen hed e3 hb0 hb1
    go_upto_region 4 with fail
    refine wp_world (fun W => Blk W (w1.heap.size + 1) TF #[.int .i64 en, .int .i64 ed] ∧ Below w1.heap.size w1 W) (by exact ⟨Blk.new_ _ _ (by simp), by go_grown⟩) ?_
    rintro W2 ⟨e6, hb2⟩
    have E6 := Lib.hid e6
    have E3 := Lib.hid (E3.out.below hb2)
    have HB2 := Lib.hid (bt HB1.out hb2)
    have k6 := fun w' (hh : Ext W2 w') => (E6.out.below hh).cells
    have k3 := fun w' (hh : Ext W2 w') => (E3.out.below hh).cells
    simp only [cellsAre, Nat.zero_add, Nat.reduceAdd, and_true] at k6 k3
    have hst : Ext W2 W2.drew := Ext.drew _
    clear e6 hb2
    refine wp_region_adv 10 [] [(0, true, some 17, none), (1, true, some 18, none), (2, true, some 19, none), (3, true, some 20, some (19, true)), (4, false, some 21, some (19, true)), (5, true, some 22, none), (6, true, some 23, none), (7, true, some 24, some (23, true)), (9, true, some 26, some (23, true)), (8, false, some 25, some (23, true))] (by kernel_rfl) (by kernel_rfl) (by kernel_rfl) (by intro it hit; (repeat (rcases List.mem_cons.1 hit with rfl | hit; (focus (intro o ho ev w; injection ho with ho; subst ho; kernel_rfl)))); cases hit) (fun _ _ _ _ _ => ⟨fun h => h, fun h => h⟩) hst ?_
    repeat (first | (refine wpSeq_pure (v := ?_) rfl ?_ ?_; rotate_left 1; (focus (intro wq_ hSq_; (try dsimp only at hSq_); go_simp; (try with_reducible rfl); done)); (try simp only [Act.put, List.setIfInBounds_toArray, List.set_cons_zero, List.set_cons_succ])) | (refine wpSeq_pureG (v := ?_) rfl rfl ?_ ?_; rotate_left 1; (focus (intro wq_ hSq_; (try dsimp only at hSq_); go_simp; (try with_reducible rfl); done)); (try simp only [Act.put, List.setIfInBounds_toArray, List.set_cons_zero, List.set_cons_succ])) | (refine wpSeq_off rfl rfl ?_; (try simp only [Act.put, List.setIfInBounds_toArray, List.set_cons_zero, List.set_cons_succ])))
    first | refine wpSeq_call rfl (fun u1 g1' s1 K hK => ?_) | refine wpSeq_callG rfl rfl (fun u1 g1' s1 K hK => ?_)
    go_simp
    refine (HVA.out u1).mono ?_
    rintro e y1 ⟨z1, rfl, rfl, b1'⟩
    (try go_wp2_with fail)
    refine hK.out _ _ b1' ?_
    clear hK K
    (try simp only [Act.put, List.setIfInBounds_toArray, List.set_cons_zero, List.set_cons_succ])
    repeat (first | (refine wpSeq_pure (v := ?_) rfl ?_ ?_; rotate_left 1; (focus (intro wq_ hSq_; (try dsimp only at hSq_); go_simp; (try with_reducible rfl); done)); (try simp only [Act.put, List.setIfInBounds_toArray, List.set_cons_zero, List.set_cons_succ])) | (refine wpSeq_pureG (v := ?_) rfl rfl ?_ ?_; rotate_left 1; (focus (intro wq_ hSq_; (try dsimp only at hSq_); go_simp; (try with_reducible rfl); done)); (try simp only [Act.put, List.setIfInBounds_toArray, List.set_cons_zero, List.set_cons_succ])) | (refine wpSeq_off rfl rfl ?_; (try simp only [Act.put, List.setIfInBounds_toArray, List.set_cons_zero, List.set_cons_succ])))
    first | refine wpSeq_call rfl (fun u2 g2' s2 K hK => ?_) | refine wpSeq_callG rfl rfl (fun u2 g2' s2 K hK => ?_)
    go_simp
    refine (HQE.out u2).mono ?_
    rintro e y2 ⟨z2, rfl, x2, b2'⟩
    obtain ⟨d2, D2, p2, e2, d2', D2', p2', e2', rfl⟩ := x2.form
    (try go_wp2_with fail)
    refine hK.out _ _ b2' ?_
    clear hK K
    (try simp only [Act.put, List.setIfInBounds_toArray, List.set_cons_zero, List.set_cons_succ])
    repeat (first | (refine wpSeq_pure (v := ?_) rfl ?_ ?_; rotate_left 1; (focus (intro wq_ hSq_; (try dsimp only at hSq_); go_simp; (try with_reducible rfl); done)); (try simp only [Act.put, List.setIfInBounds_toArray, List.set_cons_zero, List.set_cons_succ])) | (refine wpSeq_pureG (v := ?_) rfl rfl ?_ ?_; rotate_left 1; (focus (intro wq_ hSq_; (try dsimp only at hSq_); go_simp; (try with_reducible rfl); done)); (try simp only [Act.put, List.setIfInBounds_toArray, List.set_cons_zero, List.set_cons_succ])) | (refine wpSeq_off rfl rfl ?_; (try simp only [Act.put, List.setIfInBounds_toArray, List.set_cons_zero, List.set_cons_succ])))
    intro wz gz sz_
    (try simp only [endJ, List.drop_succ_cons, List.drop_zero])
    have X2 := Lib.hid (x2.below gz)
    have HZ := Lib.hid (show Ext W2 wz from sz_)
    have k3 := k3 _ sz_
    clear k6 hst g1' s1 b1' g2' s2 b2' x2 gz sz_
    go_wp2_with fail
    refine (HQM.out _).mono ?_
    rintro e w5 ⟨v5, rfl, x5, hb5⟩
    obtain ⟨d5, D5, p5, e5, d5', D5', p5', e5', rfl⟩ := x5.form
    have X5 := Lib.hid x5
    have X2 := Lib.hid (X2.out.below hb5)
    have HB5 := Lib.hid (bt HB2.out (bt HZ.out hb5))
    clear x5 hb5 k3
    go_wp2_with fail
    refine (xcmp_any X2.out X5.out (by omega)).mono ?_
    rintro e w6 ⟨v6, rfl, rfl, hb6⟩
    have HB6 := Lib.hid (bt HB5.out hb6)
    clear hb6
    have HT : Hid (E ≤ x ↔ Wi (tq rs) (yq rs) x a (a + (n - 1))) := by
      show _ ↔ _
      have := HI.out.tri HV.out.tq_mono HX0.out
      rw [HLN.out] at this
      exact this.trans HWI.out.symm
    by_cases hle : E ≤ x
    · have g2 := cmpR_leT hle
      have HW := Lib.hid (wiB_t (HT.out.1 hle))
      clear hle
      go_wp2
      go_returns
      exact ⟨_, rfl, by rw [HW.out]; rfl, HB6.out⟩
    · have g2 := cmpR_leF hle
      have HW := Lib.hid (wiB_f (fun h => hle (HT.out.2 h)))
      clear hle
      go_wp2
      go_returns
      exact ⟨_, rfl, by rw [HW.out]; rfl, HB6.out⟩
end Go.Proofs.Tb
