/- RateProof, the walk: Witnesses are three readings that prove Least's error. -/
import Derived.Test.YthcialpcefhnnaaWit2
import Derived.Test.YthcialpcefhnnaaLaw2
import Derived.Test.YthcialpcefhnnaaAdvE
set_option linter.unusedVariables false
set_option linter.unusedSimpArgs false
namespace Go.Proofs.Tb
open Go.RowKit
attribute [local go_sem] cell_set_same

theorem bcell {W w1 : World} (hb : Below W.heap.size W w1) : (∀ b o, b < W.heap.size → w1.cell? ⟨b, o, none⟩ = W.cell? ⟨b, o, none⟩) ∧ (∀ b o, b < W.heap.size → w1.frozen? ⟨b, o, none⟩ = W.frozen? ⟨b, o, none⟩) :=
  ⟨fun b o h => hb.cell (p := ⟨b, o, none⟩) h, fun b o h => hb.frozen (p := ⟨b, o, none⟩) h⟩
theorem rd3 {w : World} {g : Nat} {T : TypeId} {rs : List Rdg} {a b c : Nat} (h : Blk w g T #[.int .i64 (tm rs a), .int .i64 (ofs rs a), .int .i64 (tm rs b), .int .i64 (ofs rs b), .int .i64 (tm rs c), .int .i64 (ofs rs c)])
    (hr : ∀ x, x ∈ sub3 rs a b c → rngI x.1 ∧ rngI x.2) : Rd w (some ⟨g, 0, none⟩) 3 3 (sub3 rs a b c) := by
  have k := h.cells
  simp only [cellsAre, Nat.zero_add, Nat.reduceAdd, and_true] at k
  refine ⟨rfl, Nat.le_refl _, by omega, fun _ => ⟨g, 0, rfl, fun j hj => ?_⟩, fun x hx => ⟨(hr x hx).1.1, (hr x hx).1.2, (hr x hx).2.1, (hr x hx).2.2⟩⟩
  have : j = 0 ∨ j = 1 ∨ j = 2 := by omega
  rcases this with rfl | rfl | rfl
  · exact ⟨k.1, k.2.1⟩
  · exact ⟨k.2.2.1, k.2.2.2.1⟩
  · exact ⟨k.2.2.2.2.1, k.2.2.2.2.2⟩

section
variable {w : World} {o o' : Obj} {T : TypeId} {cs : Array Value}
theorem blk0 : Blk (w.alloc (.cells cs T)) w.heap.size T cs := Blk.new_ _ _ rfl
theorem blk1 : Blk ((w.alloc o).alloc (.cells cs T)) (w.heap.size + 1) T cs := Blk.new_ _ _ (by simp)
theorem blk2 : Blk (((w.alloc o).alloc o').alloc (.cells cs T)) (w.heap.size + 1 + 1) T cs := Blk.new_ _ _ (by simp)
theorem blk01 : Blk ((w.alloc (.cells cs T)).alloc o) w.heap.size T cs := blk0.alloc _
theorem blk02 : Blk (((w.alloc (.cells cs T)).alloc o).alloc o') w.heap.size T cs := blk01.alloc _
theorem blk12 : Blk (((w.alloc o).alloc (.cells cs T)).alloc o') (w.heap.size + 1) T cs := blk1.alloc _
end
set_option maxHeartbeats 12800000 in
set_option maxRecDepth 100000 in
theorem proof_any (A : Option Addr) (n c : Nat) (xs : List Rdg) (w : World) (h : Rd w A n c xs) :
    Calls Try.prog 3 #[.slice A n c] w (Ret (fun v _ => v = .bool true) w) := by
  have H := Lib.hid h
  clear h
  go_enter Try.func3, Try.ntmps3
  go_wp2_with fail
  refine (tame_any A n c xs 40 w H.out (by omega)).mono ?_
  rintro e w1 ⟨v1, rfl, ⟨rs, htm, A1, c1, rfl, hrd⟩, hb1⟩
  have HV := Lib.hid (htm.vld (by omega))
  have HSM := Lib.hid (htm.small (by omega))
  obtain ⟨m, hm⟩ : ∃ m, rs.length = m := ⟨_, rfl⟩
  have hm64 : m ≤ 64 := by have := htm.2.1; omega
  have hc1 := hrd.cap
  have hm1 := hrd.le
  have HRNG := Lib.hid (hrd.rngI)
  have HR1 := Lib.hid hrd
  rw [hm] at HR1 hm1 ⊢
  have HM := Lib.hid hm
  have HB1 := Lib.hid hb1
  clear htm hrd hb1 hm
  go_wp2_with fail
  refine (rleast_any A1 m c1 rs _ HR1.out).mono ?_
  rintro e w2 ⟨v2, rfl, h2, hb2⟩
  obtain ⟨s, h, E, hi, f1, f2, f3, hv2⟩ := h2.ok HV.out HSM.out
  subst hv2
  have HI := Lib.hid hi
  have HB2 := Lib.hid hb2
  have HVS := Lib.hid (vF_true (fit_vf f1))
  have HVH := Lib.hid (vF_true (fit_vf f2))
  have HVE := Lib.hid (vF_true (fit_vf f3))
  have RS := Lib.hid (fit_rng f1)
  have RH := Lib.hid (fit_rng f2)
  have RE := Lib.hid (fit_rng f3)
  have QS := Lib.hid (qv_self s)
  have QH := Lib.hid (qv_self h)
  have QE := Lib.hid (qv_self E)
  have HE0 : Hid (E = 0 ↔ E.num = 0) := show E = 0 ↔ E.num = 0 from Rat.num_eq_zero.symm
  have HAT : Hid (∀ (a b c : Nat) (off run : Int) v w', Gr rs a b c off run → off ≠ 0 → LeastR (sub3 rs a b c) v w' → v = .tuple #[.agg #[.int .i64 s.num, .int .i64 (s.den : Int), .int .i64 h.num, .int .i64 (h.den : Int)], .agg #[.int .i64 E.num, .int .i64 (E.den : Int)], .int .i64 0]) := fun a b c off run v w' hg ho hl => by
    obtain ⟨⟨l1, l2, l3⟩, g, hg0, hE, ea, eb, ec⟩ := hg.least HV.out ho HI.out
    exact hl.at (HV.out.sub3 l1 l2 l3) (HSM.out.sub3 l1 l2 l3) (HI.out.sub3 l1 l2 l3 hE ea eb ec)
  obtain ⟨sn, hsn⟩ : ∃ x, s.num = x := ⟨_, rfl⟩
  obtain ⟨sd, hsd⟩ : ∃ x : Int, (s.den : Int) = x := ⟨_, rfl⟩
  obtain ⟨hn', hhn⟩ : ∃ x, h.num = x := ⟨_, rfl⟩
  obtain ⟨hd', hhd⟩ : ∃ x : Int, (h.den : Int) = x := ⟨_, rfl⟩
  obtain ⟨en, hen⟩ : ∃ x, E.num = x := ⟨_, rfl⟩
  obtain ⟨ed, hed⟩ : ∃ x : Int, (E.den : Int) = x := ⟨_, rfl⟩
  rw [hsn, hsd, hhn, hhd, hen, hed] at HAT ⊢
  rw [hsn, hsd] at RS HVS QS
  rw [hhn, hhd] at RH HVH QH
  rw [hen, hed] at RE HVE QE
  rw [hen] at HE0
  clear h2 hi hb2 hsn hsd hhn hhd hen hed f1 f2 f3
  go_wp2_with fail
  obtain ⟨W3, hW3⟩ : ∃ W0, W0 = (w2.alloc (.cells #[.int .i64 sn, .int .i64 sd, .int .i64 hn', .int .i64 hd'] TAL)).alloc (.cells #[.int .i64 en, .int .i64 ed] TF) := ⟨_, rfl⟩
  have b4 : Blk W3 w2.heap.size TAL #[.int .i64 sn, .int .i64 sd, .int .i64 hn', .int .i64 hd'] := by rw [hW3]; exact (Blk.new_ _ _ rfl).alloc _
  have b5 : Blk W3 (w2.heap.size + 1) TF #[.int .i64 en, .int .i64 ed] := by rw [hW3]; exact Blk.new_ _ _ (by simp)
  have hb3 : Below w2.heap.size w2 W3 := by rw [hW3]; go_grown
  rw [← hW3]
  clear hW3
  refine (rwit_any A1 m c1 rs W3 (HR1.out.below (bt HB2.out hb3))).mono ?_
  rintro e w4 ⟨v4, rfl, h4, hb4⟩
  obtain ⟨a, b, c', off, run, hg, hz, hnz⟩ := h4.2 HV.out
  have HG := Lib.hid hg
  have B4 := Lib.hid (b4.below hb4)
  have B5 := Lib.hid (b5.below hb4)
  have HB4 := Lib.hid (bt HB2.out (bt hb3 hb4))
  clear h4 hg b4 b5 hb3 hb4
  by_cases ho : off = 0
  · have hv4 := hz ho
    subst hv4
    subst ho
    have he0 := HE0.out.1 (HG.out.flat HV.out HI.out)
    subst he0
    clear hz hnz
    have k5 := B5.out.cells
    simp only [cellsAre, Nat.zero_add, Nat.reduceAdd, and_true] at k5
    go_wp2_with fail
    refine (zvalid_any _ ed _ RE.out.1.1 RE.out.1.2 RE.out.2.2.1 RE.out.2.2.2).mono ?_
    rintro e w5 ⟨v5, rfl, hv5, hb5⟩
    rw [HVE.out] at hv5
    subst hv5
    clear k5
    have k4 := zcells (B4.out.below hb5)
    go_wp2_with fail
    refine (zvalid_any sn sd _ RS.out.1.1 RS.out.1.2 RS.out.2.2.1 RS.out.2.2.2).mono ?_
    rintro e w6 ⟨v6, rfl, hv6, hb6⟩
    rw [HVS.out] at hv6
    subst hv6
    have k4 := zcells ((B4.out.below hb5).below hb6)
    go_wp2_with fail
    refine (zvalid_any hn' hd' _ RH.out.1.1 RH.out.1.2 RH.out.2.2.1 RH.out.2.2.2).mono ?_
    rintro e w7 ⟨v7, rfl, hv7, hb7⟩
    rw [HVH.out] at hv7
    subst hv7
    clear k4
    go_wp2_with fail
    refine (lives_any _).mono ?_
    rintro e w8 ⟨v8, rfl, hv8, hb8⟩
    subst hv8
    have HB8 := Lib.hid (show Ext w4 w8 from bt hb5 (bt hb6 (bt hb7 hb8)))
    clear hb5 hb6 hb7 hb8
    have k5 := (B5.out.below HB8.out).cells
    simp only [cellsAre, Nat.zero_add, Nat.reduceAdd, and_true] at k5
    go_wp2
    go_returns
    exact ⟨_, rfl, rfl, bt HB1.out (bt HB4.out HB8.out)⟩
  · obtain ⟨A3, cc, hv4, hil⟩ := hnz ho
    subst hv4
    have HAL := Lib.hid (HG.out.alt HV.out ho HI.out)
    have hen0 : en ≠ 0 := fun h0 => by
      have h1 := HE0.out.2 h0
      have h2 := HAL.out.2
      rw [h1] at h2
      exact alt_zero h2
    have g1 : (en == 0) = false := by simpa using hen0
    have HO := Lib.hid ho
    have HIL := Lib.hid hil
    have hcc := hil.cap
    have hcc2 := hil.le
    clear hz hnz ho hil hen0
    have k5 := B5.out.cells
    simp only [cellsAre, Nat.zero_add, Nat.reduceAdd, and_true] at k5
    go_wp2_with fail
    refine (zvalid_any _ ed _ RE.out.1.1 RE.out.1.2 RE.out.2.2.1 RE.out.2.2.2).mono ?_
    rintro e w5 ⟨v5, rfl, hv5, hb5⟩
    rw [HVE.out] at hv5
    subst hv5
    clear k5
    have k4 := zcells (B4.out.below hb5)
    go_wp2_with fail
    refine (zvalid_any sn sd _ RS.out.1.1 RS.out.1.2 RS.out.2.2.1 RS.out.2.2.2).mono ?_
    rintro e w6 ⟨v6, rfl, hv6, hb6⟩
    rw [HVS.out] at hv6
    subst hv6
    have k4 := zcells ((B4.out.below hb5).below hb6)
    go_wp2_with fail
    refine (zvalid_any hn' hd' _ RH.out.1.1 RH.out.1.2 RH.out.2.2.1 RH.out.2.2.2).mono ?_
    rintro e w7 ⟨v7, rfl, hv7, hb7⟩
    rw [HVH.out] at hv7
    subst hv7
    clear k4
    go_wp2_with fail
    refine (lives_any _).mono ?_
    rintro e w8 ⟨v8, rfl, hv8, hb8⟩
    subst hv8
    have HB8 := Lib.hid (show Ext w4 w8 from bt hb5 (bt hb6 (bt hb7 hb8)))
    clear hb5 hb6 hb7 hb8
    have HLO : Hid (∀ W, Calls Try.prog 10 #[.agg #[.int .i64 sn, .int .i64 sd, .int .i64 hn', .int .i64 hd']] W (Ret (fun v w' => ZL w' v s h 5) W)) := fun W => by
      have := zlof_any sn sd hn' hd' W RS.out.1 ⟨RS.out.2.1, RS.out.2.2.2⟩ RH.out.1 ⟨RH.out.2.1, RH.out.2.2.2⟩
      rw [QS.out, QH.out] at this
      exact this
    have HQO : Hid (∀ W, Calls Try.prog 11 #[.agg #[.int .i64 en, .int .i64 ed]] W (Ret (fun v w' => ZX w' v E 5) W)) := fun W => by
      have := xof_any en ed W RE.out.1.1 RE.out.1.2 RE.out.2.1 RE.out.2.2.2
      rw [QE.out] at this
      exact this
    have K5 := Lib.hid (B5.out.below HB8.out)
    have k5 := fun w' (hh : Ext w8 w') => (K5.out.below hh).cells
    have k5' := k5 w8 (Ext.refl _)
    have k4 := cells4 (B4.out.below HB8.out)
    simp only [cellsAre, Nat.zero_add, Nat.reduceAdd, and_true] at k5 k5'
    have hst : Ext w8 w8.drew := Ext.drew _
    go_upto_region 8 with fail
    refine wp_region_adv 6 [] [(0, true, some 58, none), (1, true, some 59, none), (3, true, some 61, none), (5, true, some 63, none), (2, false, some 60, none), (4, false, some 62, none)] (by kernel_rfl) (by kernel_rfl) (by kernel_rfl) (by intro it hit; (repeat (rcases List.mem_cons.1 hit with rfl | hit; (focus (intro o ho ev w; injection ho with ho; subst ho; kernel_rfl)))); cases hit) (fun _ _ _ _ _ => ⟨fun h => h, fun h => h⟩) hst ?_
    repeat (first | (refine wpSeq_pure (v := ?_) rfl ?_ ?_; rotate_left 1; (focus (intro wq_ hSq_; (try dsimp only at hSq_); go_simp; (try with_reducible rfl); done)); (try simp only [Act.put, List.setIfInBounds_toArray, List.set_cons_zero, List.set_cons_succ])) | (refine wpSeq_pureG (v := ?_) rfl rfl ?_ ?_; rotate_left 1; (focus (intro wq_ hSq_; (try dsimp only at hSq_); go_simp; (try with_reducible rfl); done)); (try simp only [Act.put, List.setIfInBounds_toArray, List.set_cons_zero, List.set_cons_succ])) | (refine wpSeq_off rfl rfl ?_; (try simp only [Act.put, List.setIfInBounds_toArray, List.set_cons_zero, List.set_cons_succ])) | (refine wpSeq_offU rfl ?_; (try simp only [Act.put, List.setIfInBounds_toArray, List.set_cons_zero, List.set_cons_succ])))
    first | refine wpSeq_call rfl (fun u1 g1' s1 K hK => ?_) | refine wpSeq_callG rfl rfl (fun u1 g1' s1 K hK => ?_)
    go_simp
    refine (HLO.out u1).mono ?_
    rintro e q1 ⟨z1, rfl, x1, b1'⟩
    obtain ⟨o0, O0, a0, i0, o1, O1, a1, i1, o2, O2, a2, i2, o3, O3, a3, i3, rfl, zl1, zl2⟩ := x1
    have x1 : ZL q1 (.agg #[.bool o0, .slice O0 a0 i0, .bool o1, .slice O1 a1 i1, .bool o2, .slice O2 a2 i2, .bool o3, .slice O3 a3 i3]) s h 5 := ⟨_, _, _, _, _, _, _, _, _, _, _, _, _, _, _, _, rfl, zl1, zl2⟩
    clear zl1 zl2
    (try go_wp2_with fail)
    refine hK.out _ _ b1' ?_
    clear hK K
    (try simp only [Act.put, List.setIfInBounds_toArray, List.set_cons_zero, List.set_cons_succ])
    repeat (first | (refine wpSeq_pure (v := ?_) rfl ?_ ?_; rotate_left 1; (focus (intro wq_ hSq_; (try dsimp only at hSq_); go_simp; (try with_reducible rfl); done)); (try simp only [Act.put, List.setIfInBounds_toArray, List.set_cons_zero, List.set_cons_succ])) | (refine wpSeq_pureG (v := ?_) rfl rfl ?_ ?_; rotate_left 1; (focus (intro wq_ hSq_; (try dsimp only at hSq_); go_simp; (try with_reducible rfl); done)); (try simp only [Act.put, List.setIfInBounds_toArray, List.set_cons_zero, List.set_cons_succ])) | (refine wpSeq_off rfl rfl ?_; (try simp only [Act.put, List.setIfInBounds_toArray, List.set_cons_zero, List.set_cons_succ])) | (refine wpSeq_offU rfl ?_; (try simp only [Act.put, List.setIfInBounds_toArray, List.set_cons_zero, List.set_cons_succ])))
    first | refine wpSeq_call rfl (fun u2 g2' s2 K hK => ?_) | refine wpSeq_callG rfl rfl (fun u2 g2' s2 K hK => ?_)
    go_simp
    refine (HQO.out u2).mono ?_
    rintro e q2 ⟨z2, rfl, x2, b2'⟩
    obtain ⟨d3, D3, n3, c3, d3', D3', n3', c3', rfl⟩ := x2.form
    (try go_wp2_with fail)
    refine hK.out _ _ b2' ?_
    clear hK K
    (try simp only [Act.put, List.setIfInBounds_toArray, List.set_cons_zero, List.set_cons_succ])
    repeat (first | (refine wpSeq_pure (v := ?_) rfl ?_ ?_; rotate_left 1; (focus (intro wq_ hSq_; (try dsimp only at hSq_); go_simp; (try with_reducible rfl); done)); (try simp only [Act.put, List.setIfInBounds_toArray, List.set_cons_zero, List.set_cons_succ])) | (refine wpSeq_pureG (v := ?_) rfl rfl ?_ ?_; rotate_left 1; (focus (intro wq_ hSq_; (try dsimp only at hSq_); go_simp; (try with_reducible rfl); done)); (try simp only [Act.put, List.setIfInBounds_toArray, List.set_cons_zero, List.set_cons_succ])) | (refine wpSeq_off rfl rfl ?_; (try simp only [Act.put, List.setIfInBounds_toArray, List.set_cons_zero, List.set_cons_succ])) | (refine wpSeq_offU rfl ?_; (try simp only [Act.put, List.setIfInBounds_toArray, List.set_cons_zero, List.set_cons_succ])))
    intro wz gz sz_
    (try simp only [endJ, List.drop_succ_cons, List.drop_zero])
    have X1 := (((x1.below g2').below b2').below gz)
    have X2 := x2.below gz
    have SZ := Lib.hid sz_
    clear x1 x2 b1' b2' g1' g2' s1 s2 hst gz sz_ k4 k5 k5'
    go_wp2_with fail
    refine (zalt_any A1 m c1 rs _ _ s h E 5 A3 cc a b c' wz (HR1.out.below (bt HB4.out (bt HB8.out SZ.out))) X1 X2 (by omega) (HIL.out.below (bt HB8.out SZ.out)) HAL.out.1.1 HAL.out.1.2.1 (by have := HAL.out.1.2.2; have := HM.out; omega) hm64).mono ?_
    rintro e w9 ⟨v9, rfl, hv9, hb9⟩
    rw [altB_t HAL.out.2] at hv9
    subst hv9
    have HB9 := Lib.hid (show Ext w4 w9 from bt HB8.out (bt SZ.out hb9))
    have HR9 := Lib.hid (HR1.out.below (bt HB4.out HB9.out))
    have HI9 := Lib.hid (HIL.out.below HB9.out)
    have K5 := Lib.hid (B5.out.below HB9.out)
    clear hb9 X1 X2 SZ
    obtain ⟨⟨l1, l2, l3⟩, _⟩ := HAL.out
    have LT := Lib.hid (show a < m ∧ b < m ∧ c' < m by have := HM.out; omega)
    obtain ⟨b1, o1, rfl, hc1'⟩ := HR9.out.at_ (by have := LT.out; omega)
    obtain ⟨b3, o3, rfl, hc3⟩ := HI9.out.at_ (by omega)
    have HRD : Hid (∀ W g, Blk W g TRD #[.int .i64 (tm rs a), .int .i64 (ofs rs a), .int .i64 (tm rs b), .int .i64 (ofs rs b), .int .i64 (tm rs c'), .int .i64 (ofs rs c')] → Rd W (some ⟨g, 0, none⟩) 3 3 (sub3 rs a b c')) := fun W g hb => rd3 hb (fun x hx => by
      have hm' : ∀ i, i < m → rngI (rs.getD i (0, 0)).1 ∧ rngI (rs.getD i (0, 0)).2 := fun i hi' => by
        have hl : i < rs.length := by have := HM.out; omega
        have e : rs.getD i (0, 0) = rs[i] := by simp [List.getD, hl]
        rw [e]; exact HRNG.out _ (List.getElem_mem hl)
      simp only [sub3, List.mem_cons, List.not_mem_nil, or_false] at hx
      rcases hx with rfl | rfl | rfl
      · exact hm' a LT.out.1
      · exact hm' b LT.out.2.1
      · exact hm' c' LT.out.2.2)
    have HL3 := Lib.hid (fun v w' (hl : LeastR (sub3 rs a b c') v w') => HAT.out a b c' off run v w' HG.out HO.out hl)
    have pA : (a : Int) < (m : Int) := by have := LT.out; omega
    have pB : (b : Int) < (m : Int) := by have := LT.out; omega
    have pC : (c' : Int) < (m : Int) := by have := LT.out; omega
    have ki := fun w' (hh : Ext w9 w') => (show w'.cell? ⟨b3, o3, none⟩ = some (.int .i64 (a : Int)) ∧ w'.cell? ⟨b3, o3 + 1, none⟩ = some (.int .i64 (b : Int)) ∧ w'.cell? ⟨b3, o3 + 2, none⟩ = some (.int .i64 (c' : Int)) from ⟨Ext.cell hh (hc3 0 (by omega)), Ext.cell hh (hc3 1 (by omega)), Ext.cell hh (hc3 2 (by omega))⟩)
    have kr := fun w' (hh : Ext w9 w') => (show (w'.cell? ⟨b1, o1 + a * 2, none⟩ = some (.int .i64 (tm rs a)) ∧ w'.cell? ⟨b1, o1 + a * 2 + 1, none⟩ = some (.int .i64 (ofs rs a))) ∧ (w'.cell? ⟨b1, o1 + b * 2, none⟩ = some (.int .i64 (tm rs b)) ∧ w'.cell? ⟨b1, o1 + b * 2 + 1, none⟩ = some (.int .i64 (ofs rs b))) ∧ (w'.cell? ⟨b1, o1 + c' * 2, none⟩ = some (.int .i64 (tm rs c')) ∧ w'.cell? ⟨b1, o1 + c' * 2 + 1, none⟩ = some (.int .i64 (ofs rs c'))) from
      ⟨⟨Ext.cell hh (hc1' a LT.out.1).1, Ext.cell hh (hc1' a LT.out.1).2⟩, ⟨Ext.cell hh (hc1' b LT.out.2.1).1, Ext.cell hh (hc1' b LT.out.2.1).2⟩, ⟨Ext.cell hh (hc1' c' LT.out.2.2).1, Ext.cell hh (hc1' c' LT.out.2.2).2⟩⟩)
    have k5 := fun w' (hh : Ext w9 w') => (K5.out.below hh).cells
    simp only [cellsAre, Nat.zero_add, Nat.reduceAdd, and_true] at k5
    obtain ⟨ta, hta⟩ : ∃ x, tm rs a = x := ⟨_, rfl⟩
    obtain ⟨ya, hya⟩ : ∃ x, ofs rs a = x := ⟨_, rfl⟩
    obtain ⟨tb, htb⟩ : ∃ x, tm rs b = x := ⟨_, rfl⟩
    obtain ⟨yb, hyb⟩ : ∃ x, ofs rs b = x := ⟨_, rfl⟩
    obtain ⟨tc, htc⟩ : ∃ x, tm rs c' = x := ⟨_, rfl⟩
    obtain ⟨yc, hyc⟩ : ∃ x, ofs rs c' = x := ⟨_, rfl⟩
    rw [hta, hya, htb, hyb, htc, hyc] at kr HRD
    have hst : Ext w9 w9.drew := Ext.drew _
    clear hta hya htb hyb htc hyc hc1' hc3 l1 l2 l3
    go_upto_region 10 with fail
    refine wp_region_advE [(26, 22), (26, 23), (27, 23)] 26 [⟨24, 9, TAL, #[.int .i64 0, .int .i64 0, .int .i64 0, .int .i64 0]⟩, ⟨25, 10, TF, #[.int .i64 0, .int .i64 0]⟩] [(0, true, some 67, none), (1, true, some 68, none), (2, true, some 69, none), (3, true, some 70, none), (4, true, some 71, none), (5, true, some 72, none), (6, true, some 73, none), (7, true, some 74, none), (8, true, some 75, none), (9, true, some 76, none), (10, true, some 77, none), (11, true, some 78, none), (12, true, some 79, none), (13, true, some 80, none), (14, true, some 81, none), (15, true, some 82, none), (16, true, some 83, none), (17, true, some 84, none), (18, false, some 85, none), (19, false, some 86, none), (20, true, some 66, none), (21, true, some 87, none), (22, true, some 88, none), (23, true, some 89, none)] (by kernel_rfl) (by kernel_rfl) (by kernel_rfl) (by kernel_rfl) (by intro it hit; (repeat (rcases List.mem_cons.1 hit with rfl | hit; (focus (intro o ho ev w; injection ho with ho; subst ho; kernel_rfl)))); cases hit) (fun _ _ _ _ _ => ⟨fun h => h, fun h => h⟩) hst ?_
    simp only [addEL, List.filter_cons, List.filter_nil, List.map_cons, List.map_nil, Nat.reduceAdd, Nat.reduceBEq, if_true, if_false, Bool.false_eq_true]
    repeat (first | (refine wpSeq_pure (v := ?_) rfl ?_ ?_; rotate_left 1; (focus (intro wq_ hSq_; (try dsimp only at hSq_); go_simp; (try with_reducible rfl); done)); (try simp only [Act.put, List.setIfInBounds_toArray, List.set_cons_zero, List.set_cons_succ])) | (refine wpSeq_pureG (v := ?_) rfl rfl ?_ ?_; rotate_left 1; (focus (intro wq_ hSq_; (try dsimp only at hSq_); go_simp; (try with_reducible rfl); done)); (try simp only [Act.put, List.setIfInBounds_toArray, List.set_cons_zero, List.set_cons_succ])) | (refine wpSeq_off rfl rfl ?_; (try simp only [Act.put, List.setIfInBounds_toArray, List.set_cons_zero, List.set_cons_succ])) | (refine wpSeq_offU rfl ?_; (try simp only [Act.put, List.setIfInBounds_toArray, List.set_cons_zero, List.set_cons_succ])))
    first | refine wpSeq_call rfl (fun u1 g1' s1 K hK => ?_) | refine wpSeq_callG rfl rfl (fun u1 g1' s1 K hK => ?_)
    go_simp
    (try go_wp2_with fail)
    refine hK.out _ _ (Ext.allocR _ _) ?_
    clear hK K
    (try simp only [Act.put, List.setIfInBounds_toArray, List.set_cons_zero, List.set_cons_succ])
    repeat (first | (refine wpSeq_pure (v := ?_) rfl ?_ ?_; rotate_left 1; (focus (intro wq_ hSq_; (try dsimp only at hSq_); go_simp; (try with_reducible rfl); done)); (try simp only [Act.put, List.setIfInBounds_toArray, List.set_cons_zero, List.set_cons_succ])) | (refine wpSeq_pureG (v := ?_) rfl rfl ?_ ?_; rotate_left 1; (focus (intro wq_ hSq_; (try dsimp only at hSq_); go_simp; (try with_reducible rfl); done)); (try simp only [Act.put, List.setIfInBounds_toArray, List.set_cons_zero, List.set_cons_succ])) | (refine wpSeq_off rfl rfl ?_; (try simp only [Act.put, List.setIfInBounds_toArray, List.set_cons_zero, List.set_cons_succ])) | (refine wpSeq_offU rfl ?_; (try simp only [Act.put, List.setIfInBounds_toArray, List.set_cons_zero, List.set_cons_succ])))
    first | refine wpSeq_call rfl (fun u2 g2' s2 K hK => ?_) | refine wpSeq_callG rfl rfl (fun u2 g2' s2 K hK => ?_)
    go_simp
    refine (rleast_any _ 3 3 (sub3 rs a b c') u2 (HRD.out _ _ ((Blk.new_ _ _ rfl).below g2'))).mono ?_
    rintro e y2 ⟨z2, rfl, hl2, b2'⟩
    have hz2 := HL3.out _ _ hl2
    subst hz2
    clear hl2
    (try go_wp2_with fail)
    refine hK.out _ _ b2' ?_
    clear hK K
    (try simp only [Act.put, List.setIfInBounds_toArray, List.set_cons_zero, List.set_cons_succ])
    repeat (first | (refine wpSeq_pure (v := ?_) rfl ?_ ?_; rotate_left 1; (focus (intro wq_ hSq_; (try dsimp only at hSq_); go_simp; (try with_reducible rfl); done)); (try simp only [Act.put, List.setIfInBounds_toArray, List.set_cons_zero, List.set_cons_succ])) | (refine wpSeq_pureG (v := ?_) rfl rfl ?_ ?_; rotate_left 1; (focus (intro wq_ hSq_; (try dsimp only at hSq_); go_simp; (try with_reducible rfl); done)); (try simp only [Act.put, List.setIfInBounds_toArray, List.set_cons_zero, List.set_cons_succ])) | (refine wpSeq_off rfl rfl ?_; (try simp only [Act.put, List.setIfInBounds_toArray, List.set_cons_zero, List.set_cons_succ])) | (refine wpSeq_offU rfl ?_; (try simp only [Act.put, List.setIfInBounds_toArray, List.set_cons_zero, List.set_cons_succ])))
    intro wz gz sz_
    (try simp only [endJ, List.drop_succ_cons, List.drop_zero])
    intro R1 hr1 hu1 hB1 R2 hr2 hu2 hB2
    (try simp only [endJ, Act.put, ptr, List.setIfInBounds_toArray, List.set_cons_zero, List.set_cons_succ])
    have HZ := Lib.hid (show Ext w9 wz from sz_)
    have hlt5 := K5.out.lt
    have hne : R1 ≠ R2 := by simp at hu2; omega
    have hne' := hne.symm
    have h51 : w2.heap.size + 1 ≠ R1 := by omega
    have h52 : w2.heap.size + 1 ≠ R2 := by omega
    have h51' := h51.symm
    have h52' := h52.symm
    have k1 := zcells hB1
    have kf1 := hB1.free
    have k2 := hB2.cells
    have kf2 := hB2.free
    have kk5 := (K5.out.below HZ.out).cells
    simp only [cellsAre, Nat.zero_add, Nat.reduceAdd, and_true] at k2 kk5
    have HBF : Hid (∀ x0 x1 x2 x3 y0 y1, Ext w9 ((((((wz.setCell ⟨R1, 0, none⟩ x0).setCell ⟨R1, 1, none⟩ x1).setCell ⟨R1, 2, none⟩ x2).setCell ⟨R1, 3, none⟩ x3).setCell ⟨R2, 0, none⟩ y0).setCell ⟨R2, 1, none⟩ y1)) := fun x0 x1 x2 x3 y0 y1 => (((((HZ.out.set_ hr1 x0).set_ hr1 x1).set_ hr1 x2).set_ hr1 x3).set_ hr2 y0).set_ hr2 y1
    clear hst g1' s1 g2' s2 b2' gz sz_ hr1 hr2 hu1 hu2 hB1 hB2 ki kr k5 hlt5
    go_wp2
    go_returns
    exact ⟨_, rfl, rfl, bt HB1.out (bt HB4.out (bt HB9.out (HBF.out _ _ _ _ _ _)))⟩
end Go.Proofs.Tb
