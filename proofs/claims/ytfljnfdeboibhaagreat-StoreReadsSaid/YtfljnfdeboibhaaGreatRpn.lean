/- The reference: contract of Diff. -/
import Derived.Test.YtfljnfdeboibhaaGreatRpm
set_option linter.unusedVariables false
set_option linter.unusedSimpArgs false
namespace Go.Proofs.Tb
open Go.Maps Go.RowKit Go.Lib
attribute [local go_sem] cell_set_same neqMapL binOp_string_geq'

section
variable {a b : List Pr} {i k : Nat}
theorem mG0 (hi : i < a.length) (hk : k = b.length) : mrg (a.drop i) (b.drop k) = ⟨(a[i]).1, ByteArray.empty, true⟩ :: mrg (a.drop (i + 1)) (b.drop k) := by
  rw [List.drop_eq_getElem_cons hi, List.drop_of_length_le (by omega : b.length ≤ k)]
  conv => lhs; rw [mrg]
theorem mN0 (hi : i = a.length) (hk : k < b.length) : mrg (a.drop i) (b.drop k) = ⟨(b[k]).1, (b[k]).2, false⟩ :: mrg (a.drop i) (b.drop (k + 1)) := by
  rw [List.drop_eq_getElem_cons hk, List.drop_of_length_le (by omega : a.length ≤ i)]
  conv => lhs; rw [mrg]
theorem mG1 (hi : i < a.length) (hk : k < b.length) (h : sl (a[i]).1 (b[k]).1 = true) : mrg (a.drop i) (b.drop k) = ⟨(a[i]).1, ByteArray.empty, true⟩ :: mrg (a.drop (i + 1)) (b.drop k) := by
  rw [List.drop_eq_getElem_cons hi, List.drop_eq_getElem_cons hk]
  conv => lhs; rw [mrg]
  rw [if_pos h]
theorem mN1 (hi : i < a.length) (hk : k < b.length) (h : sl (b[k]).1 (a[i]).1 = true) : mrg (a.drop i) (b.drop k) = ⟨(b[k]).1, (b[k]).2, false⟩ :: mrg (a.drop i) (b.drop (k + 1)) := by
  rw [List.drop_eq_getElem_cons hi, List.drop_eq_getElem_cons hk]
  conv => lhs; rw [mrg]
  rw [if_neg (by rw [sl_asymm h]; exact Bool.false_ne_true), if_pos h]
theorem mS (hi : i < a.length) (hk : k < b.length) (h : (a[i]).1 = (b[k]).1) (hv : (a[i]).2 = (b[k]).2) : mrg (a.drop i) (b.drop k) = mrg (a.drop (i + 1)) (b.drop (k + 1)) := by
  rw [List.drop_eq_getElem_cons hi, List.drop_eq_getElem_cons hk]
  conv => lhs; rw [mrg]
  rw [h, if_neg (by rw [sl_irrefl]; exact Bool.false_ne_true), if_neg (by rw [sl_irrefl]; exact Bool.false_ne_true), if_pos hv]
theorem mC (hi : i < a.length) (hk : k < b.length) (h : (a[i]).1 = (b[k]).1) (hv : (a[i]).2 ≠ (b[k]).2) : mrg (a.drop i) (b.drop k) = ⟨(b[k]).1, (b[k]).2, false⟩ :: mrg (a.drop (i + 1)) (b.drop (k + 1)) := by
  rw [List.drop_eq_getElem_cons hi, List.drop_eq_getElem_cons hk]
  conv => lhs; rw [mrg]
  rw [h, if_neg (by rw [sl_irrefl]; exact Bool.false_ne_true), if_neg (by rw [sl_irrefl]; exact Bool.false_ne_true), if_neg hv]
end
/-- Where the reference's Diff stands. -/
structure DfI (w : World) (a b : List Pr) (i k m : Nat) (A : Option Addr) (c : Nat) (o : List Cg) (W : World) : Prop where
  ow : OwC w.heap.size W (.slice A m c) o
  ln : o.length = m
  eq : o ++ mrg (a.drop i) (b.drop k) = mrg a b
  le : m ≤ i + k
  ex : Ext w W
theorem DfI.ext {w : World} {a b : List Pr} {i k m : Nat} {A : Option Addr} {c : Nat} {o : List Cg} {W W' : World} (h : DfI w a b i k m A c o W) (x : Ext W W') : DfI w a b i k m A c o W' := ⟨own_below h.ow x, h.ln, h.eq, h.le, bt h.ex x⟩
theorem DfI.app {w : World} {a b : List Pr} {i k i' k' m n8 : Nat} {A A8 : Option Addr} {c c8 : Nat} {o : List Cg} {x : Cg} {W W' : World} (h : DfI w a b i k m A c o W) (hm : mrg (a.drop i) (b.drop k) = x :: mrg (a.drop i') (b.drop k')) (hs : i' + k' = i + k + 1 ∨ i' + k' = i + k + 2)
    (o8 : OwC w.heap.size W' (.slice A8 n8 c8) (o ++ [x])) (hx : Ext w W') : n8 = m + 1 ∧ DfI w a b i' k' (m + 1) A8 c8 (o ++ [x]) W' := by
  obtain ⟨A', c', e, r⟩ := own_rv o8
  injection e with _ e _
  have e8 : n8 = m + 1 := by rw [e, List.length_append, h.ln]; rfl
  subst e8
  refine ⟨rfl, o8, by rw [List.length_append, h.ln]; rfl, ?_, by have := h.le; omega, hx⟩
  rw [List.append_assoc, List.singleton_append, ← hm, h.eq]
set_option maxHeartbeats 12800000 in
set_option maxRecDepth 100000 in
theorem zdiff_any (A : Option Addr) (n1 c1 : Nat) (a : List Pr) (B : Option Addr) (n2 c2 : Nat) (b : List Pr) (w : World) (h1 : Rv w 2 A n1 c1 (pcs a)) (h2 : Rv w 2 B n2 c2 (pcs b)) (hn1 : n1 ≤ 100000) (hn2 : n2 ≤ 100000) :
    Calls Tryz.prog 42 #[.slice A n1 c1, .slice B n2 c2] w (Ret (fun z w' => OwC w.heap.size w' z (mrg a b)) w) := by
  have hl1 : a.length = n1 := by have := h1.len; rw [pcs_len] at this; omega
  have hl2 : b.length = n2 := by have := h2.len; rw [pcs_len] at this; omega
  have hle1 := h1.le
  have hcp1 := h1.cap
  have hle2 := h2.le
  have hcp2 := h2.cap
  have H1 := Lib.hid h1
  have H2 := Lib.hid h2
  have HL1 := Lib.hid hl1
  have HL2 := Lib.hid hl2
  clear h1 h2 hl1 hl2
  go_enter Tryz.func42, Tryz.ntmps42
  go_wp2_with fail
  have h0 : DfI w a b 0 0 0 (some ⟨w.heap.size, 0, none⟩) 0 [] (w.alloc (.cells #[] TCG)) := ⟨own_lit TCG 3 #[] 0 (Nat.le_refl _) (by omega) rfl, rfl, rfl, Nat.zero_le _, Ext.allocR _ _⟩
  have H0 := Lib.hid h0
  clear h0
  go_loopw [5, 6, 7] (fun v i k wr => ∃ (p q m : Nat) (A' : Option Addr) (c' : Nat) (o : List Cg), p ≤ n1 ∧ q ≤ n2 ∧ i = .int .i64 (p : Int) ∧ k = .int .i64 (q : Int) ∧ v = .slice A' m c' ∧ DfI w a b p q m A' c' o wr) (fun _ i k _ => n1 - (intOf i).toNat + (n2 - (intOf k).toNat))
  case atStart => exact ⟨0, 0, 0, _, 0, [], by omega, by omega, rfl, rfl, rfl, H0.out⟩
  case round =>
    clear H0
    obtain ⟨p, q, m, A', c', o, hp, hq, rfl, rfl, rfl, hi⟩ := hrel
    have HI := Lib.hid hi
    have hm2 : m ≤ 200000 := by have := hi.le; omega
    have hmle := (own_rvv hi.ow).le
    have hmcp := (own_rvv hi.ow).cap
    have wp_ : IntKind.i64.wrap ((p : Int) + 1) = ((p + 1 : Nat) : Int) := by rw [IntWalk.i64_in _ (by omega)]; rfl
    have wq_ : IntKind.i64.wrap ((q : Int) + 1) = ((q + 1 : Nat) : Int) := by rw [IntWalk.i64_in _ (by omega)]; rfl
    by_cases hp1 : p < n1
    · have pp : (p : Int) < (n1 : Int) := by omega
      have pe : ((p : Int) == (n1 : Int)) = false := by rw [beq_eq_false_iff_ne]; omega
      have pe' : ¬ (p : Int) = (n1 : Int) := by omega
      have hpl : p < a.length := by rw [HL1.out]; exact hp1
      obtain ⟨b1, o1, rfl, hc1⟩ := (H1.out.below hi.ex).at_ (by omega)
      obtain ⟨x1, x2⟩ := pcs_at a p hpl
      have k1 := hc1 _ _ x1
      have k2 := hc1 _ _ x2
      rw [← Nat.add_assoc] at k2
      obtain ⟨x, hx0⟩ : ∃ x, a[p] = x := ⟨_, rfl⟩
      rw [hx0] at k1 k2
      obtain ⟨xk, xv⟩ := x
      have KX := Lib.hid (And.intro k1 k2)
      clear hc1 x1 x2 k1 k2
      by_cases hq1 : q < n2
      · have pq : (q : Int) < (n2 : Int) := by omega
        have qe : ((q : Int) == (n2 : Int)) = false := by rw [beq_eq_false_iff_ne]; omega
        have qe' : ¬ (q : Int) = (n2 : Int) := by omega
        have hql : q < b.length := by rw [HL2.out]; exact hq1
        obtain ⟨b2, o2, rfl, hc2⟩ := (H2.out.below hi.ex).at_ (by omega)
        obtain ⟨y1, y2⟩ := pcs_at b q hql
        have k3 := hc2 _ _ y1
        have k4 := hc2 _ _ y2
        rw [← Nat.add_assoc] at k4
        obtain ⟨y, hy0⟩ : ∃ y, b[q] = y := ⟨_, rfl⟩
        rw [hy0] at k3 k4
        obtain ⟨yk, yv⟩ := y
        have KY := Lib.hid (And.intro k3 k4)
        clear hc2 y1 y2 k3 k4
        have M1 := Lib.hid (mG1 hpl hql)
        have M2 := Lib.hid (mN1 hpl hql)
        have M3 := Lib.hid (mS hpl hql)
        have M4 := Lib.hid (mC hpl hql)
        rw [hx0, hy0] at M1 M2 M3 M4
        clear hx0 hy0 hpl hql hi
        have m1 := fun w' (hh : Ext wr w') => ext_cell (bt (Ext.refl _) hh) KX.out.1
        have m2 := fun w' (hh : Ext wr w') => ext_cell (bt (Ext.refl _) hh) KX.out.2
        have m3 := fun w' (hh : Ext wr w') => ext_cell (bt (Ext.refl _) hh) KY.out.1
        have m4 := fun w' (hh : Ext wr w') => ext_cell (bt (Ext.refl _) hh) KY.out.2
        have hst : Ext wr wr.drew := Ext.drew _
        cases e1 : sl xk yk with
        | true =>
          have d1 : Op.bytesLess xk.toList yk.toList = true := e1
          have HM := Lib.hid (M1.out e1)
          clear e1 M1 M2 M3 M4
          go_upto_region 4 with fail
          refine wp_region_adv 20 [] [(0, true, some 19, none), (1, true, some 20, none), (2, true, some 21, none), (3, true, some 22, none), (4, true, some 23, none), (5, true, some 24, some (23, false)), (6, true, some 25, some (23, false)), (7, true, some 26, some (23, false)), (8, true, some 27, some (23, false)), (9, true, some 28, some (23, false)), (10, true, some 29, some (28, true)), (11, true, some 30, some (28, true)), (12, true, some 31, some (28, true)), (13, true, some 32, some (28, true)), (14, true, some 33, some (28, true)), (15, true, some 34, some (28, true)), (16, true, some 35, some (28, true)), (17, true, some 36, some (28, true)), (18, true, some 37, some (28, true)), (19, true, some 38, some (28, true))] (by kernel_rfl) (by kernel_rfl) (by kernel_rfl) (by intro it hit; (repeat (rcases List.mem_cons.1 hit with rfl | hit; (focus (intro o ho ev w; injection ho with ho; subst ho; kernel_rfl)))); cases hit) (fun _ _ _ _ _ => ⟨fun h => h, fun h => h⟩) hst ?_
          repeat (first | (refine wpSeq_pure (v := ?_) rfl ?_ ?_; rotate_left 1; (focus (intro wq_ hSq_; (try dsimp only at hSq_); go_simp; (try with_reducible rfl); done)); (try simp only [Act.put, List.setIfInBounds_toArray, List.set_cons_zero, List.set_cons_succ])) | (refine wpSeq_pureG (v := ?_) rfl rfl ?_ ?_; rotate_left 1; (focus (intro wq_ hSq_; (try dsimp only at hSq_); go_simp; (try with_reducible rfl); done)); (try simp only [Act.put, List.setIfInBounds_toArray, List.set_cons_zero, List.set_cons_succ])) | (refine wpSeq_off rfl rfl ?_; (try simp only [Act.put, List.setIfInBounds_toArray, List.set_cons_zero, List.set_cons_succ])) | (refine wpSeq_offU rfl ?_; (try simp only [Act.put, List.setIfInBounds_toArray, List.set_cons_zero, List.set_cons_succ])))
          intro w4 g4 s4
          (try simp only [endJ, List.drop_succ_cons, List.drop_zero])
          have HI4 := Lib.hid (HI.out.ext s4)
          have k1 := ext_cell s4 KX.out.1
          clear m1 m2 hst g4 s4
          go_upto_region 6 with (at_builtin; refine wpl_appC rfl _ _ rfl w.heap.size (.slice A' m c') o rfl (own_below HI4.out.ow (Ext.allocR _ _)) (some ⟨w4.heap.size, 0, none⟩) 1 1 [⟨xk, ⟨#[]⟩, true⟩] rfl (rv_lit TCG 3 #[.string xk, .string ⟨#[]⟩, .bool true] 1 (by omega) rfl) (by have := HI4.out.ln; omega) (by omega) (Ext.size (bt HI4.out.ex (Ext.allocR _ _))) ?_; intro A8 n8 c8 w8 o8 r8 b8 g8; have HAP := Lib.hid (HI4.out.app (i' := p + 1) (k' := q) HM.out (by omega) o8 (Below.trans (bt HI4.out.ex (Ext.allocR _ _)) b8)); clear o8 r8 b8 g8)
          obtain rfl := HAP.out.1
          go_wp2_with fail
          exact ⟨⟨p + 1, q, m + 1, A8, c8, _, by omega, by omega, by go_num, rfl, rfl, HAP.out.2⟩, by simp [intOf]; omega⟩
        | false =>
          have d1 : Op.bytesLess xk.toList yk.toList = false := e1
          go_upto_region 4 with fail
          refine wp_region_adv 20 [] [(0, true, some 19, none), (1, true, some 20, none), (2, true, some 21, none), (3, true, some 22, none), (4, true, some 23, none), (5, true, some 24, some (23, false)), (6, true, some 25, some (23, false)), (7, true, some 26, some (23, false)), (8, true, some 27, some (23, false)), (9, true, some 28, some (23, false)), (10, true, some 29, some (28, true)), (11, true, some 30, some (28, true)), (12, true, some 31, some (28, true)), (13, true, some 32, some (28, true)), (14, true, some 33, some (28, true)), (15, true, some 34, some (28, true)), (16, true, some 35, some (28, true)), (17, true, some 36, some (28, true)), (18, true, some 37, some (28, true)), (19, true, some 38, some (28, true))] (by kernel_rfl) (by kernel_rfl) (by kernel_rfl) (by intro it hit; (repeat (rcases List.mem_cons.1 hit with rfl | hit; (focus (intro o ho ev w; injection ho with ho; subst ho; kernel_rfl)))); cases hit) (fun _ _ _ _ _ => ⟨fun h => h, fun h => h⟩) hst ?_
          repeat (first | (refine wpSeq_pure (v := ?_) rfl ?_ ?_; rotate_left 1; (focus (intro wq_ hSq_; (try dsimp only at hSq_); go_simp; (try with_reducible rfl); done)); (try simp only [Act.put, List.setIfInBounds_toArray, List.set_cons_zero, List.set_cons_succ])) | (refine wpSeq_pureG (v := ?_) rfl rfl ?_ ?_; rotate_left 1; (focus (intro wq_ hSq_; (try dsimp only at hSq_); go_simp; (try with_reducible rfl); done)); (try simp only [Act.put, List.setIfInBounds_toArray, List.set_cons_zero, List.set_cons_succ])) | (refine wpSeq_off rfl rfl ?_; (try simp only [Act.put, List.setIfInBounds_toArray, List.set_cons_zero, List.set_cons_succ])) | (refine wpSeq_offU rfl ?_; (try simp only [Act.put, List.setIfInBounds_toArray, List.set_cons_zero, List.set_cons_succ])))
          intro w4 g4 s4
          (try simp only [endJ, List.drop_succ_cons, List.drop_zero])
          have HI4 := Lib.hid (HI.out.ext s4)
          have E4 := Lib.hid (show Ext wr w4 from s4)
          clear m1 m2 m3 m4 hst g4 s4
          cases e2 : sl yk xk with
          | true =>
            have d2 : Op.bytesLess yk.toList xk.toList = true := e2
            have HM := Lib.hid (M2.out e2)
            clear e1 e2 M1 M2 M3 M4
            have m1 := fun w' (hh : Ext w4 w') => ext_cell (bt E4.out hh) KX.out.1
            have m2 := fun w' (hh : Ext w4 w') => ext_cell (bt E4.out hh) KX.out.2
            have m3 := fun w' (hh : Ext w4 w') => ext_cell (bt E4.out hh) KY.out.1
            have m4 := fun w' (hh : Ext w4 w') => ext_cell (bt E4.out hh) KY.out.2
            have hst : Ext w4 w4.drew := Ext.drew _
            go_upto_region 7 with fail
            refine wp_region_adv 15 [] [(0, true, some 53, none), (1, true, some 54, none), (2, true, some 55, none), (3, true, some 56, none), (4, true, some 57, none), (5, true, some 58, some (57, false)), (6, true, some 59, some (57, false)), (7, true, some 60, some (57, false)), (8, true, some 61, some (57, false)), (9, true, some 62, some (57, false)), (10, true, some 63, some (57, false)), (11, true, some 64, some (57, false)), (12, true, some 65, some (57, false)), (13, true, some 66, some (57, false)), (14, true, some 67, some (57, false))] (by kernel_rfl) (by kernel_rfl) (by kernel_rfl) (by intro it hit; (repeat (rcases List.mem_cons.1 hit with rfl | hit; (focus (intro o ho ev w; injection ho with ho; subst ho; kernel_rfl)))); cases hit) (fun _ _ _ _ _ => ⟨fun h => h, fun h => h⟩) hst ?_
            repeat (first | (refine wpSeq_pure (v := ?_) rfl ?_ ?_; rotate_left 1; (focus (intro wq_ hSq_; (try dsimp only at hSq_); go_simp; (try with_reducible rfl); done)); (try simp only [Act.put, List.setIfInBounds_toArray, List.set_cons_zero, List.set_cons_succ])) | (refine wpSeq_pureG (v := ?_) rfl rfl ?_ ?_; rotate_left 1; (focus (intro wq_ hSq_; (try dsimp only at hSq_); go_simp; (try with_reducible rfl); done)); (try simp only [Act.put, List.setIfInBounds_toArray, List.set_cons_zero, List.set_cons_succ])) | (refine wpSeq_off rfl rfl ?_; (try simp only [Act.put, List.setIfInBounds_toArray, List.set_cons_zero, List.set_cons_succ])) | (refine wpSeq_offU rfl ?_; (try simp only [Act.put, List.setIfInBounds_toArray, List.set_cons_zero, List.set_cons_succ])))
            intro w7 g7 s7
            (try simp only [endJ, List.drop_succ_cons, List.drop_zero])
            have HI7 := Lib.hid (HI4.out.ext s7)
            have E7 := Lib.hid (bt E4.out s7)
            clear m1 m2 m3 m4 hst g7 s7
            have m3 := fun w' (hh : Ext w7 w') => ext_cell (bt E7.out hh) KY.out.1
            have m4 := fun w' (hh : Ext w7 w') => ext_cell (bt E7.out hh) KY.out.2
            have hst : Ext w7 w7.drew := Ext.drew _
            go_upto_region 8 with fail
            refine wp_region_adv 13 [] [(0, true, some 70, none), (1, true, some 71, none), (2, true, some 72, none), (3, true, some 73, none), (4, true, some 74, none), (5, true, some 75, none), (6, true, some 76, none), (7, true, some 77, none), (8, true, some 78, none), (9, true, some 79, none), (10, true, some 80, none), (11, true, some 81, none), (12, false, some 82, none)] (by kernel_rfl) (by kernel_rfl) (by kernel_rfl) (by intro it hit; (repeat (rcases List.mem_cons.1 hit with rfl | hit; (focus (intro o ho ev w; injection ho with ho; subst ho; kernel_rfl)))); cases hit) (fun _ _ _ _ _ => ⟨fun h => h, fun h => h⟩) hst ?_
            repeat (first | (refine wpSeq_pure (v := ?_) rfl ?_ ?_; rotate_left 1; (focus (intro wq_ hSq_; (try dsimp only at hSq_); go_simp; (try with_reducible rfl); done)); (try simp only [Act.put, List.setIfInBounds_toArray, List.set_cons_zero, List.set_cons_succ])) | (refine wpSeq_pureG (v := ?_) rfl rfl ?_ ?_; rotate_left 1; (focus (intro wq_ hSq_; (try dsimp only at hSq_); go_simp; (try with_reducible rfl); done)); (try simp only [Act.put, List.setIfInBounds_toArray, List.set_cons_zero, List.set_cons_succ])) | (refine wpSeq_off rfl rfl ?_; (try simp only [Act.put, List.setIfInBounds_toArray, List.set_cons_zero, List.set_cons_succ])) | (refine wpSeq_offU rfl ?_; (try simp only [Act.put, List.setIfInBounds_toArray, List.set_cons_zero, List.set_cons_succ])))
            first | refine wpSeq_call rfl (fun u1 g1 s1 K hK => ?_) | refine wpSeq_callG rfl rfl (fun u1 g1 s1 K hK => ?_)
            go_simp
            (try go_wp2_with fail)
            refine hK.out _ _ (Ext.allocR _ _) ?_
            clear hK K
            (try simp only [Act.put, List.setIfInBounds_toArray, List.set_cons_zero, List.set_cons_succ])
            repeat (first | (refine wpSeq_pure (v := ?_) rfl ?_ ?_; rotate_left 1; (focus (intro wq_ hSq_; (try dsimp only at hSq_); go_simp; (try with_reducible rfl); done)); (try simp only [Act.put, List.setIfInBounds_toArray, List.set_cons_zero, List.set_cons_succ])) | (refine wpSeq_pureG (v := ?_) rfl rfl ?_ ?_; rotate_left 1; (focus (intro wq_ hSq_; (try dsimp only at hSq_); go_simp; (try with_reducible rfl); done)); (try simp only [Act.put, List.setIfInBounds_toArray, List.set_cons_zero, List.set_cons_succ])) | (refine wpSeq_off rfl rfl ?_; (try simp only [Act.put, List.setIfInBounds_toArray, List.set_cons_zero, List.set_cons_succ])) | (refine wpSeq_offU rfl ?_; (try simp only [Act.put, List.setIfInBounds_toArray, List.set_cons_zero, List.set_cons_succ])))
            intro wz gz sz_
            (try simp only [endJ, List.drop_succ_cons, List.drop_zero])
            have HRX := Lib.hid ((rv_lit (w := u1) TCG 3 #[.string yk, .string yv, .bool false] 1 (by omega) rfl).below gz)
            have HZX := Lib.hid (HI7.out.ext sz_)
            obtain ⟨nb, hnb⟩ : ∃ nb, u1.heap.size = nb := ⟨_, rfl⟩
            rw [hnb] at HRX ⊢
            clear m3 m4 hst s1 g1 gz sz_ hnb
            go_upto_region 9 with (at_builtin; refine wpl_appC rfl _ _ rfl w.heap.size (.slice A' m c') o rfl HZX.out.ow (some ⟨nb, 0, none⟩) 1 1 [⟨yk, yv, false⟩] rfl HRX.out (by have := HZX.out.ln; omega) (by omega) (Ext.size HZX.out.ex) ?_; intro A8 n8 c8 w8 o8 r8 b8 g8; have HAP := Lib.hid (HZX.out.app (i' := p) (k' := q + 1) HM.out (by omega) o8 (Below.trans HZX.out.ex b8)); clear o8 r8 b8 g8)
            obtain rfl := HAP.out.1
            go_wp2_with fail
            exact ⟨⟨p, q + 1, m + 1, A8, c8, _, by omega, by omega, rfl, by go_num, rfl, HAP.out.2⟩, by simp [intOf]; omega⟩
          | false =>
            have d2 : Op.bytesLess yk.toList xk.toList = false := e2
            have HEK := Lib.hid (show xk = yk from sl_eq e1 e2)
            clear e1 e2 M1 M2
            have m1 := fun w' (hh : Ext w4 w') => ext_cell (bt E4.out hh) KX.out.1
            have m2 := fun w' (hh : Ext w4 w') => ext_cell (bt E4.out hh) KX.out.2
            have m3 := fun w' (hh : Ext w4 w') => ext_cell (bt E4.out hh) KY.out.1
            have m4 := fun w' (hh : Ext w4 w') => ext_cell (bt E4.out hh) KY.out.2
            have hst : Ext w4 w4.drew := Ext.drew _
            go_upto_region 7 with fail
            refine wp_region_adv 15 [] [(0, true, some 53, none), (1, true, some 54, none), (2, true, some 55, none), (3, true, some 56, none), (4, true, some 57, none), (5, true, some 58, some (57, false)), (6, true, some 59, some (57, false)), (7, true, some 60, some (57, false)), (8, true, some 61, some (57, false)), (9, true, some 62, some (57, false)), (10, true, some 63, some (57, false)), (11, true, some 64, some (57, false)), (12, true, some 65, some (57, false)), (13, true, some 66, some (57, false)), (14, true, some 67, some (57, false))] (by kernel_rfl) (by kernel_rfl) (by kernel_rfl) (by intro it hit; (repeat (rcases List.mem_cons.1 hit with rfl | hit; (focus (intro o ho ev w; injection ho with ho; subst ho; kernel_rfl)))); cases hit) (fun _ _ _ _ _ => ⟨fun h => h, fun h => h⟩) hst ?_
            repeat (first | (refine wpSeq_pure (v := ?_) rfl ?_ ?_; rotate_left 1; (focus (intro wq_ hSq_; (try dsimp only at hSq_); go_simp; (try with_reducible rfl); done)); (try simp only [Act.put, List.setIfInBounds_toArray, List.set_cons_zero, List.set_cons_succ])) | (refine wpSeq_pureG (v := ?_) rfl rfl ?_ ?_; rotate_left 1; (focus (intro wq_ hSq_; (try dsimp only at hSq_); go_simp; (try with_reducible rfl); done)); (try simp only [Act.put, List.setIfInBounds_toArray, List.set_cons_zero, List.set_cons_succ])) | (refine wpSeq_off rfl rfl ?_; (try simp only [Act.put, List.setIfInBounds_toArray, List.set_cons_zero, List.set_cons_succ])) | (refine wpSeq_offU rfl ?_; (try simp only [Act.put, List.setIfInBounds_toArray, List.set_cons_zero, List.set_cons_succ])))
            intro w7 g7 s7
            (try simp only [endJ, List.drop_succ_cons, List.drop_zero])
            have HI7 := Lib.hid (HI4.out.ext s7)
            have E7 := Lib.hid (bt E4.out s7)
            clear m1 m2 m3 m4 hst g7 s7
            have m1 := fun w' (hh : Ext w7 w') => ext_cell (bt E7.out hh) KX.out.1
            have m2 := fun w' (hh : Ext w7 w') => ext_cell (bt E7.out hh) KX.out.2
            have m3 := fun w' (hh : Ext w7 w') => ext_cell (bt E7.out hh) KY.out.1
            have m4 := fun w' (hh : Ext w7 w') => ext_cell (bt E7.out hh) KY.out.2
            have hst : Ext w7 w7.drew := Ext.drew _
            go_upto_region 10 with fail
            by_cases ev : xv = yv
            · have HM := Lib.hid (M3.out HEK.out ev)
              subst ev
              clear HEK M3 M4
              refine wp_region_adv 10 [] [(0, true, some 86, none), (1, true, some 87, none), (2, true, some 88, none), (3, true, some 89, none), (4, true, some 90, none), (5, true, some 91, none), (6, true, some 92, none), (7, true, some 93, none), (8, true, some 94, none), (9, true, some 95, none)] (by kernel_rfl) (by kernel_rfl) (by kernel_rfl) (by intro it hit; (repeat (rcases List.mem_cons.1 hit with rfl | hit; (focus (intro o ho ev w; injection ho with ho; subst ho; kernel_rfl)))); cases hit) (fun _ _ _ _ _ => ⟨fun h => h, fun h => h⟩) hst ?_
              repeat (first | (refine wpSeq_pure (v := ?_) rfl ?_ ?_; rotate_left 1; (focus (intro wq_ hSq_; (try dsimp only at hSq_); go_simp; (try with_reducible rfl); done)); (try simp only [Act.put, List.setIfInBounds_toArray, List.set_cons_zero, List.set_cons_succ])) | (refine wpSeq_pureG (v := ?_) rfl rfl ?_ ?_; rotate_left 1; (focus (intro wq_ hSq_; (try dsimp only at hSq_); go_simp; (try with_reducible rfl); done)); (try simp only [Act.put, List.setIfInBounds_toArray, List.set_cons_zero, List.set_cons_succ])) | (refine wpSeq_off rfl rfl ?_; (try simp only [Act.put, List.setIfInBounds_toArray, List.set_cons_zero, List.set_cons_succ])) | (refine wpSeq_offU rfl ?_; (try simp only [Act.put, List.setIfInBounds_toArray, List.set_cons_zero, List.set_cons_succ])))
              intro wa ga sa
              (try simp only [endJ, List.drop_succ_cons, List.drop_zero])
              have HIa := Lib.hid (HI7.out.ext sa)
              clear m1 m2 m3 m4 hst ga sa
              go_wp2_with fail
              exact ⟨⟨p + 1, q + 1, m, A', c', o, by omega, by omega, by go_num, by go_num, rfl, ⟨HIa.out.ow, HIa.out.ln, by rw [← HM.out]; exact HIa.out.eq, by have := HIa.out.le; omega, HIa.out.ex⟩⟩, by simp [intOf]; omega⟩
            · have HM := Lib.hid (M4.out HEK.out ev)
              have d3 : (xv.toList == yv.toList) = false := str_beq_f ev
              clear HEK M3 M4 ev
              refine wp_region_adv 10 [] [(0, true, some 86, none), (1, true, some 87, none), (2, true, some 88, none), (3, true, some 89, none), (4, true, some 90, none), (5, true, some 91, none), (6, true, some 92, none), (7, true, some 93, none), (8, true, some 94, none), (9, true, some 95, none)] (by kernel_rfl) (by kernel_rfl) (by kernel_rfl) (by intro it hit; (repeat (rcases List.mem_cons.1 hit with rfl | hit; (focus (intro o ho ev w; injection ho with ho; subst ho; kernel_rfl)))); cases hit) (fun _ _ _ _ _ => ⟨fun h => h, fun h => h⟩) hst ?_
              repeat (first | (refine wpSeq_pure (v := ?_) rfl ?_ ?_; rotate_left 1; (focus (intro wq_ hSq_; (try dsimp only at hSq_); go_simp; (try with_reducible rfl); done)); (try simp only [Act.put, List.setIfInBounds_toArray, List.set_cons_zero, List.set_cons_succ])) | (refine wpSeq_pureG (v := ?_) rfl rfl ?_ ?_; rotate_left 1; (focus (intro wq_ hSq_; (try dsimp only at hSq_); go_simp; (try with_reducible rfl); done)); (try simp only [Act.put, List.setIfInBounds_toArray, List.set_cons_zero, List.set_cons_succ])) | (refine wpSeq_off rfl rfl ?_; (try simp only [Act.put, List.setIfInBounds_toArray, List.set_cons_zero, List.set_cons_succ])) | (refine wpSeq_offU rfl ?_; (try simp only [Act.put, List.setIfInBounds_toArray, List.set_cons_zero, List.set_cons_succ])))
              intro wa ga sa
              (try simp only [endJ, List.drop_succ_cons, List.drop_zero])
              have HIa := Lib.hid (HI7.out.ext sa)
              have Ea := Lib.hid (bt E7.out sa)
              clear m1 m2 m3 m4 hst ga sa
              have m3 := fun w' (hh : Ext wa w') => ext_cell (bt Ea.out hh) KY.out.1
              have m4 := fun w' (hh : Ext wa w') => ext_cell (bt Ea.out hh) KY.out.2
              have hst : Ext wa wa.drew := Ext.drew _
              go_upto_region 11 with fail
              refine wp_region_adv 13 [] [(0, true, some 97, none), (1, true, some 98, none), (2, true, some 99, none), (3, true, some 100, none), (4, true, some 101, none), (5, true, some 102, none), (6, true, some 103, none), (7, true, some 104, none), (8, true, some 105, none), (9, true, some 106, none), (10, true, some 107, none), (11, true, some 108, none), (12, false, some 109, none)] (by kernel_rfl) (by kernel_rfl) (by kernel_rfl) (by intro it hit; (repeat (rcases List.mem_cons.1 hit with rfl | hit; (focus (intro o ho ev w; injection ho with ho; subst ho; kernel_rfl)))); cases hit) (fun _ _ _ _ _ => ⟨fun h => h, fun h => h⟩) hst ?_
              repeat (first | (refine wpSeq_pure (v := ?_) rfl ?_ ?_; rotate_left 1; (focus (intro wq_ hSq_; (try dsimp only at hSq_); go_simp; (try with_reducible rfl); done)); (try simp only [Act.put, List.setIfInBounds_toArray, List.set_cons_zero, List.set_cons_succ])) | (refine wpSeq_pureG (v := ?_) rfl rfl ?_ ?_; rotate_left 1; (focus (intro wq_ hSq_; (try dsimp only at hSq_); go_simp; (try with_reducible rfl); done)); (try simp only [Act.put, List.setIfInBounds_toArray, List.set_cons_zero, List.set_cons_succ])) | (refine wpSeq_off rfl rfl ?_; (try simp only [Act.put, List.setIfInBounds_toArray, List.set_cons_zero, List.set_cons_succ])) | (refine wpSeq_offU rfl ?_; (try simp only [Act.put, List.setIfInBounds_toArray, List.set_cons_zero, List.set_cons_succ])))
              first | refine wpSeq_call rfl (fun u1 g1 s1 K hK => ?_) | refine wpSeq_callG rfl rfl (fun u1 g1 s1 K hK => ?_)
              go_simp
              (try go_wp2_with fail)
              refine hK.out _ _ (Ext.allocR _ _) ?_
              clear hK K
              (try simp only [Act.put, List.setIfInBounds_toArray, List.set_cons_zero, List.set_cons_succ])
              repeat (first | (refine wpSeq_pure (v := ?_) rfl ?_ ?_; rotate_left 1; (focus (intro wq_ hSq_; (try dsimp only at hSq_); go_simp; (try with_reducible rfl); done)); (try simp only [Act.put, List.setIfInBounds_toArray, List.set_cons_zero, List.set_cons_succ])) | (refine wpSeq_pureG (v := ?_) rfl rfl ?_ ?_; rotate_left 1; (focus (intro wq_ hSq_; (try dsimp only at hSq_); go_simp; (try with_reducible rfl); done)); (try simp only [Act.put, List.setIfInBounds_toArray, List.set_cons_zero, List.set_cons_succ])) | (refine wpSeq_off rfl rfl ?_; (try simp only [Act.put, List.setIfInBounds_toArray, List.set_cons_zero, List.set_cons_succ])) | (refine wpSeq_offU rfl ?_; (try simp only [Act.put, List.setIfInBounds_toArray, List.set_cons_zero, List.set_cons_succ])))
              intro wz gz sz_
              (try simp only [endJ, List.drop_succ_cons, List.drop_zero])
              have HRX := Lib.hid ((rv_lit (w := u1) TCG 3 #[.string yk, .string yv, .bool false] 1 (by omega) rfl).below gz)
              have HZX := Lib.hid (HIa.out.ext sz_)
              obtain ⟨nb, hnb⟩ : ∃ nb, u1.heap.size = nb := ⟨_, rfl⟩
              rw [hnb] at HRX ⊢
              clear m3 m4 hst s1 g1 gz sz_ hnb HIa
              go_upto_region 12 with (at_builtin; refine wpl_appC rfl _ _ rfl w.heap.size (.slice A' m c') o rfl HZX.out.ow (some ⟨nb, 0, none⟩) 1 1 [⟨yk, yv, false⟩] rfl HRX.out (by have := HZX.out.ln; omega) (by omega) (Ext.size HZX.out.ex) ?_; intro A8 n8 c8 w8 o8 r8 b8 g8; have HAP := Lib.hid (HZX.out.app (i' := p + 1) (k' := q + 1) HM.out (by omega) o8 (Below.trans HZX.out.ex b8)); clear o8 r8 b8 g8)
              obtain rfl := HAP.out.1
              go_wp2_with fail
              exact ⟨⟨p + 1, q + 1, m + 1, A8, c8, _, by omega, by omega, by go_num, by go_num, rfl, HAP.out.2⟩, by simp [intOf]; omega⟩
      · obtain rfl : q = n2 := by omega
        have pq : ¬ (q : Int) < (q : Int) := by omega
        have HM := Lib.hid (mG0 (b := b) (k := q) hpl (by rw [HL2.out]))
        rw [hx0] at HM
        clear hx0 hpl hi
        have m1 := fun w' (hh : Ext wr w') => ext_cell (bt (Ext.refl _) hh) KX.out.1
        have m2 := fun w' (hh : Ext wr w') => ext_cell (bt (Ext.refl _) hh) KX.out.2
        have hst : Ext wr wr.drew := Ext.drew _
        go_upto_region 4 with fail
        refine wp_region_adv 20 [] [(0, true, some 19, none), (1, true, some 20, none), (2, true, some 21, none), (3, true, some 22, none), (4, true, some 23, none), (5, true, some 24, some (23, false)), (6, true, some 25, some (23, false)), (7, true, some 26, some (23, false)), (8, true, some 27, some (23, false)), (9, true, some 28, some (23, false)), (10, true, some 29, some (28, true)), (11, true, some 30, some (28, true)), (12, true, some 31, some (28, true)), (13, true, some 32, some (28, true)), (14, true, some 33, some (28, true)), (15, true, some 34, some (28, true)), (16, true, some 35, some (28, true)), (17, true, some 36, some (28, true)), (18, true, some 37, some (28, true)), (19, true, some 38, some (28, true))] (by kernel_rfl) (by kernel_rfl) (by kernel_rfl) (by intro it hit; (repeat (rcases List.mem_cons.1 hit with rfl | hit; (focus (intro o ho ev w; injection ho with ho; subst ho; kernel_rfl)))); cases hit) (fun _ _ _ _ _ => ⟨fun h => h, fun h => h⟩) hst ?_
        repeat (first | (refine wpSeq_pure (v := ?_) rfl ?_ ?_; rotate_left 1; (focus (intro wq_ hSq_; (try dsimp only at hSq_); go_simp; (try with_reducible rfl); done)); (try simp only [Act.put, List.setIfInBounds_toArray, List.set_cons_zero, List.set_cons_succ])) | (refine wpSeq_pureG (v := ?_) rfl rfl ?_ ?_; rotate_left 1; (focus (intro wq_ hSq_; (try dsimp only at hSq_); go_simp; (try with_reducible rfl); done)); (try simp only [Act.put, List.setIfInBounds_toArray, List.set_cons_zero, List.set_cons_succ])) | (refine wpSeq_off rfl rfl ?_; (try simp only [Act.put, List.setIfInBounds_toArray, List.set_cons_zero, List.set_cons_succ])) | (refine wpSeq_offU rfl ?_; (try simp only [Act.put, List.setIfInBounds_toArray, List.set_cons_zero, List.set_cons_succ])))
        intro w4 g4 s4
        (try simp only [endJ, List.drop_succ_cons, List.drop_zero])
        have HI4 := Lib.hid (HI.out.ext s4)
        have k1 := ext_cell s4 KX.out.1
        clear m1 m2 hst g4 s4
        go_upto_region 6 with (at_builtin; refine wpl_appC rfl _ _ rfl w.heap.size (.slice A' m c') o rfl (own_below HI4.out.ow (Ext.allocR _ _)) (some ⟨w4.heap.size, 0, none⟩) 1 1 [⟨xk, ⟨#[]⟩, true⟩] rfl (rv_lit TCG 3 #[.string xk, .string ⟨#[]⟩, .bool true] 1 (by omega) rfl) (by have := HI4.out.ln; omega) (by omega) (Ext.size (bt HI4.out.ex (Ext.allocR _ _))) ?_; intro A8 n8 c8 w8 o8 r8 b8 g8; have HAP := Lib.hid (HI4.out.app (i' := p + 1) (k' := q) HM.out (by omega) o8 (Below.trans (bt HI4.out.ex (Ext.allocR _ _)) b8)); clear o8 r8 b8 g8)
        obtain rfl := HAP.out.1
        go_wp2_with fail
        exact ⟨⟨p + 1, q, m + 1, A8, c8, _, by omega, by omega, by go_num, rfl, rfl, HAP.out.2⟩, by simp [intOf]; omega⟩
    · obtain rfl : p = n1 := by omega
      have pp : ¬ (p : Int) < (p : Int) := by omega
      by_cases hq1 : q < n2
      · have pq : (q : Int) < (n2 : Int) := by omega
        have qe : ((q : Int) == (n2 : Int)) = false := by rw [beq_eq_false_iff_ne]; omega
        have qe' : ¬ (q : Int) = (n2 : Int) := by omega
        have hql : q < b.length := by rw [HL2.out]; exact hq1
        obtain ⟨b2, o2, rfl, hc2⟩ := (H2.out.below hi.ex).at_ (by omega)
        obtain ⟨y1, y2⟩ := pcs_at b q hql
        have k3 := hc2 _ _ y1
        have k4 := hc2 _ _ y2
        rw [← Nat.add_assoc] at k4
        have HM := Lib.hid (mN0 (a := a) (i := p) (by rw [HL1.out]) hql)
        obtain ⟨y, hy0⟩ : ∃ y, b[q] = y := ⟨_, rfl⟩
        rw [hy0] at k3 k4 HM
        obtain ⟨yk, yv⟩ := y
        have KY := Lib.hid (And.intro k3 k4)
        clear hc2 y1 y2 k3 k4 hy0 hql hi
        have hst : Ext wr wr.drew := Ext.drew _
        go_upto_region 4 with fail
        refine wp_region_adv 20 [] [(0, true, some 19, none), (1, true, some 20, none), (2, true, some 21, none), (3, true, some 22, none), (4, true, some 23, none), (5, true, some 24, some (23, false)), (6, true, some 25, some (23, false)), (7, true, some 26, some (23, false)), (8, true, some 27, some (23, false)), (9, true, some 28, some (23, false)), (10, true, some 29, some (28, true)), (11, true, some 30, some (28, true)), (12, true, some 31, some (28, true)), (13, true, some 32, some (28, true)), (14, true, some 33, some (28, true)), (15, true, some 34, some (28, true)), (16, true, some 35, some (28, true)), (17, true, some 36, some (28, true)), (18, true, some 37, some (28, true)), (19, true, some 38, some (28, true))] (by kernel_rfl) (by kernel_rfl) (by kernel_rfl) (by intro it hit; (repeat (rcases List.mem_cons.1 hit with rfl | hit; (focus (intro o ho ev w; injection ho with ho; subst ho; kernel_rfl)))); cases hit) (fun _ _ _ _ _ => ⟨fun h => h, fun h => h⟩) hst ?_
        repeat (first | (refine wpSeq_pure (v := ?_) rfl ?_ ?_; rotate_left 1; (focus (intro wq_ hSq_; (try dsimp only at hSq_); go_simp; (try with_reducible rfl); done)); (try simp only [Act.put, List.setIfInBounds_toArray, List.set_cons_zero, List.set_cons_succ])) | (refine wpSeq_pureG (v := ?_) rfl rfl ?_ ?_; rotate_left 1; (focus (intro wq_ hSq_; (try dsimp only at hSq_); go_simp; (try with_reducible rfl); done)); (try simp only [Act.put, List.setIfInBounds_toArray, List.set_cons_zero, List.set_cons_succ])) | (refine wpSeq_off rfl rfl ?_; (try simp only [Act.put, List.setIfInBounds_toArray, List.set_cons_zero, List.set_cons_succ])) | (refine wpSeq_offU rfl ?_; (try simp only [Act.put, List.setIfInBounds_toArray, List.set_cons_zero, List.set_cons_succ])))
        intro w4 g4 s4
        (try simp only [endJ, List.drop_succ_cons, List.drop_zero])
        have HI4 := Lib.hid (HI.out.ext s4)
        have E4 := Lib.hid (show Ext wr w4 from s4)
        clear hst g4 s4
        have hst : Ext w4 w4.drew := Ext.drew _
        go_upto_region 7 with fail
        refine wp_region_adv 15 [] [(0, true, some 53, none), (1, true, some 54, none), (2, true, some 55, none), (3, true, some 56, none), (4, true, some 57, none), (5, true, some 58, some (57, false)), (6, true, some 59, some (57, false)), (7, true, some 60, some (57, false)), (8, true, some 61, some (57, false)), (9, true, some 62, some (57, false)), (10, true, some 63, some (57, false)), (11, true, some 64, some (57, false)), (12, true, some 65, some (57, false)), (13, true, some 66, some (57, false)), (14, true, some 67, some (57, false))] (by kernel_rfl) (by kernel_rfl) (by kernel_rfl) (by intro it hit; (repeat (rcases List.mem_cons.1 hit with rfl | hit; (focus (intro o ho ev w; injection ho with ho; subst ho; kernel_rfl)))); cases hit) (fun _ _ _ _ _ => ⟨fun h => h, fun h => h⟩) hst ?_
        repeat (first | (refine wpSeq_pure (v := ?_) rfl ?_ ?_; rotate_left 1; (focus (intro wq_ hSq_; (try dsimp only at hSq_); go_simp; (try with_reducible rfl); done)); (try simp only [Act.put, List.setIfInBounds_toArray, List.set_cons_zero, List.set_cons_succ])) | (refine wpSeq_pureG (v := ?_) rfl rfl ?_ ?_; rotate_left 1; (focus (intro wq_ hSq_; (try dsimp only at hSq_); go_simp; (try with_reducible rfl); done)); (try simp only [Act.put, List.setIfInBounds_toArray, List.set_cons_zero, List.set_cons_succ])) | (refine wpSeq_off rfl rfl ?_; (try simp only [Act.put, List.setIfInBounds_toArray, List.set_cons_zero, List.set_cons_succ])) | (refine wpSeq_offU rfl ?_; (try simp only [Act.put, List.setIfInBounds_toArray, List.set_cons_zero, List.set_cons_succ])))
        intro w7 g7 s7
        (try simp only [endJ, List.drop_succ_cons, List.drop_zero])
        have HI7 := Lib.hid (HI4.out.ext s7)
        have E7 := Lib.hid (bt E4.out s7)
        clear hst g7 s7
        have m3 := fun w' (hh : Ext w7 w') => ext_cell (bt E7.out hh) KY.out.1
        have m4 := fun w' (hh : Ext w7 w') => ext_cell (bt E7.out hh) KY.out.2
        have hst : Ext w7 w7.drew := Ext.drew _
        go_upto_region 8 with fail
        refine wp_region_adv 13 [] [(0, true, some 70, none), (1, true, some 71, none), (2, true, some 72, none), (3, true, some 73, none), (4, true, some 74, none), (5, true, some 75, none), (6, true, some 76, none), (7, true, some 77, none), (8, true, some 78, none), (9, true, some 79, none), (10, true, some 80, none), (11, true, some 81, none), (12, false, some 82, none)] (by kernel_rfl) (by kernel_rfl) (by kernel_rfl) (by intro it hit; (repeat (rcases List.mem_cons.1 hit with rfl | hit; (focus (intro o ho ev w; injection ho with ho; subst ho; kernel_rfl)))); cases hit) (fun _ _ _ _ _ => ⟨fun h => h, fun h => h⟩) hst ?_
        repeat (first | (refine wpSeq_pure (v := ?_) rfl ?_ ?_; rotate_left 1; (focus (intro wq_ hSq_; (try dsimp only at hSq_); go_simp; (try with_reducible rfl); done)); (try simp only [Act.put, List.setIfInBounds_toArray, List.set_cons_zero, List.set_cons_succ])) | (refine wpSeq_pureG (v := ?_) rfl rfl ?_ ?_; rotate_left 1; (focus (intro wq_ hSq_; (try dsimp only at hSq_); go_simp; (try with_reducible rfl); done)); (try simp only [Act.put, List.setIfInBounds_toArray, List.set_cons_zero, List.set_cons_succ])) | (refine wpSeq_off rfl rfl ?_; (try simp only [Act.put, List.setIfInBounds_toArray, List.set_cons_zero, List.set_cons_succ])) | (refine wpSeq_offU rfl ?_; (try simp only [Act.put, List.setIfInBounds_toArray, List.set_cons_zero, List.set_cons_succ])))
        first | refine wpSeq_call rfl (fun u1 g1 s1 K hK => ?_) | refine wpSeq_callG rfl rfl (fun u1 g1 s1 K hK => ?_)
        go_simp
        (try go_wp2_with fail)
        refine hK.out _ _ (Ext.allocR _ _) ?_
        clear hK K
        (try simp only [Act.put, List.setIfInBounds_toArray, List.set_cons_zero, List.set_cons_succ])
        repeat (first | (refine wpSeq_pure (v := ?_) rfl ?_ ?_; rotate_left 1; (focus (intro wq_ hSq_; (try dsimp only at hSq_); go_simp; (try with_reducible rfl); done)); (try simp only [Act.put, List.setIfInBounds_toArray, List.set_cons_zero, List.set_cons_succ])) | (refine wpSeq_pureG (v := ?_) rfl rfl ?_ ?_; rotate_left 1; (focus (intro wq_ hSq_; (try dsimp only at hSq_); go_simp; (try with_reducible rfl); done)); (try simp only [Act.put, List.setIfInBounds_toArray, List.set_cons_zero, List.set_cons_succ])) | (refine wpSeq_off rfl rfl ?_; (try simp only [Act.put, List.setIfInBounds_toArray, List.set_cons_zero, List.set_cons_succ])) | (refine wpSeq_offU rfl ?_; (try simp only [Act.put, List.setIfInBounds_toArray, List.set_cons_zero, List.set_cons_succ])))
        intro wz gz sz_
        (try simp only [endJ, List.drop_succ_cons, List.drop_zero])
        have HRX := Lib.hid ((rv_lit (w := u1) TCG 3 #[.string yk, .string yv, .bool false] 1 (by omega) rfl).below gz)
        have HZX := Lib.hid (HI7.out.ext sz_)
        obtain ⟨nb, hnb⟩ : ∃ nb, u1.heap.size = nb := ⟨_, rfl⟩
        rw [hnb] at HRX ⊢
        clear m3 m4 hst s1 g1 gz sz_ hnb
        go_upto_region 9 with (at_builtin; refine wpl_appC rfl _ _ rfl w.heap.size (.slice A' m c') o rfl HZX.out.ow (some ⟨nb, 0, none⟩) 1 1 [⟨yk, yv, false⟩] rfl HRX.out (by have := HZX.out.ln; omega) (by omega) (Ext.size HZX.out.ex) ?_; intro A8 n8 c8 w8 o8 r8 b8 g8; have HAP := Lib.hid (HZX.out.app (i' := p) (k' := q + 1) HM.out (by omega) o8 (Below.trans HZX.out.ex b8)); clear o8 r8 b8 g8)
        obtain rfl := HAP.out.1
        go_wp2_with fail
        exact ⟨⟨p, q + 1, m + 1, A8, c8, _, by omega, by omega, rfl, by go_num, rfl, HAP.out.2⟩, by simp [intOf]; omega⟩
      · obtain rfl : q = n2 := by omega
        have pq : ¬ (q : Int) < (q : Int) := by omega
        have HO := Lib.hid (show OwC w.heap.size wr (.slice A' m c') (mrg a b) ∧ Ext w wr by
          refine ⟨?_, hi.ex⟩
          have h1 := hi.eq
          rw [List.drop_of_length_le (by rw [HL1.out]; exact Nat.le_refl _), List.drop_of_length_le (by rw [HL2.out]; exact Nat.le_refl _), mrg, List.append_nil] at h1
          rw [← h1]
          exact hi.ow)
        clear hi
        go_wp2
        go_returns
        exact ⟨_, rfl, HO.out.1, HO.out.2⟩
end Go.Proofs.Tb
