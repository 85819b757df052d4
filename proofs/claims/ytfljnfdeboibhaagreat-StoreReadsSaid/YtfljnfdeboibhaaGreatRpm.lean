/- The reference: contracts of Find, Range, SameChanges. -/
import Derived.Test.YtfljnfdeboibhaaGreatRpb
import Derived.Test.YtfljnfdeboibhaaGreatTwb
set_option linter.unusedVariables false
set_option linter.unusedSimpArgs false
namespace Go.Proofs.Tb
open Go.Maps Go.RowKit Go.Lib
theorem binOp_string_leq2 (t : TypeId) (a b : ByteArray) : binOp .leq t (.string a) (.string b) = pure (.bool (Op.bytesLess a.toList b.toList || a.toList == b.toList)) := by
  simp [binOp, Op.stringOp]
attribute [local go_sem] cell_set_same neqMapL binOp_string_geq'

theorem fnd_take {l : List Pr} {k : Str} {j : Nat} (hj : j < l.length) (h : ∀ p ∈ l.take j, p.1 ≠ k) (hk : (l[j]).1 = k) : fndP l k = some (l[j]).2 := by
  have e : l = l.take j ++ l[j] :: l.drop (j + 1) := by rw [← List.drop_eq_getElem_cons hj, List.take_append_drop]
  unfold fndP
  conv => lhs; rw [e]
  rw [List.find?_append, List.find?_eq_none.2 fun p hp => by simpa using h p hp, List.find?_cons]
  simp [hk]
set_option maxHeartbeats 3200000 in
set_option maxRecDepth 100000 in
theorem zfind_any (A : Option Addr) (n c : Nat) (l : List Pr) (key : Str) (w : World) (h : Rv w 2 A n c (pcs l)) (hn : n ≤ 1000000) :
    Calls Tryz.prog 39 #[.slice A n c, .string key] w (Ret (fun z _ => z = .tuple #[.string ((fndP l key).getD ByteArray.empty), .bool (fndP l key).isSome]) w) := by
  have hl : l.length = n := by have := h.len; rw [pcs_len] at this; omega
  have hle := h.le
  have hcp := h.cap
  have H := Lib.hid h
  have HL := Lib.hid hl
  clear h hl
  go_enter Tryz.func39, Tryz.ntmps39
  go_wp2_with fail
  go_loopw [6] (fun i wr => ∃ j : Nat, j ≤ n ∧ i = .int .i64 (j : Int) ∧ (∀ p ∈ l.take j, p.1 ≠ key) ∧ Ext w wr) (fun i _ => n - (intOf i).toNat)
  case atStart => exact ⟨0, by omega, rfl, by simp, Ext.refl _⟩
  case round =>
    obtain ⟨j, hj, rfl, hno, hx⟩ := hrel
    have HX := Lib.hid hx
    have HNO := Lib.hid hno
    clear hno
    by_cases hjn : j < n
    · have pj : (j : Int) < (n : Int) := by omega
      have wj : IntKind.i64.wrap ((j : Int) + 1) = ((j + 1 : Nat) : Int) := by rw [IntWalk.i64_in _ (by omega)]; rfl
      have hjl : j < l.length := by rw [HL.out]; exact hjn
      obtain ⟨b, o, rfl, hc⟩ := (H.out.below hx).at_ (by omega)
      obtain ⟨q1, q2⟩ := pcs_at l j hjl
      have k1 := hc _ _ q1
      have k2 := hc _ _ q2
      rw [← Nat.add_assoc] at k2
      have HF := Lib.hid (fnd_take (k := key) hjl HNO.out)
      have HS := Lib.hid (show (l[j]).1 ≠ key → ∀ p ∈ l.take (j + 1), p.1 ≠ key from fun h p hp => by
        rw [List.take_succ_eq_append_getElem hjl] at hp
        rcases List.mem_append.1 hp with hp | hp
        · exact HNO.out p hp
        · rw [List.mem_singleton.1 hp]; exact h)
      obtain ⟨x, hx0⟩ : ∃ x, l[j] = x := ⟨_, rfl⟩
      rw [hx0] at k1 k2 HF HS
      obtain ⟨xk, xv⟩ := x
      clear hc q1 q2 hx0 hx hjl
      by_cases hk : xk = key
      · subst hk
        have HE := Lib.hid (HF.out rfl)
        go_wp2
        go_returns
        exact ⟨_, rfl, by rw [HE.out]; rfl, HX.out⟩
      · have d1 : (xk.toList == key.toList) = false := str_beq_f hk
        have HE := Lib.hid (HS.out hk)
        go_wp2_with fail
        exact ⟨⟨j + 1, by omega, by go_num, HE.out, HX.out⟩, by simp [intOf]; omega⟩
    · obtain rfl : j = n := by omega
      have HE := Lib.hid (show fndP l key = none from fndP_none fun p hp => HNO.out p (by rw [List.take_of_length_le (by rw [HL.out]; exact Nat.le_refl _)]; exact hp))
      clear hx
      go_wp2
      go_returns
      exact ⟨_, rfl, by rw [HE.out]; rfl, HX.out⟩
/-- The pairs that the reference's Range takes. -/
def inR (low high : Str) (p : Pr) : Bool := !sl p.1 low && hiB high p
theorem rng_filter {l : List Pr} (hs : Srtd l) (low high : Str) (most : Nat) : rngP l low high most = (l.filter (inR low high)).take most := by
  unfold rngP
  congr 1
  have e : l.filter (inR low high) = (geP low l).filter (hiB high) := by
    unfold geP inR
    rw [List.filter_filter]
    exact List.filter_congr fun p _ => Bool.and_comm _ _
  rw [e]
  have hs2 : Srtd (geP low l) := hs.sublist List.filter_sublist
  generalize geP low l = g at hs2 ⊢
  induction g with
  | nil => rfl
  | cons p g ih =>
    obtain ⟨h1, h2⟩ := List.pairwise_cons.1 hs2
    cases hp : hiB high p with
    | true => rw [List.takeWhile_cons, if_pos hp, List.filter_cons, if_pos hp, ih h2]
    | false =>
      rw [List.takeWhile_cons, if_neg (by rw [hp]; exact Bool.false_ne_true), List.filter_cons, if_neg (by rw [hp]; exact Bool.false_ne_true)]
      symm
      rw [List.filter_eq_nil_iff]
      intro q hq hqt
      unfold hiB at hp hqt
      rw [Bool.or_eq_true] at hqt
      rw [Bool.or_eq_false_iff] at hp
      rcases hqt with hqt | hqt
      · rw [hp.1] at hqt; cases hqt
      · have := sl_trans (h1 q hq) hqt
        rw [hp.2] at this; cases this
/-- Where the reference's Range stands. -/
structure RrI (w : World) (low high : Str) (most : Nat) (l : List Pr) (j m : Nat) (A : Option Addr) (c : Nat) (W : World) : Prop where
  ow : OwP w.heap.size W (.slice A m c) ((l.take j).filter (inR low high))
  ln : ((l.take j).filter (inR low high)).length = m
  le : m ≤ most
  ex : Ext w W
theorem inR_succ {l : List Pr} {j : Nat} (hj : j < l.length) (low high : Str) : (l.take (j + 1)).filter (inR low high) = (l.take j).filter (inR low high) ++ (if inR low high l[j] = true then [l[j]] else []) := by
  rw [List.take_succ_eq_append_getElem hj, List.filter_append, List.filter_cons, List.filter_nil]
set_option maxHeartbeats 6400000 in
set_option maxRecDepth 100000 in
theorem zrange_any (A : Option Addr) (n c : Nat) (l : List Pr) (low high : Str) (most : Nat) (w : World) (h : Rv w 2 A n c (pcs l)) (hn : n ≤ 100000) (hm : most ≤ 9223372036854775807) :
    Calls Tryz.prog 40 #[.slice A n c, .string low, .string high, .int .i64 (most : Int)] w (Ret (fun z w' => OwP w.heap.size w' z ((l.filter (inR low high)).take most)) w) := by
  have hl : l.length = n := by have := h.len; rw [pcs_len] at this; omega
  have hle := h.le
  have hcp := h.cap
  have H := Lib.hid h
  have HL := Lib.hid hl
  obtain ⟨hz, hhz⟩ : ∃ hz, high.size = hz := ⟨_, rfl⟩
  have hvl : high.toList.length = hz := by rw [ByteArray.toList_eq]; exact hhz
  have HVL := Lib.hid hvl
  have HHI := Lib.hid (show ∀ x y, hiB high (x, y) = (decide (hz = 0) || sl x high) from fun x y => by unfold hiB; rw [hhz])
  clear h hl hhz hvl
  go_enter Tryz.func40, Tryz.ntmps40
  go_wp2_with fail
  have h0 : RrI w low high most l 0 0 (some ⟨w.heap.size, 0, none⟩) 0 (w.alloc (.cells #[] TPA)) := ⟨own_lit TPA 2 #[] 0 (Nat.le_refl _) (by omega) rfl, rfl, Nat.zero_le _, Ext.allocR _ _⟩
  have H0 := Lib.hid h0
  clear h0
  go_loopw [9, 10] (fun v i wr => ∃ (j m : Nat) (A' : Option Addr) (c' : Nat), j ≤ n ∧ i = .int .i64 (j : Int) ∧ v = .slice A' m c' ∧ RrI w low high most l j m A' c' wr) (fun _ i _ => n - (intOf i).toNat)
  case atStart => exact ⟨0, 0, _, 0, by omega, rfl, rfl, H0.out⟩
  case round =>
    clear H0
    obtain ⟨j, m, A', c', hj, rfl, rfl, hi⟩ := hrel
    have HI := Lib.hid hi
    have hlj : ((l.take j).filter (inR low high)).length ≤ j := by
      have h1 := List.length_filter_le (inR low high) (l.take j)
      rw [List.length_take] at h1
      omega
    have hmj : m ≤ j := by rw [← hi.ln]; exact hlj
    have hmm := hi.le
    clear hlj
    by_cases hjn : j < n ∧ m < most
    · have pj : (j : Int) < (n : Int) := by omega
      have pm : (m : Int) < (most : Int) := by omega
      have wj : IntKind.i64.wrap ((j : Int) + 1) = ((j + 1 : Nat) : Int) := by rw [IntWalk.i64_in _ (by omega)]; rfl
      have hjl : j < l.length := by rw [HL.out]; exact hjn.1
      obtain ⟨b, o, rfl, hc⟩ := (H.out.below hi.ex).at_ (by omega)
      obtain ⟨q1, q2⟩ := pcs_at l j hjl
      have k1 := hc _ _ q1
      have k2 := hc _ _ q2
      rw [← Nat.add_assoc] at k2
      have HS := Lib.hid (inR_succ hjl low high)
      obtain ⟨x, hx0⟩ : ∃ x, l[j] = x := ⟨_, rfl⟩
      rw [hx0] at k1 k2 HS
      obtain ⟨xk, xv⟩ := x
      have HQ := Lib.hid (show inR low high (xk, xv) = (!sl xk low && (decide (hz = 0) || sl xk high)) by unfold inR; rw [HHI.out])
      clear hc q1 q2 hx0 hjl hi
      cases c1 : sl xk low with
      | true =>
        have d1 : Op.bytesLess xk.toList low.toList = true := c1
        have HE := Lib.hid (show (l.take (j + 1)).filter (inR low high) = (l.take j).filter (inR low high) by rw [HS.out, HQ.out, c1]; simp)
        clear c1
        go_wp2_with fail
        exact ⟨⟨j + 1, m, A', c', by omega, by go_num, rfl, ⟨by rw [HE.out]; exact HI.out.ow, by rw [HE.out]; exact HI.out.ln, HI.out.le, HI.out.ex⟩⟩, by simp [intOf]; omega⟩
      | false =>
        have d1 : Op.bytesLess xk.toList low.toList = false := c1
        by_cases hz0 : hz = 0
        · have hv0 : high.toList = [] := List.eq_nil_of_length_eq_zero (by rw [HVL.out]; exact hz0)
          have hv1 : high.toList.isEmpty = true := by rw [hv0]; rfl
          have HE := Lib.hid (show (l.take (j + 1)).filter (inR low high) = (l.take j).filter (inR low high) ++ [(xk, xv)] by rw [HS.out, HQ.out, c1, hz0]; simp)
          clear c1 hz0
          go_upto_region 4 with (at_builtin; refine wpl_appP rfl _ _ rfl w.heap.size (.slice A' m c') ((l.take j).filter (inR low high)) rfl (own_below HI.out.ow (Ext.allocR _ _)) (some ⟨wr.heap.size, 0, none⟩) 1 1 [(xk, xv)] rfl (rv_lit TPA 2 #[.string xk, .string xv] 1 (by omega) rfl) (by have := HI.out.ln; omega) (by omega) (Ext.size (bt HI.out.ex (Ext.allocR _ _))) ?_; intro A8 n8 c8 w8 o8 r8 b8 g8; have HAP := Lib.hid (And.intro o8 (And.intro r8.len (show Ext w w8 from Below.trans (bt HI.out.ex (Ext.allocR _ _)) b8))); clear o8 r8 b8 g8)
          obtain rfl : n8 = m + 1 := by
            have h1 := HAP.out.2.1
            have h2 := HI.out.ln
            rw [pcs_len, List.length_append, List.length_singleton] at h1
            omega
          go_wp2_with fail
          exact ⟨⟨j + 1, m + 1, A8, c8, by omega, by go_num, rfl, ⟨by rw [HE.out]; exact HAP.out.1, by rw [HE.out, List.length_append, HI.out.ln]; rfl, by omega, HAP.out.2.2⟩⟩, by simp [intOf]; omega⟩
        · have hv0 : ¬ high.toList = [] := fun e => hz0 (by rw [← HVL.out, e]; rfl)
          have hv1 : high.toList.isEmpty = false := by rw [List.isEmpty_eq_false_iff]; exact hv0
          cases c2 : sl xk high with
          | true =>
            have d2 : Op.bytesLess xk.toList high.toList = true := c2
            have HE := Lib.hid (show (l.take (j + 1)).filter (inR low high) = (l.take j).filter (inR low high) ++ [(xk, xv)] by rw [HS.out, HQ.out, c1, c2]; simp)
            clear c1 c2 hz0
            go_upto_region 4 with (at_builtin; refine wpl_appP rfl _ _ rfl w.heap.size (.slice A' m c') ((l.take j).filter (inR low high)) rfl (own_below HI.out.ow (Ext.allocR _ _)) (some ⟨wr.heap.size, 0, none⟩) 1 1 [(xk, xv)] rfl (rv_lit TPA 2 #[.string xk, .string xv] 1 (by omega) rfl) (by have := HI.out.ln; omega) (by omega) (Ext.size (bt HI.out.ex (Ext.allocR _ _))) ?_; intro A8 n8 c8 w8 o8 r8 b8 g8; have HAP := Lib.hid (And.intro o8 (And.intro r8.len (show Ext w w8 from Below.trans (bt HI.out.ex (Ext.allocR _ _)) b8))); clear o8 r8 b8 g8)
            obtain rfl : n8 = m + 1 := by
              have h1 := HAP.out.2.1
              have h2 := HI.out.ln
              rw [pcs_len, List.length_append, List.length_singleton] at h1
              omega
            go_wp2_with fail
            exact ⟨⟨j + 1, m + 1, A8, c8, by omega, by go_num, rfl, ⟨by rw [HE.out]; exact HAP.out.1, by rw [HE.out, List.length_append, HI.out.ln]; rfl, by omega, HAP.out.2.2⟩⟩, by simp [intOf]; omega⟩
          | false =>
            have d2 : Op.bytesLess xk.toList high.toList = false := c2
            have HE := Lib.hid (show (l.take (j + 1)).filter (inR low high) = (l.take j).filter (inR low high) by rw [HS.out, HQ.out, c1, c2, decide_eq_false hz0]; simp)
            clear c1 c2 hz0
            go_wp2_with fail
            exact ⟨⟨j + 1, m, A', c', by omega, by go_num, rfl, ⟨by rw [HE.out]; exact HI.out.ow, by rw [HE.out]; exact HI.out.ln, HI.out.le, HI.out.ex⟩⟩, by simp [intOf]; omega⟩
    · have HE := Lib.hid (show (l.filter (inR low high)).take most = (l.take j).filter (inR low high) by
        have e : l = l.take j ++ l.drop j := (List.take_append_drop j l).symm
        by_cases hjj : j < n
        · have hme : m = most := by omega
          conv => lhs; rw [e, List.filter_append]
          rw [← hme, ← hi.ln]
          exact List.take_left' rfl
        · have h1 : l.take j = l := List.take_of_length_le (by rw [HL.out]; omega)
          have h2 := hi.ln
          rw [h1] at h2 ⊢
          exact List.take_of_length_le (by omega))
      have HO := Lib.hid (And.intro hi.ow hi.ex)
      clear hi
      by_cases hjj : j < n
      · have p1 : (j : Int) < (n : Int) := by omega
        have p2 : ¬ (m : Int) < (most : Int) := by omega
        go_wp2
        go_returns
        exact ⟨_, rfl, by rw [HE.out]; exact HO.out.1, HO.out.2⟩
      · have p1 : ¬ (j : Int) < (n : Int) := by omega
        go_wp2
        go_returns
        exact ⟨_, rfl, by rw [HE.out]; exact HO.out.1, HO.out.2⟩
set_option maxHeartbeats 3200000 in
set_option maxRecDepth 100000 in
theorem zsamec_any (A1 A2 : Option Addr) (n1 c1 n2 c2 : Nat) (l : List Cg) (w : World) (h1 : Rv w 3 A1 n1 c1 (ccs l)) (h2 : Rv w 3 A2 n2 c2 (ccs l)) (hn : l.length ≤ 1000000) : Calls Tryz.prog 41 #[.slice A1 n1 c1, .slice A2 n2 c2] w (Ret (fun z _ => z = .bool true) w) := by
  have hl1 : l.length = n1 := by have := h1.len; rw [ccs_len] at this; omega
  have hl2 : l.length = n2 := by have := h2.len; rw [ccs_len] at this; omega
  obtain rfl : n1 = n2 := by omega
  have hle1 := h1.le
  have hle2 := h2.le
  have hcp1 := h1.cap
  have hcp2 := h2.cap
  have hn2 : n1 ≤ 1000000 := by omega
  have H1 := Lib.hid h1
  have H2 := Lib.hid h2
  have HL := Lib.hid hl1
  clear h1 h2 hl1 hl2 hn
  go_enter Tryz.func41, Tryz.ntmps41
  go_wp2_with fail
  go_loopw [5] (fun i wr => ∃ j : Nat, j ≤ n1 ∧ i = .int .i64 (j : Int) ∧ Ext w wr) (fun i _ => n1 - (intOf i).toNat)
  case atStart => exact ⟨0, by omega, rfl, Ext.refl _⟩
  case round =>
    obtain ⟨j, hj, rfl, hx⟩ := hrel
    have HX := Lib.hid hx
    by_cases hjn : j < n1
    · have pj : (j : Int) < (n1 : Int) := by omega
      have hjl : j < l.length := by rw [HL.out]; exact hjn
      obtain ⟨q1, q2, q3⟩ := ccs_at l j hjl
      obtain ⟨b1, o1, rfl, hc1⟩ := (H1.out.below hx).at_ (by omega)
      obtain ⟨b2, o2, rfl, hc2⟩ := (H2.out.below hx).at_ (by omega)
      have k1 := hc1 _ _ q1
      have k2 := hc1 _ _ q2
      have k3 := hc1 _ _ q3
      have k4 := hc2 _ _ q1
      have k5 := hc2 _ _ q2
      have k6 := hc2 _ _ q3
      rw [← Nat.add_assoc] at k2 k3 k5 k6
      obtain ⟨x, hx0⟩ : ∃ x, l[j] = x := ⟨_, rfl⟩
      rw [hx0] at k1 k2 k3 k4 k5 k6
      obtain ⟨xk, xv, xg⟩ := x
      have m1 := fun w' (hh : Ext wr w') => ext_cell hh k1
      have m2 := fun w' (hh : Ext wr w') => ext_cell hh k2
      have m3 := fun w' (hh : Ext wr w') => ext_cell hh k3
      have m4 := fun w' (hh : Ext wr w') => ext_cell hh k4
      have m5 := fun w' (hh : Ext wr w') => ext_cell hh k5
      have m6 := fun w' (hh : Ext wr w') => ext_cell hh k6
      have hst : Ext wr wr.drew := Ext.drew _
      clear hc1 hc2 q1 q2 q3 hx0 k1 k2 k3 k4 k5 k6 hx hjl
      go_upto_region 6 with fail
      refine wp_region_adv 8 [] [(0, true, some 17, none), (1, true, some 18, none), (2, true, some 19, none), (3, true, some 20, none), (4, true, some 21, none), (5, true, some 22, none), (6, true, some 23, none), (7, true, some 24, none)] (by kernel_rfl) (by kernel_rfl) (by kernel_rfl) (by intro it hit; (repeat (rcases List.mem_cons.1 hit with rfl | hit; (focus (intro o ho ev w; injection ho with ho; subst ho; kernel_rfl)))); cases hit) (fun _ _ _ _ _ => ⟨fun h => h, fun h => h⟩) hst ?_
      repeat (first | (refine wpSeq_pure (v := ?_) rfl ?_ ?_; rotate_left 1; (focus (intro wq_ hSq_; (try dsimp only at hSq_); go_simp; (try with_reducible rfl); done)); (try simp only [Act.put, List.setIfInBounds_toArray, List.set_cons_zero, List.set_cons_succ])) | (refine wpSeq_pureG (v := ?_) rfl rfl ?_ ?_; rotate_left 1; (focus (intro wq_ hSq_; (try dsimp only at hSq_); go_simp; (try with_reducible rfl); done)); (try simp only [Act.put, List.setIfInBounds_toArray, List.set_cons_zero, List.set_cons_succ])) | (refine wpSeq_off rfl rfl ?_; (try simp only [Act.put, List.setIfInBounds_toArray, List.set_cons_zero, List.set_cons_succ])) | (refine wpSeq_offU rfl ?_; (try simp only [Act.put, List.setIfInBounds_toArray, List.set_cons_zero, List.set_cons_succ])))
      intro wz gz sz_
      (try simp only [endJ, List.drop_succ_cons, List.drop_zero])
      have XZ := Lib.hid (bt HX.out sz_)
      clear m1 m2 m3 m4 m5 m6 hst gz sz_
      go_wp2_with fail
      go_roundw
      case rel => exact ⟨j + 1, by omega, by go_num, XZ.out⟩
      case measure => simp [intOf]; omega
    · obtain rfl : j = n1 := by omega
      clear hx
      go_wp2
      go_returns
      exact ⟨_, rfl, rfl, HX.out⟩
end Go.Proofs.Tb
