/- The pieces of TopVersions: contracts of pairs, fold, some, equal. -/
import Derived.Test.YtfljnfdeboibhaaGreatRpe
import Derived.Test.YtfljnfdeboibhaaGreatRpx
set_option linter.unusedVariables false
set_option linter.unusedSimpArgs false
namespace Go.Proofs.Tb
open Go.Maps Go.RowKit Go.Lib
attribute [local go_sem] cell_set_same neqMapL

set_option maxHeartbeats 1600000 in
set_option maxRecDepth 100000 in
theorem tpairs_any (A1 A2 : Option Addr) (n1 c1 n2 c2 : Nat) (l : List Pr) (w : World) (h1 : Rv w 2 A1 n1 c1 (pcs l)) (h2 : Rv w 2 A2 n2 c2 (pcs l)) (hn : l.length ≤ 1000000) : Calls Tryz.prog 57 #[.slice A1 n1 c1, .slice A2 n2 c2] w (Ret (fun z _ => z = .bool true) w) := by
  have hl1 : l.length = n1 := by have := h1.len; rw [pcs_len] at this; omega
  have hl2 : l.length = n2 := by have := h2.len; rw [pcs_len] at this; omega
  obtain rfl : n1 = n2 := by omega
  have hle1 := h1.le
  have hle2 := h2.le
  have hcp1 := h1.cap
  have hcp2 := h2.cap
  have hn2 : n1 ≤ 1000000 := by omega
  have H1 := Lib.hid h1
  have H2 := Lib.hid h2
  have HL := Lib.hid hl1
  clear h1 h2 hl1 hl2 hn
  go_enter Tryz.func57, Tryz.ntmps57
  go_wp2_with fail
  go_loopw [5] (fun i wr => ∃ j : Nat, j ≤ n1 ∧ i = .int .i64 (j : Int) ∧ Ext w wr) (fun i _ => n1 - (intOf i).toNat)
  case atStart => exact ⟨0, by omega, rfl, Ext.refl _⟩
  case round =>
    obtain ⟨j, hj, rfl, hx⟩ := hrel
    have HX := Lib.hid hx
    by_cases hjn : j < n1
    · have pj : (j : Int) < (n1 : Int) := by omega
      have hjl : j < l.length := by rw [HL.out]; exact hjn
      obtain ⟨q1, q2⟩ := pcs_at l j hjl
      obtain ⟨b1, o1, rfl, hc1⟩ := (H1.out.below hx).at_ (by omega)
      obtain ⟨b2, o2, rfl, hc2⟩ := (H2.out.below hx).at_ (by omega)
      have k1 := hc1 _ _ q1
      have k2 := hc1 _ _ q2
      have k3 := hc2 _ _ q1
      have k4 := hc2 _ _ q2
      rw [← Nat.add_assoc] at k2 k4
      obtain ⟨x, hx0⟩ : ∃ x, l[j] = x := ⟨_, rfl⟩
      rw [hx0] at k1 k2 k3 k4
      obtain ⟨xk, xv⟩ := x
      have m1 := fun w' (hh : Ext wr w') => ext_cell hh k1
      have m2 := fun w' (hh : Ext wr w') => ext_cell hh k2
      have m3 := fun w' (hh : Ext wr w') => ext_cell hh k3
      have m4 := fun w' (hh : Ext wr w') => ext_cell hh k4
      have hst : Ext wr wr.drew := Ext.drew _
      clear hc1 hc2 q1 q2 hx0 k1 k2 k3 k4 hx hjl
      go_upto_region 6 with fail
      refine wp_region_adv 8 [] [(0, true, some 17, none), (1, true, some 18, none), (2, true, some 19, none), (3, true, some 20, none), (4, true, some 21, none), (5, true, some 22, none), (6, true, some 23, none), (7, true, some 24, none)] (by kernel_rfl) (by kernel_rfl) (by kernel_rfl) (by intro it hit; (repeat (rcases List.mem_cons.1 hit with rfl | hit; (focus (intro o ho ev w; injection ho with ho; subst ho; kernel_rfl)))); cases hit) (fun _ _ _ _ _ => ⟨fun h => h, fun h => h⟩) hst ?_
      repeat (first | (refine wpSeq_pure (v := ?_) rfl ?_ ?_; rotate_left 1; (focus (intro wq_ hSq_; (try dsimp only at hSq_); go_simp; (try with_reducible rfl); done)); (try simp only [Act.put, List.setIfInBounds_toArray, List.set_cons_zero, List.set_cons_succ])) | (refine wpSeq_pureG (v := ?_) rfl rfl ?_ ?_; rotate_left 1; (focus (intro wq_ hSq_; (try dsimp only at hSq_); go_simp; (try with_reducible rfl); done)); (try simp only [Act.put, List.setIfInBounds_toArray, List.set_cons_zero, List.set_cons_succ])) | (refine wpSeq_off rfl rfl ?_; (try simp only [Act.put, List.setIfInBounds_toArray, List.set_cons_zero, List.set_cons_succ])) | (refine wpSeq_offU rfl ?_; (try simp only [Act.put, List.setIfInBounds_toArray, List.set_cons_zero, List.set_cons_succ])))
      intro wz gz sz_
      (try simp only [endJ, List.drop_succ_cons, List.drop_zero])
      have XZ := Lib.hid (bt HX.out sz_)
      clear m1 m2 m3 m4 hst gz sz_
      go_wp2_with fail
      go_roundw
      case rel => exact ⟨j + 1, by omega, by go_num, XZ.out⟩
      case measure => simp [intOf]; omega
    · obtain rfl : j = n1 := by omega
      clear hx
      go_wp2
      go_returns
      exact ⟨_, rfl, rfl, HX.out⟩
theorem cycT (x : Int) (L : Nat) (h1 : 1 ≤ L) (h2 : L ≤ 1000000) : ∃ e : Nat, e < L ∧ (wrap64 (x.tmod L + L)).tmod L = (e : Int) := by
  have hL : (0 : Int) < (L : Int) := by omega
  have a1 := Int.tmod_lt_of_pos x hL
  have a2 := Int.lt_tmod_of_pos x hL
  obtain ⟨r, hr⟩ : ∃ r, x.tmod (L : Int) = r := ⟨_, rfl⟩
  rw [hr] at a1 a2 ⊢
  have hw : wrap64 (r + L) = r + L := by unfold wrap64; omega
  rw [hw]
  have b1 := Int.tmod_lt_of_pos (r + L) hL
  have b2 := Int.tmod_nonneg (L : Int) (show 0 ≤ r + L by omega)
  exact ⟨((r + L).tmod L).toNat, by omega, by omega⟩
set_option maxHeartbeats 1600000 in
set_option maxRecDepth 100000 in
theorem tfold_any (v : Int) (n : Nat) (h1 : 1 ≤ n) (h2 : n ≤ 1000000) (w : World) : Calls Tryz.prog 54 #[.int .i64 v, .int .i64 (n : Int)] w (Ret (fun z _ => ∃ e : Nat, e < n ∧ z = .int .i64 (e : Int)) w) := by
  obtain ⟨e, he, hee⟩ := cycT v n h1 h2
  have HE := Lib.hid he
  have hn0 : ¬ n = 0 := by omega
  clear he h1 h2
  go_enter Tryz.func54, Tryz.ntmps54
  go_wp2
  (try simp only [Exit.inBlock, Exit.then])
  refine bodyPost_ret (v := (.int .i64 (e : Int))) (by simp [results, Tryz.results54, go_sem, *]) rfl ?_
  exact ⟨_, rfl, ⟨e, HE.out, rfl⟩, Ext.refl _⟩
/-- Changes whose keys begin with k. -/
def SmC (o : List Cg) : Prop := ∀ c ∈ o, (1 ≤ c.k.size ∧ c.k.size ≤ 7 ∧ c.v.size ≤ 24 ∧ (c.gone = true → c.v.size = 0)) ∧ ∃ tl, c.k.toList = 107 :: tl
theorem SmC.snoc {o : List Cg} {c : Cg} (h : SmC o) (h1 : 1 ≤ c.k.size ∧ c.k.size ≤ 7 ∧ c.v.size ≤ 24 ∧ (c.gone = true → c.v.size = 0)) (h2 : ∃ tl, c.k.toList = 107 :: tl) : SmC (o ++ [c]) := fun x hx => by
  rcases List.mem_append.1 hx with hx | hx
  · exact h x hx
  · rw [List.mem_singleton.1 hx]; exact ⟨h1, h2⟩
theorem k_size (x : Str) : (⟨#[107]⟩ ++ x : Str).size = 1 + x.size := by
  rw [ByteArray.size_append]; rfl
theorem k_head (x : Str) : ∃ tl, (⟨#[107]⟩ ++ x : Str).toList = 107 :: tl := by
  refine ⟨x.data.toList, ?_⟩
  rw [ByteArray.toList_eq, ByteArray.data_append, Array.toList_append]
  rfl
set_option maxHeartbeats 6400000 in
set_option maxRecDepth 100000 in
theorem tsome_any (A : Option Addr) (n c : Nat) (ys : List Cg) (w : World) (h : Rv w 3 A n c (ccs ys)) (hs : ∀ x ∈ ys, x.k.size ≤ 9223372036854775807 ∧ x.v.size ≤ 9223372036854775807) :
    Calls Tryz.prog 53 #[.slice A n c] w (Ret (fun z w' => ∃ o, OwC w.heap.size w' z o ∧ 1 ≤ o.length ∧ o.length ≤ 6 ∧ SmC o) w) := by
  have hlen : ys.length = n := by have := h.len; rw [ccs_len] at this; omega
  have hle := h.le
  have HR := Lib.hid h
  have HS := Lib.hid hs
  have HCP := Lib.hid h.cap
  clear h hs
  go_enter Tryz.func53, Tryz.ntmps53
  go_wp2_with fail
  have H0 := Lib.hid (show OwC w.heap.size (w.alloc (.cells #[] TCG)) (.slice (some ⟨w.heap.size, 0, none⟩) 0 0) [] ∧ Ext w (w.alloc (.cells #[] TCG)) from ⟨own_lit TCG 3 #[] 0 (Nat.le_refl _) (by omega) rfl, Ext.allocR _ _⟩)
  go_loopw [3, 4] (fun v i wr => ∃ (j : Nat) (A5 : Option Addr) (c5 : Nat) (o : List Cg), j ≤ n ∧ j ≤ 6 ∧ v = .slice A5 j c5 ∧ i = .int .i64 (j : Int) ∧ OwC w.heap.size wr (.slice A5 j c5) o ∧ o.length = j ∧ SmC o ∧ Ext w wr) (fun _ i _ => n - (intOf i).toNat)
  case atStart => exact ⟨0, _, _, [], by omega, by omega, rfl, rfl, H0.out.1, rfl, fun x hx => absurd hx (by simp), H0.out.2⟩
  case round =>
    clear H0
    obtain ⟨j, A5, c5, o, hj, hj6, rfl, rfl, ho, hol, hsm, hx⟩ := hrel
    have HO := Lib.hid (And.intro ho (And.intro hol (And.intro hsm hx)))
    have hj5 : j ≤ c5 := (own_rvv ho).le
    have hc5 : c5 ≤ 9223372036854775807 := (own_rvv ho).cap
    clear ho hol hsm
    by_cases hjn : j < n ∧ j < 6
    · have p1 : (j : Int) < (n : Int) := by omega
      have p2 : (j : Int) < 6 := by omega
      have wj : IntKind.i64.wrap ((j : Int) + 1) = ((j + 1 : Nat) : Int) := by rw [IntWalk.i64_in _ (by omega)]; rfl
      have hjl : j < ys.length := by omega
      obtain ⟨b, oo, rfl, hc⟩ := (HR.out.below hx).at_ (by omega)
      obtain ⟨g1, g2, g3⟩ := ccs_at ys j hjl
      have k1 := hc _ _ g1
      have k2 := hc _ _ g2
      have k3 := hc _ _ g3
      obtain ⟨hk, hv⟩ := HS.out _ (List.getElem_mem hjl)
      obtain ⟨⟨xk, xv, xg⟩, hx0⟩ : ∃ x, ys[j] = x := ⟨_, rfl⟩
      rw [hx0] at k1 k2 k3 hk hv
      rw [← Nat.add_assoc] at k2 k3
      have m1 := fun w' (hh : Ext wr w') => ext_cell hh k1
      have m2 := fun w' (hh : Ext wr w') => ext_cell hh k2
      have m3 := fun w' (hh : Ext wr w') => ext_cell hh k3
      have KV := Lib.hid k2
      have hst : Ext wr wr.drew := Ext.drew _
      clear hc g1 g2 g3 hx0 hx hjl k1 k2 k3 hc5
      have qk1 : 0 ≤ min (xk.size : Int) 6 := by omega
      have qk2 : min (xk.size : Int) 6 ≤ (xk.size : Int) := by omega
      have qv1 : 0 ≤ min (xv.size : Int) 24 := by omega
      have qv2 : min (xv.size : Int) 24 ≤ (xv.size : Int) := by omega
      clear hk hv
      obtain ⟨yk, hyk⟩ : ∃ yk, ByteArray.extract xk 0 (min (xk.size : Int) 6).toNat = yk := ⟨_, rfl⟩
      have syk : yk.size ≤ 6 := by rw [← hyk, ByteArray.size_extract]; omega
      obtain ⟨q, hyq⟩ : ∃ q, yk.size = q := ⟨_, rfl⟩
      have hq6 : q ≤ 6 := by omega
      have hb1 : ¬ (9223372036854775807 : Int) < ((1 + q : Nat) : Int) := by omega
      have hb2 : ¬ (9223372036854775807 : Int) < 1 + (q : Int) := by omega
      have hb3 : ¬ 9223372036854775807 < 1 + q := by omega
      clear syk
      go_upto_region 5 with fail
      refine wp_region_adv 21 [⟨20, 5, TCG, #[.string ByteArray.empty, .string ByteArray.empty, .bool false]⟩] [(0, true, some 17, none), (1, true, some 18, none), (2, true, some 19, none), (3, true, some 20, none), (4, true, some 21, none), (5, true, some 22, none), (6, true, some 23, none), (7, true, some 24, none), (8, true, some 25, none), (9, true, some 26, none), (10, true, some 27, none), (11, true, some 28, none), (12, true, some 29, none), (13, true, some 30, none), (14, true, some 31, none), (15, true, some 32, none), (16, true, some 33, none), (17, true, some 34, none), (18, true, some 35, none), (19, true, some 36, none)] (by kernel_rfl) (by kernel_rfl) (by kernel_rfl) (by intro it hit; (repeat (rcases List.mem_cons.1 hit with rfl | hit; (focus (intro o ho ev w; injection ho with ho; subst ho; kernel_rfl)))); cases hit) (fun _ _ _ _ _ => ⟨fun h => h, fun h => h⟩) hst ?_
      repeat (first | (refine wpSeq_pure (v := ?_) rfl ?_ ?_; rotate_left 1; (focus (intro wq_ hSq_; (try dsimp only at hSq_); go_simp; (try with_reducible rfl); done)); (try simp only [Act.put, List.setIfInBounds_toArray, List.set_cons_zero, List.set_cons_succ])) | (refine wpSeq_pureG (v := ?_) rfl rfl ?_ ?_; rotate_left 1; (focus (intro wq_ hSq_; (try dsimp only at hSq_); go_simp; (try with_reducible rfl); done)); (try simp only [Act.put, List.setIfInBounds_toArray, List.set_cons_zero, List.set_cons_succ])) | (refine wpSeq_off rfl rfl ?_; (try simp only [Act.put, List.setIfInBounds_toArray, List.set_cons_zero, List.set_cons_succ])) | (refine wpSeq_offU rfl ?_; (try simp only [Act.put, List.setIfInBounds_toArray, List.set_cons_zero, List.set_cons_succ])))
      intro wz gz sz_
      (try simp only [endJ, List.drop_succ_cons, List.drop_zero])
      intro R hR hu_ hB
      (try simp only [endJ, Act.put, ptr, List.setIfInBounds_toArray, List.set_cons_zero, List.set_cons_succ])
      clear hu_
      obtain ⟨ky, hky⟩ : ∃ ky, (⟨#[107]⟩ ++ yk : Str) = ky := ⟨_, rfl⟩
      have hks : 1 ≤ ky.size ∧ ky.size ≤ 7 := by rw [← hky, k_size, hyq]; omega
      have hkh : ∃ tl, ky.toList = 107 :: tl := by rw [← hky]; exact k_head _
      rw [hky]
      have kR := hB.cells
      have fR := hB.free
      simp only [cellsAre, Nat.zero_add, Nat.reduceAdd, and_true] at kR
      have HBR := Lib.hid hB
      have HRX := Lib.hid (And.intro (show Ext wr wz from sz_) hR)
      have HKK := Lib.hid (And.intro hks hkh)
      clear hyk hyq hb1 hb2 hb3 hky hks hkh hB hR gz sz_ hst m1 m2 m3 qk1 qk2 hq6
      go_upto_region 6 with fail
      have hb6 : Blk (((wz.setCell ⟨R, 0, none⟩ (.string ky)).setCell ⟨R, 1, none⟩ (.string ⟨#[]⟩)).setCell ⟨R, 2, none⟩ (.bool xg)) R TCG #[.string ky, .string ⟨#[]⟩, .bool xg] := ((HBR.out.set_ 0 (.string ky)).set_ 1 (.string ⟨#[]⟩)).set_ 2 (.bool xg)
      have hx6 : Ext wr (((wz.setCell ⟨R, 0, none⟩ (.string ky)).setCell ⟨R, 1, none⟩ (.string ⟨#[]⟩)).setCell ⟨R, 2, none⟩ (.bool xg)) := ((HRX.out.1.setCell (p := ⟨R, 0, none⟩) HRX.out.2 _).setCell (p := ⟨R, 1, none⟩) HRX.out.2 _).setCell (p := ⟨R, 2, none⟩) HRX.out.2 _
      obtain ⟨w6, hw6⟩ : ∃ w6, (((wz.setCell ⟨R, 0, none⟩ (.string ky)).setCell ⟨R, 1, none⟩ (.string ⟨#[]⟩)).setCell ⟨R, 2, none⟩ (.bool xg)) = w6 := ⟨_, rfl⟩
      rw [hw6] at hb6 hx6 ⊢
      have HB6 := Lib.hid hb6
      have HX6 := Lib.hid hx6
      have k6 := hb6.cells
      simp only [cellsAre, Nat.zero_add, Nat.reduceAdd, and_true] at k6
      clear hw6 hb6 hx6 kR fR HBR
      cases xg with
      | true =>
        clear qv1 qv2
        go_upto_region 4 with (at_builtin; refine wpl_appC rfl _ _ rfl w.heap.size (.slice A5 j c5) o rfl (own_below HO.out.1 (bt HX6.out (Ext.allocR _ _))) (some ⟨w6.heap.size, 0, none⟩) 1 1 [⟨ky, ⟨#[]⟩, true⟩] rfl (rv_lit TCG 3 #[.string ky, .string ⟨#[]⟩, .bool true] 1 (by omega) rfl) (by have := HO.out.2.1; omega) (by omega) (Ext.size (bt HO.out.2.2.2 (bt HX6.out (Ext.allocR _ _)))) ?_; intro A8 n8 c8 w8 o8 r8 b8 g8; have HAP := Lib.hid (show OwC w.heap.size w8 (.slice A8 n8 c8) (o ++ [⟨ky, ⟨#[]⟩, true⟩]) ∧ Ext w w8 from ⟨o8, Below.trans (bt HO.out.2.2.2 (bt HX6.out (Ext.allocR _ _))) b8⟩); have hn8 := r8.len; clear o8 r8 b8 g8)
        obtain rfl : n8 = j + 1 := by have := HO.out.2.1; rw [ccs_len, List.length_append, List.length_singleton] at hn8; omega
        clear hn8
        go_wp2_with fail
        exact ⟨⟨j + 1, A8, c8, _, by omega, by omega, rfl, by go_num, HAP.out.1, by rw [List.length_append, HO.out.2.1]; rfl, HO.out.2.2.1.snoc ⟨HKK.out.1.1, HKK.out.1.2, by show (⟨#[]⟩ : Str).size ≤ 24; decide, fun _ => rfl⟩ HKK.out.2, HAP.out.2⟩, by simp [intOf]; omega⟩
      | false =>
        have m2 := fun w' (hh : Ext w6 w') => ext_cell (bt HX6.out hh) KV.out
        have hst : Ext w6 w6.drew := Ext.drew _
        go_upto_region 7 with fail
        refine wp_region_adv 12 [] [(0, true, some 40, none), (1, true, some 41, none), (2, true, some 42, none), (3, true, some 43, none), (4, true, some 44, none), (5, true, some 45, none), (6, true, some 46, none), (7, true, some 47, none), (8, true, some 48, none), (9, true, some 49, none), (10, true, some 50, none), (11, true, some 51, none)] (by kernel_rfl) (by kernel_rfl) (by kernel_rfl) (by intro it hit; (repeat (rcases List.mem_cons.1 hit with rfl | hit; (focus (intro o ho ev w; injection ho with ho; subst ho; kernel_rfl)))); cases hit) (fun _ _ _ _ _ => ⟨fun h => h, fun h => h⟩) hst ?_
        repeat (first | (refine wpSeq_pure (v := ?_) rfl ?_ ?_; rotate_left 1; (focus (intro wq_ hSq_; (try dsimp only at hSq_); go_simp; (try with_reducible rfl); done)); (try simp only [Act.put, List.setIfInBounds_toArray, List.set_cons_zero, List.set_cons_succ])) | (refine wpSeq_pureG (v := ?_) rfl rfl ?_ ?_; rotate_left 1; (focus (intro wq_ hSq_; (try dsimp only at hSq_); go_simp; (try with_reducible rfl); done)); (try simp only [Act.put, List.setIfInBounds_toArray, List.set_cons_zero, List.set_cons_succ])) | (refine wpSeq_off rfl rfl ?_; (try simp only [Act.put, List.setIfInBounds_toArray, List.set_cons_zero, List.set_cons_succ])) | (refine wpSeq_offU rfl ?_; (try simp only [Act.put, List.setIfInBounds_toArray, List.set_cons_zero, List.set_cons_succ])))
        intro wy gy sy
        (try simp only [endJ, List.drop_succ_cons, List.drop_zero])
        obtain ⟨yv, hyv⟩ : ∃ yv, ByteArray.extract xv 0 (min (xv.size : Int) 24).toNat = yv := ⟨_, rfl⟩
        have syv : yv.size ≤ 24 := by rw [← hyv, ByteArray.size_extract]; omega
        have hb7 := HB6.out.below sy
        have k7 := hb7.cells
        have f7 := hb7.free
        simp only [cellsAre, Nat.zero_add, Nat.reduceAdd, and_true] at k7
        have HB7 := Lib.hid hb7
        have HX7 := Lib.hid (bt HX6.out sy)
        clear hb7 m2 hst gy sy k6
        go_upto_region 8 with fail
        clear hyv qv1 qv2
        have hb8 : Blk (wy.setCell ⟨R, 1, none⟩ (.string yv)) R TCG #[.string ky, .string yv, .bool false] := HB7.out.set_ 1 (.string yv)
        have hx8 : Ext wr (wy.setCell ⟨R, 1, none⟩ (.string yv)) := HX7.out.setCell (p := ⟨R, 1, none⟩) HRX.out.2 _
        obtain ⟨w8_, hw8⟩ : ∃ w8_, wy.setCell ⟨R, 1, none⟩ (.string yv) = w8_ := ⟨_, rfl⟩
        rw [hw8] at hb8 hx8 ⊢
        have HX8 := Lib.hid hx8
        have k8 := hb8.cells
        simp only [cellsAre, Nat.zero_add, Nat.reduceAdd, and_true] at k8
        clear hw8 hb8 hx8 k7 f7 HB7 HX7
        go_upto_region 4 with (at_builtin; refine wpl_appC rfl _ _ rfl w.heap.size (.slice A5 j c5) o rfl (own_below HO.out.1 (bt HX8.out (Ext.allocR _ _))) (some ⟨w8_.heap.size, 0, none⟩) 1 1 [⟨ky, yv, false⟩] rfl (rv_lit TCG 3 #[.string ky, .string yv, .bool false] 1 (by omega) rfl) (by have := HO.out.2.1; omega) (by omega) (Ext.size (bt HO.out.2.2.2 (bt HX8.out (Ext.allocR _ _)))) ?_; intro A8 n8 c8 w8 o8 r8 b8 g8; have HAP := Lib.hid (show OwC w.heap.size w8 (.slice A8 n8 c8) (o ++ [⟨ky, yv, false⟩]) ∧ Ext w w8 from ⟨o8, Below.trans (bt HO.out.2.2.2 (bt HX8.out (Ext.allocR _ _))) b8⟩); have hn8 := r8.len; clear o8 r8 b8 g8)
        obtain rfl : n8 = j + 1 := by have := HO.out.2.1; rw [ccs_len, List.length_append, List.length_singleton] at hn8; omega
        clear hn8
        go_wp2_with fail
        exact ⟨⟨j + 1, A8, c8, _, by omega, by omega, rfl, by go_num, HAP.out.1, by rw [List.length_append, HO.out.2.1]; rfl, HO.out.2.2.1.snoc ⟨HKK.out.1.1, HKK.out.1.2, syv, fun h => Bool.noConfusion h⟩ HKK.out.2, HAP.out.2⟩, by simp [intOf]; omega⟩
    · rcases Nat.eq_zero_or_pos j with hj0 | hj0
      · have hn0 : n = 0 := by omega
        have p1 : ¬ (j : Int) < (n : Int) := by omega
        have pj0 : ((j : Int) == 0) = true := by rw [hj0]; rfl
        subst hj0
        clear hx hjn
        go_upto_region 9 with fail
        clear p1
        go_upto_region 11 with (at_builtin; refine wpl_appC rfl _ _ rfl w.heap.size (.slice A5 0 c5) o rfl (own_below HO.out.1 (Ext.allocR _ _)) (some ⟨wr.heap.size, 0, none⟩) 1 1 [⟨⟨#[107]⟩, ⟨#[]⟩, false⟩] rfl (rv_lit TCG 3 #[.string ⟨#[107]⟩, .string ⟨#[]⟩, .bool false] 1 (by omega) rfl) (by have := HO.out.2.1; omega) (by omega) (Ext.size (bt HO.out.2.2.2 (Ext.allocR _ _))) ?_; intro A8 n8 c8 w8 o8 r8 b8 g8; have HAP := Lib.hid (show OwC w.heap.size w8 (.slice A8 n8 c8) (o ++ [⟨⟨#[107]⟩, ⟨#[]⟩, false⟩]) ∧ Ext w w8 from ⟨o8, Below.trans (bt HO.out.2.2.2 (Ext.allocR _ _)) b8⟩); clear o8 r8 b8 g8)
        have HSM := Lib.hid (HO.out.2.2.1.snoc (c := ⟨⟨#[107]⟩, ⟨#[]⟩, false⟩) ⟨by decide, by decide, by decide, fun h => Bool.noConfusion h⟩ ⟨[], by show (⟨#[107]⟩ : Str).toList = [107]; rw [ByteArray.toList_eq]⟩)
        have HLN := Lib.hid HO.out.2.1
        clear HO
        go_wp2
        go_returns
        exact ⟨_, rfl, ⟨_, HAP.out.1, by rw [List.length_append]; exact Nat.le_add_left _ _, by rw [List.length_append, HLN.out]; decide, HSM.out⟩, HAP.out.2⟩
      · have pj0 : ((j : Int) == 0) = false := by rw [beq_eq_false_iff_ne]; omega
        have pj1 : ¬ (j : Int) = 0 := by omega
        have pj2 : ¬ j = 0 := by omega
        clear hx
        rcases Nat.lt_or_ge j n with hlt | hge
        · have p1 : (j : Int) < (n : Int) := by omega
          have p2 : ¬ (j : Int) < 6 := by omega
          go_wp2
          go_returns
          exact ⟨_, rfl, ⟨o, HO.out.1, by have := HO.out.2.1; omega, by have := HO.out.2.1; omega, HO.out.2.2.1⟩, HO.out.2.2.2⟩
        · have p1 : ¬ (j : Int) < (n : Int) := by omega
          go_wp2
          go_returns
          exact ⟨_, rfl, ⟨o, HO.out.1, by have := HO.out.2.1; omega, by have := HO.out.2.1; omega, HO.out.2.2.1⟩, HO.out.2.2.2⟩
end Go.Proofs.Tb
