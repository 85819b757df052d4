/- Contract of balanced. -/
import Derived.Test.YtfljnfdeboibhaaStc
set_option linter.unusedVariables false
set_option linter.unusedSimpArgs false
namespace Go.Proofs.Tb
open Go.RowKit
attribute [local go_sem] cell_set_same

theorem MT.ad_node (g : Nat) (k v : Str) (l r : MT) : (MT.node g k v l r).ad = some ⟨g, 0, none⟩ := rfl
theorem TrW.ht_ne {t : MT} (h : 0 < t.er.ht) : ∃ g k v l r, t = .node g k v l r := by
  cases t with
  | nil => exact absurd h (by simp [MT.er, Tr.ht])
  | node g k v l r => exact ⟨g, k, v, l, r, rfl⟩
set_option maxHeartbeats 6400000 in
set_option maxRecDepth 100000 in
theorem rbalanced_any (B : Nat → Nat) (Q : Nat → Prop) (g : Nat) (k v : Str) (l r : MT) (w : World) (h : TrW w B Q (.node g k v l r)) (hf : Frs w B Q) (hs : l.er.size + r.er.size ≤ 100000000) :
    Calls Try.prog 78 #[.pointer (some ⟨g, 0, none⟩)] w (Ret (TrR B Q (Tr.bal k v l.er r.er)) w) := by
  have HH := Lib.hid h
  have HF := Lib.hid hf
  have hb1 := l.er.ht_size
  have hb2 := r.er.ht_size
  have kc := fun w' (hh : Ext w w') => (HH.out.1.below hh).cells
  simp only [cellsAre, Nat.zero_add, Nat.reduceAdd, and_true] at kc
  have hst : Ext w w.drew := Ext.drew _
  obtain ⟨H1, hH1⟩ : ∃ H, l.er.ht = H := ⟨_, rfl⟩
  obtain ⟨H2, hH2⟩ : ∃ H, r.er.ht = H := ⟨_, rfl⟩
  rw [hH1] at hb1
  rw [hH2] at hb2
  have HH1 := Lib.hid hH1
  have HH2 := Lib.hid hH2
  have wd : IntKind.i64.wrap ((H1 : Int) - (H2 : Int)) = (H1 : Int) - (H2 : Int) := IntWalk.i64_in _ (by omega)
  clear h hf hH1 hH2
  go_enter Try.func78, Try.ntmps78
  go_upto_region 1 with fail
  refine wp_region_adv 9 [] [(0, true, some 8, none), (1, true, some 9, none), (2, true, some 10, none), (3, true, some 11, none), (5, true, some 13, none), (6, true, some 14, none), (7, true, some 15, none), (8, true, some 16, none), (4, false, some 12, none)] (by kernel_rfl) (by kernel_rfl) (by kernel_rfl) (by intro it hit; (repeat (rcases List.mem_cons.1 hit with rfl | hit; (focus (intro o ho ev w; injection ho with ho; subst ho; kernel_rfl)))); cases hit) (fun _ _ _ _ _ => ⟨fun h => h, fun h => h⟩) hst ?_
  repeat (first | (refine wpSeq_pure (v := ?_) rfl ?_ ?_; rotate_left 1; (focus (intro wq_ hSq_; (try dsimp only at hSq_); go_simp; (try with_reducible rfl); done)); (try simp only [Act.put, List.setIfInBounds_toArray, List.set_cons_zero, List.set_cons_succ])) | (refine wpSeq_pureG (v := ?_) rfl rfl ?_ ?_; rotate_left 1; (focus (intro wq_ hSq_; (try dsimp only at hSq_); go_simp; (try with_reducible rfl); done)); (try simp only [Act.put, List.setIfInBounds_toArray, List.set_cons_zero, List.set_cons_succ])) | (refine wpSeq_off rfl rfl ?_; (try simp only [Act.put, List.setIfInBounds_toArray, List.set_cons_zero, List.set_cons_succ])) | (refine wpSeq_offU rfl ?_; (try simp only [Act.put, List.setIfInBounds_toArray, List.set_cons_zero, List.set_cons_succ])))
  first | refine wpSeq_call rfl (fun u1 g1 s1 K hK => ?_) | refine wpSeq_callG rfl rfl (fun u1 g1 s1 K hK => ?_)
  go_simp
  refine (rheight_any B Q l u1 (HH.out.2.2.1.below s1)).mono ?_
  rintro e y1 ⟨z1, rfl, rfl, b1⟩
  rw [HH1.out]
  (try go_wp2_with fail)
  refine hK.out _ _ b1 ?_
  clear hK K
  (try simp only [Act.put, List.setIfInBounds_toArray, List.set_cons_zero, List.set_cons_succ])
  repeat (first | (refine wpSeq_pure (v := ?_) rfl ?_ ?_; rotate_left 1; (focus (intro wq_ hSq_; (try dsimp only at hSq_); go_simp; (try with_reducible rfl); done)); (try simp only [Act.put, List.setIfInBounds_toArray, List.set_cons_zero, List.set_cons_succ])) | (refine wpSeq_pureG (v := ?_) rfl rfl ?_ ?_; rotate_left 1; (focus (intro wq_ hSq_; (try dsimp only at hSq_); go_simp; (try with_reducible rfl); done)); (try simp only [Act.put, List.setIfInBounds_toArray, List.set_cons_zero, List.set_cons_succ])) | (refine wpSeq_off rfl rfl ?_; (try simp only [Act.put, List.setIfInBounds_toArray, List.set_cons_zero, List.set_cons_succ])) | (refine wpSeq_offU rfl ?_; (try simp only [Act.put, List.setIfInBounds_toArray, List.set_cons_zero, List.set_cons_succ])))
  intro w1 g1' s1'
  (try simp only [endJ, List.drop_succ_cons, List.drop_zero])
  go_wp2_with fail
  refine (rheight_any B Q r w1 (HH.out.2.2.2.below s1')).mono ?_
  rintro e w2 ⟨z2, rfl, rfl, b2⟩
  rw [HH2.out]
  have X2 := Lib.hid (bt s1' b2)
  have N2 := Lib.hid (HH.out.below (bt s1' b2))
  clear s1 g1 b1 s1' g1' b2 kc hst
  have k2 := fun w' (hh : Ext w2 w') => (N2.out.1.below hh).cells
  simp only [cellsAre, Nat.zero_add, Nat.reduceAdd, and_true] at k2
  have c2 := k2 w2 (Ext.refl _)
  by_cases hd1 : H2 + 1 < H1
  · have pd : (1 : Int) < (H1 : Int) - (H2 : Int) := by omega
    obtain ⟨gl, lk, lv, ll, lr, rfl⟩ := TrW.ht_ne (t := l) (by rw [HH1.out]; omega)
    have hsl : ll.er.size + lr.er.size + 1 + r.er.size ≤ 100000000 := hs
    have kl := fun w' (hh : Ext w2 w') => (N2.out.2.2.1.1.below hh).cells
    simp only [cellsAre, Nat.zero_add, Nat.reduceAdd, and_true] at kl
    simp only [MT.ad_node] at k2 c2
    have cl := kl w2 (Ext.refl _)
    have hst2 : Ext w2 w2.drew := Ext.drew _
    have hb3 := ll.er.ht_size
    have hb4 := lr.er.ht_size
    obtain ⟨H3, hH3⟩ : ∃ H, ll.er.ht = H := ⟨_, rfl⟩
    obtain ⟨H4, hH4⟩ : ∃ H, lr.er.ht = H := ⟨_, rfl⟩
    rw [hH3] at hb3
    rw [hH4] at hb4
    have HH3 := Lib.hid hH3
    have HH4 := Lib.hid hH4
    clear hH3 hH4
    go_upto_region 4 with fail
    refine wp_region_adv 9 [] [(0, true, some 26, none), (1, true, some 27, none), (2, true, some 28, none), (3, true, some 29, none), (5, true, some 31, none), (6, true, some 32, none), (7, true, some 33, none), (8, true, some 34, none), (4, false, some 30, none)] (by kernel_rfl) (by kernel_rfl) (by kernel_rfl) (by intro it hit; (repeat (rcases List.mem_cons.1 hit with rfl | hit; (focus (intro o ho ev w; injection ho with ho; subst ho; kernel_rfl)))); cases hit) (fun _ _ _ _ _ => ⟨fun h => h, fun h => h⟩) hst2 ?_
    repeat (first | (refine wpSeq_pure (v := ?_) rfl ?_ ?_; rotate_left 1; (focus (intro wq_ hSq_; (try dsimp only at hSq_); go_simp; (try with_reducible rfl); done)); (try simp only [Act.put, List.setIfInBounds_toArray, List.set_cons_zero, List.set_cons_succ])) | (refine wpSeq_pureG (v := ?_) rfl rfl ?_ ?_; rotate_left 1; (focus (intro wq_ hSq_; (try dsimp only at hSq_); go_simp; (try with_reducible rfl); done)); (try simp only [Act.put, List.setIfInBounds_toArray, List.set_cons_zero, List.set_cons_succ])) | (refine wpSeq_off rfl rfl ?_; (try simp only [Act.put, List.setIfInBounds_toArray, List.set_cons_zero, List.set_cons_succ])) | (refine wpSeq_offU rfl ?_; (try simp only [Act.put, List.setIfInBounds_toArray, List.set_cons_zero, List.set_cons_succ])))
    first | refine wpSeq_call rfl (fun u1 g1 s1 K hK => ?_) | refine wpSeq_callG rfl rfl (fun u1 g1 s1 K hK => ?_)
    go_simp
    refine (rheight_any B Q ll u1 (N2.out.2.2.1.2.2.1.below s1)).mono ?_
    rintro e y1 ⟨z1, rfl, rfl, b1⟩
    rw [HH3.out]
    (try go_wp2_with fail)
    refine hK.out _ _ b1 ?_
    clear hK K
    (try simp only [Act.put, List.setIfInBounds_toArray, List.set_cons_zero, List.set_cons_succ])
    repeat (first | (refine wpSeq_pure (v := ?_) rfl ?_ ?_; rotate_left 1; (focus (intro wq_ hSq_; (try dsimp only at hSq_); go_simp; (try with_reducible rfl); done)); (try simp only [Act.put, List.setIfInBounds_toArray, List.set_cons_zero, List.set_cons_succ])) | (refine wpSeq_pureG (v := ?_) rfl rfl ?_ ?_; rotate_left 1; (focus (intro wq_ hSq_; (try dsimp only at hSq_); go_simp; (try with_reducible rfl); done)); (try simp only [Act.put, List.setIfInBounds_toArray, List.set_cons_zero, List.set_cons_succ])) | (refine wpSeq_off rfl rfl ?_; (try simp only [Act.put, List.setIfInBounds_toArray, List.set_cons_zero, List.set_cons_succ])) | (refine wpSeq_offU rfl ?_; (try simp only [Act.put, List.setIfInBounds_toArray, List.set_cons_zero, List.set_cons_succ])))
    intro w3 g3 s3
    (try simp only [endJ, List.drop_succ_cons, List.drop_zero])
    go_wp2_with fail
    refine (rheight_any B Q lr w3 (N2.out.2.2.1.2.2.2.below s3)).mono ?_
    rintro e w4 ⟨z4, rfl, rfl, b4⟩
    rw [HH4.out]
    have X4 := Lib.hid (bt s3 b4)
    clear s1 g1 b1 s3 g3 b4 hst2 k2 kl c2 cl
    have N4 := Lib.hid (N2.out.below X4.out)
    have k4 := fun w' (hh : Ext w4 w') => (N4.out.1.below hh).cells
    have kl := fun w' (hh : Ext w4 w') => (N4.out.2.2.1.1.below hh).cells
    simp only [cellsAre, Nat.zero_add, Nat.reduceAdd, and_true] at k4 kl
    simp only [MT.ad_node] at k4
    have c4 := k4 w4 (Ext.refl _)
    have cl := kl w4 (Ext.refl _)
    have hst4 : Ext w4 w4.drew := Ext.drew _
    by_cases h34 : H3 < H4
    · have p34 : (H3 : Int) < (H4 : Int) := by omega
      obtain ⟨gm, mk, mv, ml, mr, rfl⟩ := TrW.ht_ne (t := lr) (by rw [HH4.out]; omega)
      have hsm : ll.er.size + (ml.er.size + mr.er.size + 1) + 1 + r.er.size ≤ 100000000 := hsl
      have km := fun w' (hh : Ext w4 w') => (N4.out.2.2.1.2.2.2.1.below hh).cells
      simp only [cellsAre, Nat.zero_add, Nat.reduceAdd, and_true] at km
      simp only [MT.ad_node] at kl cl
      have cm := km w4 (Ext.refl _)
      have HB := Lib.hid (show Tr.bal k v (MT.node gl lk lv ll (.node gm mk mv ml mr)).er r.er = .node mk mv (.node lk lv ll.er ml.er) (.node k v mr.er r.er) by
        unfold Tr.bal
        rw [HH1.out, HH2.out, if_pos hd1]
        simp only [MT.er]
        rw [HH3.out, show (Tr.node mk mv ml.er mr.er).ht = H4 from HH4.out, if_pos h34])
      go_upto_region 6 with fail
      refine wp_region_adv 21 [] [(0, true, some 41, none), (1, true, some 42, none), (2, true, some 43, none), (3, true, some 44, none), (4, true, some 45, none), (5, true, some 46, none), (6, true, some 47, none), (7, true, some 48, none), (8, true, some 49, none), (9, true, some 50, none), (11, true, some 52, none), (12, true, some 53, none), (13, true, some 54, none), (14, true, some 55, none), (15, true, some 56, none), (16, true, some 57, none), (17, true, some 58, none), (18, true, some 59, none), (19, true, some 60, none), (10, false, some 51, none), (20, false, some 61, none)] (by kernel_rfl) (by kernel_rfl) (by kernel_rfl) (by intro it hit; (repeat (rcases List.mem_cons.1 hit with rfl | hit; (focus (intro o ho ev w; injection ho with ho; subst ho; kernel_rfl)))); cases hit) (fun _ _ _ _ _ => ⟨fun h => h, fun h => h⟩) hst4 ?_
      repeat (first | (refine wpSeq_pure (v := ?_) rfl ?_ ?_; rotate_left 1; (focus (intro wq_ hSq_; (try dsimp only at hSq_); go_simp; (try with_reducible rfl); done)); (try simp only [Act.put, List.setIfInBounds_toArray, List.set_cons_zero, List.set_cons_succ])) | (refine wpSeq_pureG (v := ?_) rfl rfl ?_ ?_; rotate_left 1; (focus (intro wq_ hSq_; (try dsimp only at hSq_); go_simp; (try with_reducible rfl); done)); (try simp only [Act.put, List.setIfInBounds_toArray, List.set_cons_zero, List.set_cons_succ])) | (refine wpSeq_off rfl rfl ?_; (try simp only [Act.put, List.setIfInBounds_toArray, List.set_cons_zero, List.set_cons_succ])) | (refine wpSeq_offU rfl ?_; (try simp only [Act.put, List.setIfInBounds_toArray, List.set_cons_zero, List.set_cons_succ])))
      first | refine wpSeq_call rfl (fun u1 g1 s1 K hK => ?_) | refine wpSeq_callG rfl rfl (fun u1 g1 s1 K hK => ?_)
      go_simp
      refine (rjoin_any B Q gl lk lv ll (.node gm mk mv ml mr) ll ml u1 (N4.out.2.2.1.below s1) (N4.out.2.2.1.2.2.1.below s1) (N4.out.2.2.1.2.2.2.2.2.1.below s1) (HF.out.ext (bt X2.out (bt X4.out s1))) (by omega)).mono ?_
      rintro e y1 ⟨z1, rfl, ⟨t1, rfl, ht1, he1⟩, b1⟩
      (try go_wp2_with fail)
      refine hK.out _ _ b1 ?_
      clear hK K
      (try simp only [Act.put, List.setIfInBounds_toArray, List.set_cons_zero, List.set_cons_succ])
      repeat (first | (refine wpSeq_pure (v := ?_) rfl ?_ ?_; rotate_left 1; (focus (intro wq_ hSq_; (try dsimp only at hSq_); go_simp; (try with_reducible rfl); done)); (try simp only [Act.put, List.setIfInBounds_toArray, List.set_cons_zero, List.set_cons_succ])) | (refine wpSeq_pureG (v := ?_) rfl rfl ?_ ?_; rotate_left 1; (focus (intro wq_ hSq_; (try dsimp only at hSq_); go_simp; (try with_reducible rfl); done)); (try simp only [Act.put, List.setIfInBounds_toArray, List.set_cons_zero, List.set_cons_succ])) | (refine wpSeq_off rfl rfl ?_; (try simp only [Act.put, List.setIfInBounds_toArray, List.set_cons_zero, List.set_cons_succ])) | (refine wpSeq_offU rfl ?_; (try simp only [Act.put, List.setIfInBounds_toArray, List.set_cons_zero, List.set_cons_succ])))
      first | refine wpSeq_call rfl (fun u2 g2 s2 K hK => ?_) | refine wpSeq_callG rfl rfl (fun u2 g2 s2 K hK => ?_)
      go_simp
      refine (rjoin_any B Q g k v _ r mr r u2 (N4.out.below s2) (N4.out.2.2.1.2.2.2.2.2.2.below s2) (N4.out.2.2.2.below s2) (HF.out.ext (bt X2.out (bt X4.out s2))) (by omega)).mono ?_
      rintro e y2 ⟨z2, rfl, ⟨t2, rfl, ht2, he2⟩, b2⟩
      (try go_wp2_with fail)
      refine hK.out _ _ b2 ?_
      clear hK K
      (try simp only [Act.put, List.setIfInBounds_toArray, List.set_cons_zero, List.set_cons_succ])
      repeat (first | (refine wpSeq_pure (v := ?_) rfl ?_ ?_; rotate_left 1; (focus (intro wq_ hSq_; (try dsimp only at hSq_); go_simp; (try with_reducible rfl); done)); (try simp only [Act.put, List.setIfInBounds_toArray, List.set_cons_zero, List.set_cons_succ])) | (refine wpSeq_pureG (v := ?_) rfl rfl ?_ ?_; rotate_left 1; (focus (intro wq_ hSq_; (try dsimp only at hSq_); go_simp; (try with_reducible rfl); done)); (try simp only [Act.put, List.setIfInBounds_toArray, List.set_cons_zero, List.set_cons_succ])) | (refine wpSeq_off rfl rfl ?_; (try simp only [Act.put, List.setIfInBounds_toArray, List.set_cons_zero, List.set_cons_succ])) | (refine wpSeq_offU rfl ?_; (try simp only [Act.put, List.setIfInBounds_toArray, List.set_cons_zero, List.set_cons_succ])))
      intro wz gz sz_
      (try simp only [endJ, List.drop_succ_cons, List.drop_zero])
      have HE := Lib.hid (show t1.er.size + t2.er.size ≤ 1000000000 by rw [he1, he2]; simp only [Tr.size]; omega)
      have T1 := Lib.hid (ht1.below (bt g2 (bt b2 gz)))
      have T2 := Lib.hid (ht2.below gz)
      have HQ := Lib.hid (show Tr.node mk mv t1.er t2.er = .node mk mv (.node lk lv ll.er ml.er) (.node k v mr.er r.er) by rw [he1, he2])
      have XZ := Lib.hid (bt X2.out (bt X4.out sz_))
      have NM := Lib.hid (N4.out.2.2.1.2.2.2.below sz_)
      clear k4 kl km c4 cl cm hst4 s1 s2 sz_ g1 g2 gz b1 b2 ht1 ht2 he1 he2
      go_wp2_with fail
      refine (rjoin_any B Q gm mk mv ml mr t1 t2 wz NM.out T1.out T2.out (HF.out.ext XZ.out) HE.out).mono ?_
      rintro e y3 ⟨z3, rfl, hz3, b3⟩
      rw [HQ.out] at hz3
      have HZ := Lib.hid (And.intro hz3 (bt XZ.out b3))
      obtain ⟨t3, hz3', _⟩ := hz3
      subst hz3'
      clear b3
      go_wp2
      go_returns
      exact ⟨_, rfl, by rw [HB.out]; exact HZ.out.1, HZ.out.2⟩
    · have p34 : ¬ (H3 : Int) < (H4 : Int) := by omega
      have HB := Lib.hid (show Tr.bal k v (MT.node gl lk lv ll lr).er r.er = .node lk lv ll.er (.node k v lr.er r.er) by
        unfold Tr.bal
        rw [HH1.out, HH2.out, if_pos hd1]
        simp only [MT.er]
        rw [HH3.out, HH4.out, if_neg h34])
      go_upto_region 7 with fail
      refine wp_region_adv 15 [] [(0, true, some 63, none), (1, true, some 64, none), (2, true, some 65, none), (3, true, some 66, none), (4, true, some 67, none), (5, true, some 68, none), (6, true, some 69, none), (7, true, some 70, none), (8, true, some 71, none), (9, true, some 72, none), (10, true, some 73, none), (11, true, some 74, none), (12, true, some 75, none), (13, true, some 76, none), (14, false, some 77, none)] (by kernel_rfl) (by kernel_rfl) (by kernel_rfl) (by intro it hit; (repeat (rcases List.mem_cons.1 hit with rfl | hit; (focus (intro o ho ev w; injection ho with ho; subst ho; kernel_rfl)))); cases hit) (fun _ _ _ _ _ => ⟨fun h => h, fun h => h⟩) hst4 ?_
      repeat (first | (refine wpSeq_pure (v := ?_) rfl ?_ ?_; rotate_left 1; (focus (intro wq_ hSq_; (try dsimp only at hSq_); go_simp; (try with_reducible rfl); done)); (try simp only [Act.put, List.setIfInBounds_toArray, List.set_cons_zero, List.set_cons_succ])) | (refine wpSeq_pureG (v := ?_) rfl rfl ?_ ?_; rotate_left 1; (focus (intro wq_ hSq_; (try dsimp only at hSq_); go_simp; (try with_reducible rfl); done)); (try simp only [Act.put, List.setIfInBounds_toArray, List.set_cons_zero, List.set_cons_succ])) | (refine wpSeq_off rfl rfl ?_; (try simp only [Act.put, List.setIfInBounds_toArray, List.set_cons_zero, List.set_cons_succ])) | (refine wpSeq_offU rfl ?_; (try simp only [Act.put, List.setIfInBounds_toArray, List.set_cons_zero, List.set_cons_succ])))
      first | refine wpSeq_call rfl (fun u1 g1 s1 K hK => ?_) | refine wpSeq_callG rfl rfl (fun u1 g1 s1 K hK => ?_)
      go_simp
      refine (rjoin_any B Q g k v _ r lr r u1 (N4.out.below s1) (N4.out.2.2.1.2.2.2.below s1) (N4.out.2.2.2.below s1) (HF.out.ext (bt X2.out (bt X4.out s1))) (by omega)).mono ?_
      rintro e y1 ⟨z1, rfl, ⟨t1, rfl, ht1, he1⟩, b1⟩
      (try go_wp2_with fail)
      refine hK.out _ _ b1 ?_
      clear hK K
      (try simp only [Act.put, List.setIfInBounds_toArray, List.set_cons_zero, List.set_cons_succ])
      repeat (first | (refine wpSeq_pure (v := ?_) rfl ?_ ?_; rotate_left 1; (focus (intro wq_ hSq_; (try dsimp only at hSq_); go_simp; (try with_reducible rfl); done)); (try simp only [Act.put, List.setIfInBounds_toArray, List.set_cons_zero, List.set_cons_succ])) | (refine wpSeq_pureG (v := ?_) rfl rfl ?_ ?_; rotate_left 1; (focus (intro wq_ hSq_; (try dsimp only at hSq_); go_simp; (try with_reducible rfl); done)); (try simp only [Act.put, List.setIfInBounds_toArray, List.set_cons_zero, List.set_cons_succ])) | (refine wpSeq_off rfl rfl ?_; (try simp only [Act.put, List.setIfInBounds_toArray, List.set_cons_zero, List.set_cons_succ])) | (refine wpSeq_offU rfl ?_; (try simp only [Act.put, List.setIfInBounds_toArray, List.set_cons_zero, List.set_cons_succ])))
      intro wz gz sz_
      (try simp only [endJ, List.drop_succ_cons, List.drop_zero])
      have HE := Lib.hid (show ll.er.size + t1.er.size ≤ 1000000000 by rw [he1]; simp only [Tr.size]; omega)
      have T1 := Lib.hid (ht1.below gz)
      have HQ := Lib.hid (show Tr.node lk lv ll.er t1.er = .node lk lv ll.er (.node k v lr.er r.er) by rw [he1])
      have XZ := Lib.hid (bt X2.out (bt X4.out sz_))
      have NM := Lib.hid (N4.out.2.2.1.below sz_)
      clear k4 kl c4 cl hst4 s1 sz_ g1 gz b1 ht1 he1
      go_wp2_with fail
      refine (rjoin_any B Q gl lk lv ll lr ll t1 wz NM.out NM.out.2.2.1 T1.out (HF.out.ext XZ.out) HE.out).mono ?_
      rintro e y3 ⟨z3, rfl, hz3, b3⟩
      rw [HQ.out] at hz3
      have HZ := Lib.hid (And.intro hz3 (bt XZ.out b3))
      obtain ⟨t3, hz3', _⟩ := hz3
      subst hz3'
      clear b3
      go_wp2
      go_returns
      exact ⟨_, rfl, by rw [HB.out]; exact HZ.out.1, HZ.out.2⟩
  · have pd : ¬ (1 : Int) < (H1 : Int) - (H2 : Int) := by omega
    by_cases hd2 : H1 + 1 < H2
    · have pd2 : (H1 : Int) - (H2 : Int) < -1 := by omega
      obtain ⟨gr, rk, rv, rl, rr, rfl⟩ := TrW.ht_ne (t := r) (by rw [HH2.out]; omega)
      have hsl : l.er.size + (rl.er.size + rr.er.size + 1) ≤ 100000000 := hs
      have kl := fun w' (hh : Ext w2 w') => (N2.out.2.2.2.1.below hh).cells
      simp only [cellsAre, Nat.zero_add, Nat.reduceAdd, and_true] at kl
      simp only [MT.ad_node] at k2 c2
      have cl := kl w2 (Ext.refl _)
      have hst2 : Ext w2 w2.drew := Ext.drew _
      have hb3 := rr.er.ht_size
      have hb4 := rl.er.ht_size
      obtain ⟨H3, hH3⟩ : ∃ H, rr.er.ht = H := ⟨_, rfl⟩
      obtain ⟨H4, hH4⟩ : ∃ H, rl.er.ht = H := ⟨_, rfl⟩
      rw [hH3] at hb3
      rw [hH4] at hb4
      have HH3 := Lib.hid hH3
      have HH4 := Lib.hid hH4
      clear hH3 hH4
      go_upto_region 10 with fail
      refine wp_region_adv 9 [] [(0, true, some 86, none), (1, true, some 87, none), (2, true, some 88, none), (3, true, some 89, none), (5, true, some 91, none), (6, true, some 92, none), (7, true, some 93, none), (8, true, some 94, none), (4, false, some 90, none)] (by kernel_rfl) (by kernel_rfl) (by kernel_rfl) (by intro it hit; (repeat (rcases List.mem_cons.1 hit with rfl | hit; (focus (intro o ho ev w; injection ho with ho; subst ho; kernel_rfl)))); cases hit) (fun _ _ _ _ _ => ⟨fun h => h, fun h => h⟩) hst2 ?_
      repeat (first | (refine wpSeq_pure (v := ?_) rfl ?_ ?_; rotate_left 1; (focus (intro wq_ hSq_; (try dsimp only at hSq_); go_simp; (try with_reducible rfl); done)); (try simp only [Act.put, List.setIfInBounds_toArray, List.set_cons_zero, List.set_cons_succ])) | (refine wpSeq_pureG (v := ?_) rfl rfl ?_ ?_; rotate_left 1; (focus (intro wq_ hSq_; (try dsimp only at hSq_); go_simp; (try with_reducible rfl); done)); (try simp only [Act.put, List.setIfInBounds_toArray, List.set_cons_zero, List.set_cons_succ])) | (refine wpSeq_off rfl rfl ?_; (try simp only [Act.put, List.setIfInBounds_toArray, List.set_cons_zero, List.set_cons_succ])) | (refine wpSeq_offU rfl ?_; (try simp only [Act.put, List.setIfInBounds_toArray, List.set_cons_zero, List.set_cons_succ])))
      first | refine wpSeq_call rfl (fun u1 g1 s1 K hK => ?_) | refine wpSeq_callG rfl rfl (fun u1 g1 s1 K hK => ?_)
      go_simp
      refine (rheight_any B Q rr u1 (N2.out.2.2.2.2.2.2.below s1)).mono ?_
      rintro e y1 ⟨z1, rfl, rfl, b1⟩
      rw [HH3.out]
      (try go_wp2_with fail)
      refine hK.out _ _ b1 ?_
      clear hK K
      (try simp only [Act.put, List.setIfInBounds_toArray, List.set_cons_zero, List.set_cons_succ])
      repeat (first | (refine wpSeq_pure (v := ?_) rfl ?_ ?_; rotate_left 1; (focus (intro wq_ hSq_; (try dsimp only at hSq_); go_simp; (try with_reducible rfl); done)); (try simp only [Act.put, List.setIfInBounds_toArray, List.set_cons_zero, List.set_cons_succ])) | (refine wpSeq_pureG (v := ?_) rfl rfl ?_ ?_; rotate_left 1; (focus (intro wq_ hSq_; (try dsimp only at hSq_); go_simp; (try with_reducible rfl); done)); (try simp only [Act.put, List.setIfInBounds_toArray, List.set_cons_zero, List.set_cons_succ])) | (refine wpSeq_off rfl rfl ?_; (try simp only [Act.put, List.setIfInBounds_toArray, List.set_cons_zero, List.set_cons_succ])) | (refine wpSeq_offU rfl ?_; (try simp only [Act.put, List.setIfInBounds_toArray, List.set_cons_zero, List.set_cons_succ])))
      intro w3 g3 s3
      (try simp only [endJ, List.drop_succ_cons, List.drop_zero])
      go_wp2_with fail
      refine (rheight_any B Q rl w3 (N2.out.2.2.2.2.2.1.below s3)).mono ?_
      rintro e w4 ⟨z4, rfl, rfl, b4⟩
      rw [HH4.out]
      have X4 := Lib.hid (bt s3 b4)
      clear s1 g1 b1 s3 g3 b4 hst2 k2 kl c2 cl
      have N4 := Lib.hid (N2.out.below X4.out)
      have k4 := fun w' (hh : Ext w4 w') => (N4.out.1.below hh).cells
      have kl := fun w' (hh : Ext w4 w') => (N4.out.2.2.2.1.below hh).cells
      simp only [cellsAre, Nat.zero_add, Nat.reduceAdd, and_true] at k4 kl
      simp only [MT.ad_node] at k4
      have c4 := k4 w4 (Ext.refl _)
      have cl := kl w4 (Ext.refl _)
      have hst4 : Ext w4 w4.drew := Ext.drew _
      by_cases h34 : H3 < H4
      · have p34 : (H3 : Int) < (H4 : Int) := by omega
        obtain ⟨gm, mk, mv, ml, mr, rfl⟩ := TrW.ht_ne (t := rl) (by rw [HH4.out]; omega)
        have hsm : l.er.size + ((ml.er.size + mr.er.size + 1) + rr.er.size + 1) ≤ 100000000 := hsl
        have km := fun w' (hh : Ext w4 w') => (N4.out.2.2.2.2.2.1.1.below hh).cells
        simp only [cellsAre, Nat.zero_add, Nat.reduceAdd, and_true] at km
        simp only [MT.ad_node] at kl cl
        have cm := km w4 (Ext.refl _)
        have HB := Lib.hid (show Tr.bal k v l.er (MT.node gr rk rv (.node gm mk mv ml mr) rr).er = .node mk mv (.node k v l.er ml.er) (.node rk rv mr.er rr.er) by
          unfold Tr.bal
          rw [HH1.out, HH2.out, if_neg hd1, if_pos hd2]
          simp only [MT.er]
          rw [HH3.out, show (Tr.node mk mv ml.er mr.er).ht = H4 from HH4.out, if_pos h34])
        go_upto_region 12 with fail
        refine wp_region_adv 21 [] [(0, true, some 101, none), (1, true, some 102, none), (2, true, some 103, none), (3, true, some 104, none), (4, true, some 105, none), (5, true, some 106, none), (6, true, some 107, none), (7, true, some 108, none), (8, true, some 109, none), (9, true, some 110, none), (11, true, some 112, none), (12, true, some 113, none), (13, true, some 114, none), (14, true, some 115, none), (15, true, some 116, none), (16, true, some 117, none), (17, true, some 118, none), (18, true, some 119, none), (19, true, some 120, none), (10, false, some 111, none), (20, false, some 121, none)] (by kernel_rfl) (by kernel_rfl) (by kernel_rfl) (by intro it hit; (repeat (rcases List.mem_cons.1 hit with rfl | hit; (focus (intro o ho ev w; injection ho with ho; subst ho; kernel_rfl)))); cases hit) (fun _ _ _ _ _ => ⟨fun h => h, fun h => h⟩) hst4 ?_
        repeat (first | (refine wpSeq_pure (v := ?_) rfl ?_ ?_; rotate_left 1; (focus (intro wq_ hSq_; (try dsimp only at hSq_); go_simp; (try with_reducible rfl); done)); (try simp only [Act.put, List.setIfInBounds_toArray, List.set_cons_zero, List.set_cons_succ])) | (refine wpSeq_pureG (v := ?_) rfl rfl ?_ ?_; rotate_left 1; (focus (intro wq_ hSq_; (try dsimp only at hSq_); go_simp; (try with_reducible rfl); done)); (try simp only [Act.put, List.setIfInBounds_toArray, List.set_cons_zero, List.set_cons_succ])) | (refine wpSeq_off rfl rfl ?_; (try simp only [Act.put, List.setIfInBounds_toArray, List.set_cons_zero, List.set_cons_succ])) | (refine wpSeq_offU rfl ?_; (try simp only [Act.put, List.setIfInBounds_toArray, List.set_cons_zero, List.set_cons_succ])))
        first | refine wpSeq_call rfl (fun u1 g1 s1 K hK => ?_) | refine wpSeq_callG rfl rfl (fun u1 g1 s1 K hK => ?_)
        go_simp
        refine (rjoin_any B Q g k v l _ l ml u1 (N4.out.below s1) (N4.out.2.2.1.below s1) (N4.out.2.2.2.2.2.1.2.2.1.below s1) (HF.out.ext (bt X2.out (bt X4.out s1))) (by omega)).mono ?_
        rintro e y1 ⟨z1, rfl, ⟨t1, rfl, ht1, he1⟩, b1⟩
        (try go_wp2_with fail)
        refine hK.out _ _ b1 ?_
        clear hK K
        (try simp only [Act.put, List.setIfInBounds_toArray, List.set_cons_zero, List.set_cons_succ])
        repeat (first | (refine wpSeq_pure (v := ?_) rfl ?_ ?_; rotate_left 1; (focus (intro wq_ hSq_; (try dsimp only at hSq_); go_simp; (try with_reducible rfl); done)); (try simp only [Act.put, List.setIfInBounds_toArray, List.set_cons_zero, List.set_cons_succ])) | (refine wpSeq_pureG (v := ?_) rfl rfl ?_ ?_; rotate_left 1; (focus (intro wq_ hSq_; (try dsimp only at hSq_); go_simp; (try with_reducible rfl); done)); (try simp only [Act.put, List.setIfInBounds_toArray, List.set_cons_zero, List.set_cons_succ])) | (refine wpSeq_off rfl rfl ?_; (try simp only [Act.put, List.setIfInBounds_toArray, List.set_cons_zero, List.set_cons_succ])) | (refine wpSeq_offU rfl ?_; (try simp only [Act.put, List.setIfInBounds_toArray, List.set_cons_zero, List.set_cons_succ])))
        first | refine wpSeq_call rfl (fun u2 g2 s2 K hK => ?_) | refine wpSeq_callG rfl rfl (fun u2 g2 s2 K hK => ?_)
        go_simp
        refine (rjoin_any B Q gr rk rv (.node gm mk mv ml mr) rr mr rr u2 (N4.out.2.2.2.below s2) (N4.out.2.2.2.2.2.1.2.2.2.below s2) (N4.out.2.2.2.2.2.2.below s2) (HF.out.ext (bt X2.out (bt X4.out s2))) (by omega)).mono ?_
        rintro e y2 ⟨z2, rfl, ⟨t2, rfl, ht2, he2⟩, b2⟩
        (try go_wp2_with fail)
        refine hK.out _ _ b2 ?_
        clear hK K
        (try simp only [Act.put, List.setIfInBounds_toArray, List.set_cons_zero, List.set_cons_succ])
        repeat (first | (refine wpSeq_pure (v := ?_) rfl ?_ ?_; rotate_left 1; (focus (intro wq_ hSq_; (try dsimp only at hSq_); go_simp; (try with_reducible rfl); done)); (try simp only [Act.put, List.setIfInBounds_toArray, List.set_cons_zero, List.set_cons_succ])) | (refine wpSeq_pureG (v := ?_) rfl rfl ?_ ?_; rotate_left 1; (focus (intro wq_ hSq_; (try dsimp only at hSq_); go_simp; (try with_reducible rfl); done)); (try simp only [Act.put, List.setIfInBounds_toArray, List.set_cons_zero, List.set_cons_succ])) | (refine wpSeq_off rfl rfl ?_; (try simp only [Act.put, List.setIfInBounds_toArray, List.set_cons_zero, List.set_cons_succ])) | (refine wpSeq_offU rfl ?_; (try simp only [Act.put, List.setIfInBounds_toArray, List.set_cons_zero, List.set_cons_succ])))
        intro wz gz sz_
        (try simp only [endJ, List.drop_succ_cons, List.drop_zero])
        have HE := Lib.hid (show t1.er.size + t2.er.size ≤ 1000000000 by rw [he1, he2]; simp only [Tr.size]; omega)
        have T1 := Lib.hid (ht1.below (bt g2 (bt b2 gz)))
        have T2 := Lib.hid (ht2.below gz)
        have HQ := Lib.hid (show Tr.node mk mv t1.er t2.er = .node mk mv (.node k v l.er ml.er) (.node rk rv mr.er rr.er) by rw [he1, he2])
        have XZ := Lib.hid (bt X2.out (bt X4.out sz_))
        have NM := Lib.hid (N4.out.2.2.2.2.2.1.below sz_)
        clear k4 kl km c4 cl cm hst4 s1 s2 sz_ g1 g2 gz b1 b2 ht1 ht2 he1 he2
        go_wp2_with fail
        refine (rjoin_any B Q gm mk mv ml mr t1 t2 wz NM.out T1.out T2.out (HF.out.ext XZ.out) HE.out).mono ?_
        rintro e y3 ⟨z3, rfl, hz3, b3⟩
        rw [HQ.out] at hz3
        have HZ := Lib.hid (And.intro hz3 (bt XZ.out b3))
        obtain ⟨t3, hz3', _⟩ := hz3
        subst hz3'
        clear b3
        go_wp2
        go_returns
        exact ⟨_, rfl, by rw [HB.out]; exact HZ.out.1, HZ.out.2⟩
      · have p34 : ¬ (H3 : Int) < (H4 : Int) := by omega
        have HB := Lib.hid (show Tr.bal k v l.er (MT.node gr rk rv rl rr).er = .node rk rv (.node k v l.er rl.er) rr.er by
          unfold Tr.bal
          rw [HH1.out, HH2.out, if_neg hd1, if_pos hd2]
          simp only [MT.er]
          rw [HH3.out, HH4.out, if_neg h34])
        go_upto_region 13 with fail
        refine wp_region_adv 15 [] [(0, true, some 123, none), (1, true, some 124, none), (2, true, some 125, none), (3, true, some 126, none), (4, true, some 127, none), (5, true, some 128, none), (6, true, some 129, none), (7, true, some 130, none), (8, true, some 131, none), (9, true, some 132, none), (11, true, some 134, none), (12, true, some 135, none), (13, true, some 136, none), (14, true, some 137, none), (10, false, some 133, none)] (by kernel_rfl) (by kernel_rfl) (by kernel_rfl) (by intro it hit; (repeat (rcases List.mem_cons.1 hit with rfl | hit; (focus (intro o ho ev w; injection ho with ho; subst ho; kernel_rfl)))); cases hit) (fun _ _ _ _ _ => ⟨fun h => h, fun h => h⟩) hst4 ?_
        repeat (first | (refine wpSeq_pure (v := ?_) rfl ?_ ?_; rotate_left 1; (focus (intro wq_ hSq_; (try dsimp only at hSq_); go_simp; (try with_reducible rfl); done)); (try simp only [Act.put, List.setIfInBounds_toArray, List.set_cons_zero, List.set_cons_succ])) | (refine wpSeq_pureG (v := ?_) rfl rfl ?_ ?_; rotate_left 1; (focus (intro wq_ hSq_; (try dsimp only at hSq_); go_simp; (try with_reducible rfl); done)); (try simp only [Act.put, List.setIfInBounds_toArray, List.set_cons_zero, List.set_cons_succ])) | (refine wpSeq_off rfl rfl ?_; (try simp only [Act.put, List.setIfInBounds_toArray, List.set_cons_zero, List.set_cons_succ])) | (refine wpSeq_offU rfl ?_; (try simp only [Act.put, List.setIfInBounds_toArray, List.set_cons_zero, List.set_cons_succ])))
        first | refine wpSeq_call rfl (fun u1 g1 s1 K hK => ?_) | refine wpSeq_callG rfl rfl (fun u1 g1 s1 K hK => ?_)
        go_simp
        refine (rjoin_any B Q g k v l _ l rl u1 (N4.out.below s1) (N4.out.2.2.1.below s1) (N4.out.2.2.2.2.2.1.below s1) (HF.out.ext (bt X2.out (bt X4.out s1))) (by omega)).mono ?_
        rintro e y1 ⟨z1, rfl, ⟨t1, rfl, ht1, he1⟩, b1⟩
        (try go_wp2_with fail)
        refine hK.out _ _ b1 ?_
        clear hK K
        (try simp only [Act.put, List.setIfInBounds_toArray, List.set_cons_zero, List.set_cons_succ])
        repeat (first | (refine wpSeq_pure (v := ?_) rfl ?_ ?_; rotate_left 1; (focus (intro wq_ hSq_; (try dsimp only at hSq_); go_simp; (try with_reducible rfl); done)); (try simp only [Act.put, List.setIfInBounds_toArray, List.set_cons_zero, List.set_cons_succ])) | (refine wpSeq_pureG (v := ?_) rfl rfl ?_ ?_; rotate_left 1; (focus (intro wq_ hSq_; (try dsimp only at hSq_); go_simp; (try with_reducible rfl); done)); (try simp only [Act.put, List.setIfInBounds_toArray, List.set_cons_zero, List.set_cons_succ])) | (refine wpSeq_off rfl rfl ?_; (try simp only [Act.put, List.setIfInBounds_toArray, List.set_cons_zero, List.set_cons_succ])) | (refine wpSeq_offU rfl ?_; (try simp only [Act.put, List.setIfInBounds_toArray, List.set_cons_zero, List.set_cons_succ])))
        intro wz gz sz_
        (try simp only [endJ, List.drop_succ_cons, List.drop_zero])
        have HE := Lib.hid (show t1.er.size + rr.er.size ≤ 1000000000 by rw [he1]; simp only [Tr.size]; omega)
        have T1 := Lib.hid (ht1.below gz)
        have HQ := Lib.hid (show Tr.node rk rv t1.er rr.er = .node rk rv (.node k v l.er rl.er) rr.er by rw [he1])
        have XZ := Lib.hid (bt X2.out (bt X4.out sz_))
        have NM := Lib.hid (N4.out.2.2.2.below sz_)
        clear k4 kl c4 cl hst4 s1 sz_ g1 gz b1 ht1 he1
        go_wp2_with fail
        refine (rjoin_any B Q gr rk rv rl rr t1 rr wz NM.out T1.out NM.out.2.2.2 (HF.out.ext XZ.out) HE.out).mono ?_
        rintro e y3 ⟨z3, rfl, hz3, b3⟩
        rw [HQ.out] at hz3
        have HZ := Lib.hid (And.intro hz3 (bt XZ.out b3))
        obtain ⟨t3, hz3', _⟩ := hz3
        subst hz3'
        clear b3
        go_wp2
        go_returns
        exact ⟨_, rfl, by rw [HB.out]; exact HZ.out.1, HZ.out.2⟩
    · have pd2 : ¬ (H1 : Int) - (H2 : Int) < -1 := by omega
      have HB := Lib.hid (show Tr.bal k v l.er r.er = .node k v l.er r.er by
        unfold Tr.bal
        rw [HH1.out, HH2.out, if_neg hd1, if_neg hd2])
      have HE := Lib.hid (show TrR B Q (Tr.bal k v l.er r.er) (.pointer (some ⟨g, 0, none⟩)) w2 from ⟨.node g k v l r, rfl, N2.out, by rw [HB.out]; rfl⟩)
      clear k2 c2
      go_wp2
      go_returns
      exact ⟨_, rfl, HE.out, X2.out⟩
end Go.Proofs.Tb
