/- Contracts of set, first, without, find. -/
import Derived.Test.YtfljnfdeboibhaaStd
set_option linter.unusedVariables false
set_option linter.unusedSimpArgs false
namespace Go.Proofs.Tb
open Go.RowKit
attribute [local go_sem] cell_set_same binOp_string_gtr'

theorem er_node {t : MT} {k v : Str} {l r : Tr} (h : t.er = .node k v l r) : ∃ g l' r', t = .node g k v l' r' ∧ l'.er = l ∧ r'.er = r := by
  cases t with
  | nil => cases h
  | node g k' v' l' r' =>
    simp only [MT.er, Tr.node.injEq] at h
    obtain ⟨rfl, rfl, rfl, rfl⟩ := h
    exact ⟨g, l', r', rfl, rfl, rfl⟩
theorem set_node (k' v' : Str) (l r : Tr) (k v : Str) : (Tr.node k' v' l r).set_ k v = if sl k k' = true then Tr.bal k' v' (l.set_ k v) r else if sl k' k = true then Tr.bal k' v' l (r.set_ k v) else if v = v' then .node k' v' l r else .node k v l r := by rw [Tr.set_]
theorem str_beq_t {x y : Str} (h : x = y) : (x.toList == y.toList) = true := by rw [h]; simp
theorem str_beq_f {x y : Str} (h : x ≠ y) : (x.toList == y.toList) = false := by
  rw [beq_eq_false_iff_ne]
  exact fun e => h (str_ext e)
set_option maxHeartbeats 6400000 in
set_option maxRecDepth 100000 in
theorem rset_any (B : Nat → Nat) (Q : Nat → Prop) (k v : Str) : ∀ (t : MT) (w : World), TrW w B Q t → Frs w B Q → t.er.size ≤ 10000000 →
    Calls Try.prog 50 #[.pointer t.ad, .string k, .string v] w (Ret (TrR B Q (t.er.set_ k v)) w) := by
  intro t
  induction t with
  | nil =>
    intro w h hf hs
    have hfz := hf w.heap.size (Nat.le_refl _)
    have HZ := Lib.hid (show TrR B Q (Tr.set_ .nil k v) (.pointer (some ⟨w.heap.size, 0, none⟩)) (w.alloc (.cells #[.string k, .string v, .pointer none, .pointer none, .int .i64 1, .int .i64 0] TNO)) from
      ⟨.node w.heap.size k v .nil .nil, rfl, ⟨by rw [hfz.1]; exact Blk.new_ _ _ rfl, hfz.2, trivial, trivial⟩, rfl⟩)
    clear h hf hfz
    show Calls Try.prog 50 #[.pointer none, .string k, .string v] w (Ret (TrR B Q (Tr.set_ .nil k v)) w)
    go_enter Try.func50, Try.ntmps50
    go_wp2
    go_returns
    exact ⟨_, rfl, HZ.out, Ext.allocR _ _⟩
  | node g k' v' l r ihl ihr =>
    intro w h hf hs
    have HH := Lib.hid h
    have HF := Lib.hid hf
    have hs' : l.er.size + r.er.size + 1 ≤ 10000000 := hs
    have kc := fun w' (hh : Ext w w') => (HH.out.1.below hh).cells
    simp only [cellsAre, Nat.zero_add, Nat.reduceAdd, and_true] at kc
    have c0 := kc w (Ext.refl _)
    have hst : Ext w w.drew := Ext.drew _
    have HIL := Lib.hid ihl
    have HIR := Lib.hid ihr
    rw [MT.ad_node]
    clear h hf ihl ihr
    by_cases c1 : sl k k' = true
    · have d1 : Op.bytesLess k.toList k'.toList = true := c1
      have HB := Lib.hid (show (MT.node g k' v' l r).er.set_ k v = Tr.bal k' v' (l.er.set_ k v) r.er by simp only [MT.er]; rw [set_node, if_pos c1])
      have hsz := Tr.set_size l.er k v
      go_enter Try.func50, Try.ntmps50
      go_upto_region 4 with fail
      refine wp_region_adv 12 [] [(0, true, some 21, none), (1, true, some 22, none), (2, true, some 23, none), (3, true, some 24, none), (4, true, some 25, none), (5, true, some 26, none), (6, true, some 27, none), (8, true, some 29, none), (9, true, some 30, none), (10, true, some 31, none), (11, true, some 32, none), (7, false, some 28, none)] (by kernel_rfl) (by kernel_rfl) (by kernel_rfl) (by intro it hit; (repeat (rcases List.mem_cons.1 hit with rfl | hit; (focus (intro o ho ev w; injection ho with ho; subst ho; kernel_rfl)))); cases hit) (fun _ _ _ _ _ => ⟨fun h => h, fun h => h⟩) hst ?_
      repeat (first | (refine wpSeq_pure (v := ?_) rfl ?_ ?_; rotate_left 1; (focus (intro wq_ hSq_; (try dsimp only at hSq_); go_simp; (try with_reducible rfl); done)); (try simp only [Act.put, List.setIfInBounds_toArray, List.set_cons_zero, List.set_cons_succ])) | (refine wpSeq_pureG (v := ?_) rfl rfl ?_ ?_; rotate_left 1; (focus (intro wq_ hSq_; (try dsimp only at hSq_); go_simp; (try with_reducible rfl); done)); (try simp only [Act.put, List.setIfInBounds_toArray, List.set_cons_zero, List.set_cons_succ])) | (refine wpSeq_off rfl rfl ?_; (try simp only [Act.put, List.setIfInBounds_toArray, List.set_cons_zero, List.set_cons_succ])) | (refine wpSeq_offU rfl ?_; (try simp only [Act.put, List.setIfInBounds_toArray, List.set_cons_zero, List.set_cons_succ])))
      first | refine wpSeq_call rfl (fun u1 g1 s1 K hK => ?_) | refine wpSeq_callG rfl rfl (fun u1 g1 s1 K hK => ?_)
      go_simp
      refine (HIL.out u1 (HH.out.2.2.1.below s1) (HF.out.ext s1) (by omega)).mono ?_
      rintro e y1 ⟨z1, rfl, ⟨t1, rfl, ht1, he1⟩, b1⟩
      (try go_wp2_with fail)
      refine hK.out _ _ b1 ?_
      clear hK K
      (try simp only [Act.put, List.setIfInBounds_toArray, List.set_cons_zero, List.set_cons_succ])
      repeat (first | (refine wpSeq_pure (v := ?_) rfl ?_ ?_; rotate_left 1; (focus (intro wq_ hSq_; (try dsimp only at hSq_); go_simp; (try with_reducible rfl); done)); (try simp only [Act.put, List.setIfInBounds_toArray, List.set_cons_zero, List.set_cons_succ])) | (refine wpSeq_pureG (v := ?_) rfl rfl ?_ ?_; rotate_left 1; (focus (intro wq_ hSq_; (try dsimp only at hSq_); go_simp; (try with_reducible rfl); done)); (try simp only [Act.put, List.setIfInBounds_toArray, List.set_cons_zero, List.set_cons_succ])) | (refine wpSeq_off rfl rfl ?_; (try simp only [Act.put, List.setIfInBounds_toArray, List.set_cons_zero, List.set_cons_succ])) | (refine wpSeq_offU rfl ?_; (try simp only [Act.put, List.setIfInBounds_toArray, List.set_cons_zero, List.set_cons_succ])))
      intro w1 g1' s1'
      (try simp only [endJ, List.drop_succ_cons, List.drop_zero])
      have T1 := Lib.hid (ht1.below g1')
      have N1 := Lib.hid (HH.out.below s1')
      have F1 := Lib.hid (HF.out.ext s1')
      have X1 := Lib.hid s1'
      have HE := Lib.hid he1
      have hz1 : t1.er.size + r.er.size ≤ 100000000 := by rw [he1]; omega
      clear kc c0 hst s1 g1 b1 g1' s1' ht1 he1
      go_wp2_with fail
      refine (rjoin_any B Q g k' v' l r t1 r w1 N1.out T1.out N1.out.2.2.2 F1.out (by omega)).mono ?_
      rintro e w2 ⟨z2, rfl, ⟨t2, rfl, ht2, he2⟩, b2⟩
      obtain ⟨g2, l2, r2, rfl, hl2, hr2⟩ := er_node he2
      have T2 := Lib.hid ht2
      have X2 := Lib.hid (bt X1.out b2)
      have F2 := Lib.hid (F1.out.ext b2)
      have HQ := Lib.hid (show Tr.bal k' v' l2.er r2.er = (MT.node g k' v' l r).er.set_ k v by rw [HB.out, hl2, hr2, HE.out])
      have hsz2 : l2.er.size + r2.er.size ≤ 100000000 := by rw [hl2, hr2]; exact hz1
      rw [MT.ad_node]
      clear ht2 he2 b2 hl2 hr2
      go_wp2_with fail
      refine (rbalanced_any B Q g2 k' v' l2 r2 w2 T2.out F2.out hsz2).mono ?_
      rintro e w3 ⟨z3, rfl, hz3, b3⟩
      rw [HQ.out] at hz3
      have HZ := Lib.hid (And.intro hz3 (bt X2.out b3))
      obtain ⟨t3, hz3', _⟩ := hz3
      subst hz3'
      clear b3
      go_wp2
      go_returns
      exact ⟨_, rfl, HZ.out.1, HZ.out.2⟩
    · have d1 : Op.bytesLess k.toList k'.toList = false := by simpa [sl] using c1
      by_cases c2 : sl k' k = true
      · have d2 : Op.bytesLess k'.toList k.toList = true := c2
        have HB := Lib.hid (show (MT.node g k' v' l r).er.set_ k v = Tr.bal k' v' l.er (r.er.set_ k v) by simp only [MT.er]; rw [set_node, if_neg c1, if_pos c2])
        have hsz := Tr.set_size r.er k v
        go_enter Try.func50, Try.ntmps50
        go_upto_region 6 with fail
        refine wp_region_adv 12 [] [(0, true, some 42, none), (1, true, some 43, none), (2, true, some 44, none), (3, true, some 45, none), (4, true, some 46, none), (5, true, some 47, none), (6, true, some 48, none), (7, true, some 49, none), (8, true, some 50, none), (9, true, some 51, none), (10, true, some 52, none), (11, false, some 53, none)] (by kernel_rfl) (by kernel_rfl) (by kernel_rfl) (by intro it hit; (repeat (rcases List.mem_cons.1 hit with rfl | hit; (focus (intro o ho ev w; injection ho with ho; subst ho; kernel_rfl)))); cases hit) (fun _ _ _ _ _ => ⟨fun h => h, fun h => h⟩) hst ?_
        repeat (first | (refine wpSeq_pure (v := ?_) rfl ?_ ?_; rotate_left 1; (focus (intro wq_ hSq_; (try dsimp only at hSq_); go_simp; (try with_reducible rfl); done)); (try simp only [Act.put, List.setIfInBounds_toArray, List.set_cons_zero, List.set_cons_succ])) | (refine wpSeq_pureG (v := ?_) rfl rfl ?_ ?_; rotate_left 1; (focus (intro wq_ hSq_; (try dsimp only at hSq_); go_simp; (try with_reducible rfl); done)); (try simp only [Act.put, List.setIfInBounds_toArray, List.set_cons_zero, List.set_cons_succ])) | (refine wpSeq_off rfl rfl ?_; (try simp only [Act.put, List.setIfInBounds_toArray, List.set_cons_zero, List.set_cons_succ])) | (refine wpSeq_offU rfl ?_; (try simp only [Act.put, List.setIfInBounds_toArray, List.set_cons_zero, List.set_cons_succ])))
        first | refine wpSeq_call rfl (fun u1 g1 s1 K hK => ?_) | refine wpSeq_callG rfl rfl (fun u1 g1 s1 K hK => ?_)
        go_simp
        refine (HIR.out u1 (HH.out.2.2.2.below s1) (HF.out.ext s1) (by omega)).mono ?_
        rintro e y1 ⟨z1, rfl, ⟨t1, rfl, ht1, he1⟩, b1⟩
        (try go_wp2_with fail)
        refine hK.out _ _ b1 ?_
        clear hK K
        (try simp only [Act.put, List.setIfInBounds_toArray, List.set_cons_zero, List.set_cons_succ])
        repeat (first | (refine wpSeq_pure (v := ?_) rfl ?_ ?_; rotate_left 1; (focus (intro wq_ hSq_; (try dsimp only at hSq_); go_simp; (try with_reducible rfl); done)); (try simp only [Act.put, List.setIfInBounds_toArray, List.set_cons_zero, List.set_cons_succ])) | (refine wpSeq_pureG (v := ?_) rfl rfl ?_ ?_; rotate_left 1; (focus (intro wq_ hSq_; (try dsimp only at hSq_); go_simp; (try with_reducible rfl); done)); (try simp only [Act.put, List.setIfInBounds_toArray, List.set_cons_zero, List.set_cons_succ])) | (refine wpSeq_off rfl rfl ?_; (try simp only [Act.put, List.setIfInBounds_toArray, List.set_cons_zero, List.set_cons_succ])) | (refine wpSeq_offU rfl ?_; (try simp only [Act.put, List.setIfInBounds_toArray, List.set_cons_zero, List.set_cons_succ])))
        intro w1 g1' s1'
        (try simp only [endJ, List.drop_succ_cons, List.drop_zero])
        have T1 := Lib.hid (ht1.below g1')
        have N1 := Lib.hid (HH.out.below s1')
        have F1 := Lib.hid (HF.out.ext s1')
        have X1 := Lib.hid s1'
        have HE := Lib.hid he1
        have hz1 : l.er.size + t1.er.size ≤ 100000000 := by rw [he1]; omega
        clear kc c0 hst s1 g1 b1 g1' s1' ht1 he1
        go_wp2_with fail
        refine (rjoin_any B Q g k' v' l r l t1 w1 N1.out N1.out.2.2.1 T1.out F1.out (by omega)).mono ?_
        rintro e w2 ⟨z2, rfl, ⟨t2, rfl, ht2, he2⟩, b2⟩
        obtain ⟨g2, l2, r2, rfl, hl2, hr2⟩ := er_node he2
        have T2 := Lib.hid ht2
        have X2 := Lib.hid (bt X1.out b2)
        have F2 := Lib.hid (F1.out.ext b2)
        have HQ := Lib.hid (show Tr.bal k' v' l2.er r2.er = (MT.node g k' v' l r).er.set_ k v by rw [HB.out, hl2, hr2, HE.out])
        have hsz2 : l2.er.size + r2.er.size ≤ 100000000 := by rw [hl2, hr2]; exact hz1
        rw [MT.ad_node]
        clear ht2 he2 b2 hl2 hr2
        go_wp2_with fail
        refine (rbalanced_any B Q g2 k' v' l2 r2 w2 T2.out F2.out hsz2).mono ?_
        rintro e w3 ⟨z3, rfl, hz3, b3⟩
        rw [HQ.out] at hz3
        have HZ := Lib.hid (And.intro hz3 (bt X2.out b3))
        obtain ⟨t3, hz3', _⟩ := hz3
        subst hz3'
        clear b3
        go_wp2
        go_returns
        exact ⟨_, rfl, HZ.out.1, HZ.out.2⟩
      · have ek : k = k' := sl_eq (by simpa using c1) (by simpa using c2)
        subst ek
        have d2 : Op.bytesLess k.toList k.toList = false := sl_irrefl k
        by_cases hv : v = v'
        · subst hv
          have d3 : (v.toList == v.toList) = true := by simp
          have HE := Lib.hid (show TrR B Q ((MT.node g k v l r).er.set_ k v) (.pointer (some ⟨g, 0, none⟩)) w from ⟨.node g k v l r, rfl, HH.out, by simp only [MT.er]; rw [set_node, if_neg c1, if_neg c1, if_pos rfl]⟩)
          clear kc hst
          go_enter Try.func50, Try.ntmps50
          go_wp2
          go_returns
          exact ⟨_, rfl, HE.out, Below.refl _ _⟩
        · have d3 : (v.toList == v'.toList) = false := str_beq_f hv
          go_enter Try.func50, Try.ntmps50
          go_upto_region 9 with fail
          refine wp_region_adv 14 [] [(0, true, some 64, none), (1, true, some 65, none), (2, true, some 66, none), (3, true, some 67, none), (4, true, some 68, none), (5, true, some 69, none), (6, true, some 70, none), (7, true, some 71, none), (8, true, some 72, none), (9, true, some 73, none), (10, true, some 74, none), (11, true, some 75, none), (12, true, some 76, none), (13, true, some 77, none)] (by kernel_rfl) (by kernel_rfl) (by kernel_rfl) (by intro it hit; (repeat (rcases List.mem_cons.1 hit with rfl | hit; (focus (intro o ho ev w; injection ho with ho; subst ho; kernel_rfl)))); cases hit) (fun _ _ _ _ _ => ⟨fun h => h, fun h => h⟩) hst ?_
          repeat (first | (refine wpSeq_pure (v := ?_) rfl ?_ ?_; rotate_left 1; (focus (intro wq_ hSq_; (try dsimp only at hSq_); go_simp; (try with_reducible rfl); done)); (try simp only [Act.put, List.setIfInBounds_toArray, List.set_cons_zero, List.set_cons_succ])) | (refine wpSeq_pureG (v := ?_) rfl rfl ?_ ?_; rotate_left 1; (focus (intro wq_ hSq_; (try dsimp only at hSq_); go_simp; (try with_reducible rfl); done)); (try simp only [Act.put, List.setIfInBounds_toArray, List.set_cons_zero, List.set_cons_succ])) | (refine wpSeq_off rfl rfl ?_; (try simp only [Act.put, List.setIfInBounds_toArray, List.set_cons_zero, List.set_cons_succ])) | (refine wpSeq_offU rfl ?_; (try simp only [Act.put, List.setIfInBounds_toArray, List.set_cons_zero, List.set_cons_succ])))
          intro wz gz sz_
          (try simp only [endJ, List.drop_succ_cons, List.drop_zero])
          have hfz := HF.out wz.heap.size (Ext.size sz_)
          have hxa : Ext wz (wz.alloc (.cells #[.string k, .string v, .pointer l.ad, .pointer r.ad, .int .i64 ((1 + max l.er.ht r.er.ht : Nat) : Int), .int .i64 0] TNO)) := Ext.allocR _ _
          have HZ := Lib.hid (show TrR B Q ((MT.node g k v' l r).er.set_ k v) (.pointer (some ⟨wz.heap.size, 0, none⟩)) (wz.alloc (.cells #[.string k, .string v, .pointer l.ad, .pointer r.ad, .int .i64 ((1 + max l.er.ht r.er.ht : Nat) : Int), .int .i64 0] TNO)) from
            ⟨.node wz.heap.size k v l r, rfl, ⟨by rw [hfz.1]; exact Blk.new_ _ _ rfl, hfz.2, (HH.out.2.2.1.below sz_).below hxa, (HH.out.2.2.2.below sz_).below hxa⟩, by simp only [MT.er]; rw [set_node, if_neg c1, if_neg c1, if_neg hv]⟩)
          have XZ := Lib.hid (bt sz_ hxa)
          clear kc c0 hst gz sz_ hfz hxa
          go_wp2
          go_returns
          exact ⟨_, rfl, HZ.out, XZ.out⟩
end Go.Proofs.Tb
