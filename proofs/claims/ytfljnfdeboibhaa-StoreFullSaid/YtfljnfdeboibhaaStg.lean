/- Contract of without. -/
import Derived.Test.YtfljnfdeboibhaaStf
set_option linter.unusedVariables false
set_option linter.unusedSimpArgs false
namespace Go.Proofs.Tb
open Go.RowKit
attribute [local go_sem] cell_set_same binOp_string_gtr'

set_option maxHeartbeats 6400000 in
set_option maxRecDepth 100000 in
theorem rwithout_any (B : Nat → Nat) (Q : Nat → Prop) : ∀ (t : MT) (k : Str) (w : World), TrW w B Q t → Frs w B Q → t.er.size ≤ 10000000 →
    Calls Try.prog 49 #[.pointer t.ad, .string k] w (Ret (TrR B Q (t.er.without k)) w) := by
  intro t
  induction t with
  | nil =>
    intro k w h hf hs
    have HZ := Lib.hid (show TrR B Q (Tr.without .nil k) (.pointer none) w from ⟨.nil, rfl, trivial, by unfold Tr.without; rfl⟩)
    clear h hf
    show Calls Try.prog 49 #[.pointer none, .string k] w (Ret (TrR B Q (Tr.without .nil k)) w)
    go_enter Try.func49, Try.ntmps49
    go_wp2
    go_returns
    exact ⟨_, rfl, HZ.out, Below.refl _ _⟩
  | node g k' v' l r ihl ihr =>
    intro k w h hf hs
    have HH := Lib.hid h
    have HF := Lib.hid hf
    have hs' : l.er.size + r.er.size + 1 ≤ 10000000 := hs
    have kc := fun w' (hh : Ext w w') => (HH.out.1.below hh).cells
    simp only [cellsAre, Nat.zero_add, Nat.reduceAdd, and_true] at kc
    have c0 := kc w (Ext.refl _)
    have hst : Ext w w.drew := Ext.drew _
    have HIL := Lib.hid ihl
    have HIR := Lib.hid ihr
    rw [MT.ad_node]
    clear h hf ihl ihr
    by_cases c1 : sl k k' = true
    · have d1 : Op.bytesLess k.toList k'.toList = true := c1
      have HB := Lib.hid (show (MT.node g k' v' l r).er.without k = Tr.bal k' v' (l.er.without k) r.er by simp only [MT.er]; rw [without_node, if_pos c1])
      have hsz := without_size l.er k
      go_enter Try.func49, Try.ntmps49
      go_upto_region 4 with fail
      refine wp_region_adv 11 [] [(0, true, some 17, none), (1, true, some 18, none), (2, true, some 19, none), (3, true, some 20, none), (4, true, some 21, none), (5, true, some 22, none), (7, true, some 24, none), (8, true, some 25, none), (9, true, some 26, none), (10, true, some 27, none), (6, false, some 23, none)] (by kernel_rfl) (by kernel_rfl) (by kernel_rfl) (by intro it hit; (repeat (rcases List.mem_cons.1 hit with rfl | hit; (focus (intro o ho ev w; injection ho with ho; subst ho; kernel_rfl)))); cases hit) (fun _ _ _ _ _ => ⟨fun h => h, fun h => h⟩) hst ?_
      repeat (first | (refine wpSeq_pure (v := ?_) rfl ?_ ?_; rotate_left 1; (focus (intro wq_ hSq_; (try dsimp only at hSq_); go_simp; (try with_reducible rfl); done)); (try simp only [Act.put, List.setIfInBounds_toArray, List.set_cons_zero, List.set_cons_succ])) | (refine wpSeq_pureG (v := ?_) rfl rfl ?_ ?_; rotate_left 1; (focus (intro wq_ hSq_; (try dsimp only at hSq_); go_simp; (try with_reducible rfl); done)); (try simp only [Act.put, List.setIfInBounds_toArray, List.set_cons_zero, List.set_cons_succ])) | (refine wpSeq_off rfl rfl ?_; (try simp only [Act.put, List.setIfInBounds_toArray, List.set_cons_zero, List.set_cons_succ])) | (refine wpSeq_offU rfl ?_; (try simp only [Act.put, List.setIfInBounds_toArray, List.set_cons_zero, List.set_cons_succ])))
      first | refine wpSeq_call rfl (fun u1 g1 s1 K hK => ?_) | refine wpSeq_callG rfl rfl (fun u1 g1 s1 K hK => ?_)
      go_simp
      refine (HIL.out k u1 (HH.out.2.2.1.below s1) (HF.out.ext s1) (by omega)).mono ?_
      rintro e y1 ⟨z1, rfl, ⟨t1, rfl, ht1, he1⟩, b1⟩
      (try go_wp2_with fail)
      refine hK.out _ _ b1 ?_
      clear hK K
      (try simp only [Act.put, List.setIfInBounds_toArray, List.set_cons_zero, List.set_cons_succ])
      repeat (first | (refine wpSeq_pure (v := ?_) rfl ?_ ?_; rotate_left 1; (focus (intro wq_ hSq_; (try dsimp only at hSq_); go_simp; (try with_reducible rfl); done)); (try simp only [Act.put, List.setIfInBounds_toArray, List.set_cons_zero, List.set_cons_succ])) | (refine wpSeq_pureG (v := ?_) rfl rfl ?_ ?_; rotate_left 1; (focus (intro wq_ hSq_; (try dsimp only at hSq_); go_simp; (try with_reducible rfl); done)); (try simp only [Act.put, List.setIfInBounds_toArray, List.set_cons_zero, List.set_cons_succ])) | (refine wpSeq_off rfl rfl ?_; (try simp only [Act.put, List.setIfInBounds_toArray, List.set_cons_zero, List.set_cons_succ])) | (refine wpSeq_offU rfl ?_; (try simp only [Act.put, List.setIfInBounds_toArray, List.set_cons_zero, List.set_cons_succ])))
      intro w1 g1' s1'
      (try simp only [endJ, List.drop_succ_cons, List.drop_zero])
      have T1 := Lib.hid (ht1.below g1')
      have N1 := Lib.hid (HH.out.below s1')
      have F1 := Lib.hid (HF.out.ext s1')
      have X1 := Lib.hid s1'
      have HE := Lib.hid he1
      have hz1 : t1.er.size + r.er.size ≤ 100000000 := by rw [he1]; omega
      clear kc c0 hst s1 g1 b1 g1' s1' ht1 he1
      go_wp2_with fail
      refine (rjoin_any B Q g k' v' l r t1 r w1 N1.out T1.out N1.out.2.2.2 F1.out (by omega)).mono ?_
      rintro e w2 ⟨z2, rfl, ⟨t2, rfl, ht2, he2⟩, b2⟩
      obtain ⟨g2, l2, r2, rfl, hl2, hr2⟩ := er_node he2
      have T2 := Lib.hid ht2
      have X2 := Lib.hid (bt X1.out b2)
      have F2 := Lib.hid (F1.out.ext b2)
      have HQ := Lib.hid (show Tr.bal k' v' l2.er r2.er = (MT.node g k' v' l r).er.without k by rw [HB.out, hl2, hr2, HE.out])
      have hsz2 : l2.er.size + r2.er.size ≤ 100000000 := by rw [hl2, hr2]; exact hz1
      rw [MT.ad_node]
      clear ht2 he2 b2 hl2 hr2
      go_wp2_with fail
      refine (rbalanced_any B Q g2 k' v' l2 r2 w2 T2.out F2.out hsz2).mono ?_
      rintro e w3 ⟨z3, rfl, hz3, b3⟩
      rw [HQ.out] at hz3
      have HZ := Lib.hid (And.intro hz3 (bt X2.out b3))
      obtain ⟨t3, hz3', _⟩ := hz3
      subst hz3'
      clear b3
      go_wp2
      go_returns
      exact ⟨_, rfl, HZ.out.1, HZ.out.2⟩
    · have d1 : Op.bytesLess k.toList k'.toList = false := by simpa [sl] using c1
      by_cases c2 : sl k' k = true
      · have d2 : Op.bytesLess k'.toList k.toList = true := c2
        have HB := Lib.hid (show (MT.node g k' v' l r).er.without k = Tr.bal k' v' l.er (r.er.without k) by simp only [MT.er]; rw [without_node, if_neg c1, if_pos c2])
        have hsz := without_size r.er k
        go_enter Try.func49, Try.ntmps49
        go_upto_region 6 with fail
        refine wp_region_adv 11 [] [(0, true, some 37, none), (1, true, some 38, none), (2, true, some 39, none), (3, true, some 40, none), (4, true, some 41, none), (5, true, some 42, none), (6, true, some 43, none), (7, true, some 44, none), (8, true, some 45, none), (9, true, some 46, none), (10, false, some 47, none)] (by kernel_rfl) (by kernel_rfl) (by kernel_rfl) (by intro it hit; (repeat (rcases List.mem_cons.1 hit with rfl | hit; (focus (intro o ho ev w; injection ho with ho; subst ho; kernel_rfl)))); cases hit) (fun _ _ _ _ _ => ⟨fun h => h, fun h => h⟩) hst ?_
        repeat (first | (refine wpSeq_pure (v := ?_) rfl ?_ ?_; rotate_left 1; (focus (intro wq_ hSq_; (try dsimp only at hSq_); go_simp; (try with_reducible rfl); done)); (try simp only [Act.put, List.setIfInBounds_toArray, List.set_cons_zero, List.set_cons_succ])) | (refine wpSeq_pureG (v := ?_) rfl rfl ?_ ?_; rotate_left 1; (focus (intro wq_ hSq_; (try dsimp only at hSq_); go_simp; (try with_reducible rfl); done)); (try simp only [Act.put, List.setIfInBounds_toArray, List.set_cons_zero, List.set_cons_succ])) | (refine wpSeq_off rfl rfl ?_; (try simp only [Act.put, List.setIfInBounds_toArray, List.set_cons_zero, List.set_cons_succ])) | (refine wpSeq_offU rfl ?_; (try simp only [Act.put, List.setIfInBounds_toArray, List.set_cons_zero, List.set_cons_succ])))
        first | refine wpSeq_call rfl (fun u1 g1 s1 K hK => ?_) | refine wpSeq_callG rfl rfl (fun u1 g1 s1 K hK => ?_)
        go_simp
        refine (HIR.out k u1 (HH.out.2.2.2.below s1) (HF.out.ext s1) (by omega)).mono ?_
        rintro e y1 ⟨z1, rfl, ⟨t1, rfl, ht1, he1⟩, b1⟩
        (try go_wp2_with fail)
        refine hK.out _ _ b1 ?_
        clear hK K
        (try simp only [Act.put, List.setIfInBounds_toArray, List.set_cons_zero, List.set_cons_succ])
        repeat (first | (refine wpSeq_pure (v := ?_) rfl ?_ ?_; rotate_left 1; (focus (intro wq_ hSq_; (try dsimp only at hSq_); go_simp; (try with_reducible rfl); done)); (try simp only [Act.put, List.setIfInBounds_toArray, List.set_cons_zero, List.set_cons_succ])) | (refine wpSeq_pureG (v := ?_) rfl rfl ?_ ?_; rotate_left 1; (focus (intro wq_ hSq_; (try dsimp only at hSq_); go_simp; (try with_reducible rfl); done)); (try simp only [Act.put, List.setIfInBounds_toArray, List.set_cons_zero, List.set_cons_succ])) | (refine wpSeq_off rfl rfl ?_; (try simp only [Act.put, List.setIfInBounds_toArray, List.set_cons_zero, List.set_cons_succ])) | (refine wpSeq_offU rfl ?_; (try simp only [Act.put, List.setIfInBounds_toArray, List.set_cons_zero, List.set_cons_succ])))
        intro w1 g1' s1'
        (try simp only [endJ, List.drop_succ_cons, List.drop_zero])
        have T1 := Lib.hid (ht1.below g1')
        have N1 := Lib.hid (HH.out.below s1')
        have F1 := Lib.hid (HF.out.ext s1')
        have X1 := Lib.hid s1'
        have HE := Lib.hid he1
        have hz1 : l.er.size + t1.er.size ≤ 100000000 := by rw [he1]; omega
        clear kc c0 hst s1 g1 b1 g1' s1' ht1 he1
        go_wp2_with fail
        refine (rjoin_any B Q g k' v' l r l t1 w1 N1.out N1.out.2.2.1 T1.out F1.out (by omega)).mono ?_
        rintro e w2 ⟨z2, rfl, ⟨t2, rfl, ht2, he2⟩, b2⟩
        obtain ⟨g2, l2, r2, rfl, hl2, hr2⟩ := er_node he2
        have T2 := Lib.hid ht2
        have X2 := Lib.hid (bt X1.out b2)
        have F2 := Lib.hid (F1.out.ext b2)
        have HQ := Lib.hid (show Tr.bal k' v' l2.er r2.er = (MT.node g k' v' l r).er.without k by rw [HB.out, hl2, hr2, HE.out])
        have hsz2 : l2.er.size + r2.er.size ≤ 100000000 := by rw [hl2, hr2]; exact hz1
        rw [MT.ad_node]
        clear ht2 he2 b2 hl2 hr2
        go_wp2_with fail
        refine (rbalanced_any B Q g2 k' v' l2 r2 w2 T2.out F2.out hsz2).mono ?_
        rintro e w3 ⟨z3, rfl, hz3, b3⟩
        rw [HQ.out] at hz3
        have HZ := Lib.hid (And.intro hz3 (bt X2.out b3))
        obtain ⟨t3, hz3', _⟩ := hz3
        subst hz3'
        clear b3
        go_wp2
        go_returns
        exact ⟨_, rfl, HZ.out.1, HZ.out.2⟩
      · have ek : k = k' := sl_eq (by simpa using c1) (by simpa using c2)
        subst ek
        have d2 : Op.bytesLess k.toList k.toList = false := sl_irrefl k
        cases l with
        | nil =>
          simp only [show MT.nil.ad = none from rfl] at kc c0
          have HE := Lib.hid (show TrR B Q ((MT.node g k v' .nil r).er.without k) (.pointer r.ad) w from ⟨r, rfl, HH.out.2.2.2, by simp only [MT.er]; rw [without_node, if_neg c1, if_neg c1]⟩)
          clear kc hst
          go_enter Try.func49, Try.ntmps49
          go_wp2
          go_returns
          exact ⟨_, rfl, HE.out, Below.refl _ _⟩
        | node gl lk lv ll lr =>
          cases r with
          | nil =>
            simp only [MT.ad_node, show MT.nil.ad = none from rfl] at kc c0
            have HE := Lib.hid (show TrR B Q ((MT.node g k v' (.node gl lk lv ll lr) .nil).er.without k) (.pointer (some ⟨gl, 0, none⟩)) w from ⟨.node gl lk lv ll lr, rfl, HH.out.2.2.1, by simp only [MT.er]; rw [without_node, if_neg c1, if_neg c1]⟩)
            clear kc hst
            go_enter Try.func49, Try.ntmps49
            go_wp2
            go_returns
            exact ⟨_, rfl, HE.out, Below.refl _ _⟩
          | node gr rk rv rl rr =>
            obtain ⟨L, hL⟩ : ∃ L, MT.node gl lk lv ll lr = L := ⟨_, rfl⟩
            obtain ⟨R, hR⟩ : ∃ R, MT.node gr rk rv rl rr = R := ⟨_, rfl⟩
            have hRa : R.ad = some ⟨gr, 0, none⟩ := by rw [← hR]; rfl
            have hLa : L.ad = some ⟨gl, 0, none⟩ := by rw [← hL]; rfl
            have HB := Lib.hid (show (MT.node g k v' (.node gl lk lv ll lr) (.node gr rk rv rl rr)).er.without k = Tr.bal R.er.first.1 R.er.first.2 L.er (R.er.without R.er.first.1) by
              rw [← hL, ← hR]
              simp only [MT.er]
              rw [without_node, if_neg c1, if_neg c1])
            have HFR := Lib.hid (rfirst_any B Q gr rk rv rl rr w (by rw [hR]; exact hR ▸ HH.out.2.2.2))
            rw [hR] at HFR
            have hsz := without_size R.er R.er.first.1
            rw [hL] at HIL
            rw [hR] at HIR
            rw [hL, hR] at HH hs'
            simp only [hL, hR] at kc c0
            rw [hLa, hRa] at kc c0
            rw [hRa] at HIR
            rw [hL, hR] at HB ⊢
            have hb1 := L.er.ht_size
            clear hL
            go_enter Try.func49, Try.ntmps49
            go_wp2_with fail
            refine HFR.out.mono ?_
            rintro e w1 ⟨z1, rfl, ⟨gf, fk, fv, fl, fr, rfl, hff, hfe⟩, b1⟩
            rw [hfe] at HB hsz
            have X1 := Lib.hid b1
            have NF := Lib.hid hff
            have N1 := Lib.hid (HH.out.below X1.out)
            have k1 := fun w' (hh : Ext w1 w') => (N1.out.1.below hh).cells
            have kf := fun w' (hh : Ext w1 w') => (NF.out.1.below hh).cells
            simp only [cellsAre, Nat.zero_add, Nat.reduceAdd, and_true] at k1 kf
            rw [hLa, hRa] at k1
            have hst1 : Ext w1 w1.drew := Ext.drew _
            clear kc c0 hst hff hfe b1
            go_upto_region 12 with fail
            refine wp_region_adv 8 [] [(0, true, some 75, none), (1, true, some 76, none), (2, true, some 77, none), (3, true, some 78, none), (4, true, some 79, none), (5, true, some 80, none), (6, true, some 81, none), (7, true, some 82, none)] (by kernel_rfl) (by kernel_rfl) (by kernel_rfl) (by intro it hit; (repeat (rcases List.mem_cons.1 hit with rfl | hit; (focus (intro o ho ev w; injection ho with ho; subst ho; kernel_rfl)))); cases hit) (fun _ _ _ _ _ => ⟨fun h => h, fun h => h⟩) hst1 ?_
            repeat (first | (refine wpSeq_pure (v := ?_) rfl ?_ ?_; rotate_left 1; (focus (intro wq_ hSq_; (try dsimp only at hSq_); go_simp; (try with_reducible rfl); done)); (try simp only [Act.put, List.setIfInBounds_toArray, List.set_cons_zero, List.set_cons_succ])) | (refine wpSeq_pureG (v := ?_) rfl rfl ?_ ?_; rotate_left 1; (focus (intro wq_ hSq_; (try dsimp only at hSq_); go_simp; (try with_reducible rfl); done)); (try simp only [Act.put, List.setIfInBounds_toArray, List.set_cons_zero, List.set_cons_succ])) | (refine wpSeq_off rfl rfl ?_; (try simp only [Act.put, List.setIfInBounds_toArray, List.set_cons_zero, List.set_cons_succ])) | (refine wpSeq_offU rfl ?_; (try simp only [Act.put, List.setIfInBounds_toArray, List.set_cons_zero, List.set_cons_succ])))
            intro w2 g2 s2
            (try simp only [endJ, List.drop_succ_cons, List.drop_zero])
            go_wp2_with fail
            refine (HIR.out fk w2 (N1.out.2.2.2.below s2) (HF.out.ext (bt X1.out s2)) (by omega)).mono ?_
            rintro e w3 ⟨z3, rfl, ⟨t1, rfl, ht1, he1⟩, b3⟩
            have X3 := Lib.hid (bt s2 b3)
            have T1 := Lib.hid ht1
            have HE := Lib.hid he1
            have N3 := Lib.hid (N1.out.below X3.out)
            have k3 := fun w' (hh : Ext w3 w') => (N3.out.1.below hh).cells
            have kf3 := fun w' (hh : Ext w3 w') => ((NF.out.1.below X3.out).below hh).cells
            simp only [cellsAre, Nat.zero_add, Nat.reduceAdd, and_true] at k3 kf3
            rw [hLa, hRa] at k3
            have hst3 : Ext w3 w3.drew := Ext.drew _
            have hz1 : L.er.size + t1.er.size ≤ 100000000 := by rw [he1]; omega
            have hb2 := t1.er.ht_size
            obtain ⟨H1, hH1⟩ : ∃ H, L.er.ht = H := ⟨_, rfl⟩
            obtain ⟨H2, hH2⟩ : ∃ H, t1.er.ht = H := ⟨_, rfl⟩
            rw [hH1] at hb1
            rw [hH2] at hb2
            have HH1 := Lib.hid hH1
            have HH2 := Lib.hid hH2
            have HLH := Lib.hid (fun u (hu : Ext w3 u) => rheight_any B Q L u (N3.out.2.2.1.below hu))
            rw [hLa] at HLH
            clear hst1 k1 kf s2 g2 b3 ht1 he1 HFR
            rcases Nat.lt_or_ge H1 H2 with hle | hle
            · have hle1 : (H1 : Int) < (H2 : Int) := by omega
              have hle2 : (H1 : Int) ≤ (H2 : Int) := by omega
              have HM := Lib.hid (show ((1 + max L.er.ht t1.er.ht : Nat) : Int) = 1 + (H2 : Int) by rw [hH1, hH2]; omega)
              have hM1 : IntKind.i64.wrap (1 + (H2 : Int)) = 1 + (H2 : Int) := IntWalk.i64_in _ (by omega)
              clear hH1 hH2
              go_upto_region 13 with fail
              refine wp_region_adv 22 [] [(0, true, some 84, none), (1, true, some 85, none), (2, true, some 86, none), (3, true, some 87, none), (4, true, some 88, none), (5, true, some 89, none), (6, true, some 90, none), (7, true, some 91, none), (8, true, some 92, none), (9, true, some 93, none), (10, true, some 94, none), (11, true, some 95, none), (12, true, some 96, none), (13, true, some 97, none), (14, true, some 98, none), (15, true, some 99, none), (16, true, some 100, none), (18, true, some 102, none), (17, false, some 101, none), (19, false, some 103, none), (20, true, some 104, none), (21, true, some 105, none)] (by kernel_rfl) (by kernel_rfl) (by kernel_rfl) (by intro it hit; (repeat (rcases List.mem_cons.1 hit with rfl | hit; (focus (intro o ho ev w; injection ho with ho; subst ho; kernel_rfl)))); cases hit) (fun _ _ _ _ _ => ⟨fun h => h, fun h => h⟩) hst3 ?_
              repeat (first | (refine wpSeq_pure (v := ?_) rfl ?_ ?_; rotate_left 1; (focus (intro wq_ hSq_; (try dsimp only at hSq_); go_simp; (try with_reducible rfl); done)); (try simp only [Act.put, List.setIfInBounds_toArray, List.set_cons_zero, List.set_cons_succ])) | (refine wpSeq_pureG (v := ?_) rfl rfl ?_ ?_; rotate_left 1; (focus (intro wq_ hSq_; (try dsimp only at hSq_); go_simp; (try with_reducible rfl); done)); (try simp only [Act.put, List.setIfInBounds_toArray, List.set_cons_zero, List.set_cons_succ])) | (refine wpSeq_off rfl rfl ?_; (try simp only [Act.put, List.setIfInBounds_toArray, List.set_cons_zero, List.set_cons_succ])) | (refine wpSeq_offU rfl ?_; (try simp only [Act.put, List.setIfInBounds_toArray, List.set_cons_zero, List.set_cons_succ])))
              first | refine wpSeq_call rfl (fun u1 g1 s1 K hK => ?_) | refine wpSeq_callG rfl rfl (fun u1 g1 s1 K hK => ?_)
              go_simp
              refine (HLH.out u1 s1).mono ?_
              rintro e y1 ⟨q1, rfl, rfl, b1⟩
              rw [HH1.out]
              (try go_wp2_with fail)
              refine hK.out _ _ b1 ?_
              clear hK K
              (try simp only [Act.put, List.setIfInBounds_toArray, List.set_cons_zero, List.set_cons_succ])
              repeat (first | (refine wpSeq_pure (v := ?_) rfl ?_ ?_; rotate_left 1; (focus (intro wq_ hSq_; (try dsimp only at hSq_); go_simp; (try with_reducible rfl); done)); (try simp only [Act.put, List.setIfInBounds_toArray, List.set_cons_zero, List.set_cons_succ])) | (refine wpSeq_pureG (v := ?_) rfl rfl ?_ ?_; rotate_left 1; (focus (intro wq_ hSq_; (try dsimp only at hSq_); go_simp; (try with_reducible rfl); done)); (try simp only [Act.put, List.setIfInBounds_toArray, List.set_cons_zero, List.set_cons_succ])) | (refine wpSeq_off rfl rfl ?_; (try simp only [Act.put, List.setIfInBounds_toArray, List.set_cons_zero, List.set_cons_succ])) | (refine wpSeq_offU rfl ?_; (try simp only [Act.put, List.setIfInBounds_toArray, List.set_cons_zero, List.set_cons_succ])))
              first | refine wpSeq_call rfl (fun u2 g2 s2 K hK => ?_) | refine wpSeq_callG rfl rfl (fun u2 g2 s2 K hK => ?_)
              go_simp
              refine (rheight_any B Q t1 u2 (T1.out.below s2)).mono ?_
              rintro e y2 ⟨q2, rfl, rfl, b2⟩
              rw [HH2.out]
              (try go_wp2_with fail)
              refine hK.out _ _ b2 ?_
              clear hK K
              (try simp only [Act.put, List.setIfInBounds_toArray, List.set_cons_zero, List.set_cons_succ])
              repeat (first | (refine wpSeq_pure (v := ?_) rfl ?_ ?_; rotate_left 1; (focus (intro wq_ hSq_; (try dsimp only at hSq_); go_simp; (try with_reducible rfl); done)); (try simp only [Act.put, List.setIfInBounds_toArray, List.set_cons_zero, List.set_cons_succ])) | (refine wpSeq_pureG (v := ?_) rfl rfl ?_ ?_; rotate_left 1; (focus (intro wq_ hSq_; (try dsimp only at hSq_); go_simp; (try with_reducible rfl); done)); (try simp only [Act.put, List.setIfInBounds_toArray, List.set_cons_zero, List.set_cons_succ])) | (refine wpSeq_off rfl rfl ?_; (try simp only [Act.put, List.setIfInBounds_toArray, List.set_cons_zero, List.set_cons_succ])) | (refine wpSeq_offU rfl ?_; (try simp only [Act.put, List.setIfInBounds_toArray, List.set_cons_zero, List.set_cons_succ])))
              intro wz gz sz_
              (try simp only [endJ, List.drop_succ_cons, List.drop_zero])
              have hfz := HF.out wz.heap.size (Ext.size (bt X1.out (bt X3.out sz_)))
              have hxa : Ext wz (wz.alloc (.cells #[.string fk, .string fv, .pointer (some ⟨gl, 0, none⟩), .pointer t1.ad, .int .i64 (1 + (H2 : Int)), .int .i64 0] TNO)) := Ext.allocR _ _
              have HN := Lib.hid (show TrW (wz.alloc (.cells #[.string fk, .string fv, .pointer (some ⟨gl, 0, none⟩), .pointer t1.ad, .int .i64 (1 + (H2 : Int)), .int .i64 0] TNO)) B Q (.node wz.heap.size fk fv L t1) from
                ⟨by rw [HM.out, hfz.1, hLa]; exact Blk.new_ _ _ rfl, hfz.2, (N3.out.2.2.1.below sz_).below hxa, (T1.out.below sz_).below hxa⟩)
              have XZ := Lib.hid (bt X1.out (bt X3.out (bt sz_ hxa)))
              clear k3 kf3 hst3 s1 g1 b1 s2 g2 b2 gz sz_ hfz hxa
              go_wp2_with fail
              refine (rbalanced_any B Q _ fk fv L t1 _ HN.out (HF.out.ext XZ.out) hz1).mono ?_
              rintro e w5 ⟨z5, rfl, hz5, b5⟩
              have HZ := Lib.hid (And.intro hz5 (bt XZ.out b5))
              obtain ⟨t5, hz5', _⟩ := hz5
              subst hz5'
              clear b5
              go_wp2
              go_returns
              exact ⟨_, rfl, by rw [HB.out, ← HE.out]; exact HZ.out.1, HZ.out.2⟩
            · have hle1 : (H2 : Int) ≤ (H1 : Int) := by omega
              have hle2 : ¬ (H1 : Int) < (H2 : Int) := by omega
              have HM := Lib.hid (show ((1 + max L.er.ht t1.er.ht : Nat) : Int) = 1 + (H1 : Int) by rw [hH1, hH2]; omega)
              have hM1 : IntKind.i64.wrap (1 + (H1 : Int)) = 1 + (H1 : Int) := IntWalk.i64_in _ (by omega)
              clear hH1 hH2
              go_upto_region 13 with fail
              refine wp_region_adv 22 [] [(0, true, some 84, none), (1, true, some 85, none), (2, true, some 86, none), (3, true, some 87, none), (4, true, some 88, none), (5, true, some 89, none), (6, true, some 90, none), (7, true, some 91, none), (8, true, some 92, none), (9, true, some 93, none), (10, true, some 94, none), (11, true, some 95, none), (12, true, some 96, none), (13, true, some 97, none), (14, true, some 98, none), (15, true, some 99, none), (16, true, some 100, none), (18, true, some 102, none), (17, false, some 101, none), (19, false, some 103, none), (20, true, some 104, none), (21, true, some 105, none)] (by kernel_rfl) (by kernel_rfl) (by kernel_rfl) (by intro it hit; (repeat (rcases List.mem_cons.1 hit with rfl | hit; (focus (intro o ho ev w; injection ho with ho; subst ho; kernel_rfl)))); cases hit) (fun _ _ _ _ _ => ⟨fun h => h, fun h => h⟩) hst3 ?_
              repeat (first | (refine wpSeq_pure (v := ?_) rfl ?_ ?_; rotate_left 1; (focus (intro wq_ hSq_; (try dsimp only at hSq_); go_simp; (try with_reducible rfl); done)); (try simp only [Act.put, List.setIfInBounds_toArray, List.set_cons_zero, List.set_cons_succ])) | (refine wpSeq_pureG (v := ?_) rfl rfl ?_ ?_; rotate_left 1; (focus (intro wq_ hSq_; (try dsimp only at hSq_); go_simp; (try with_reducible rfl); done)); (try simp only [Act.put, List.setIfInBounds_toArray, List.set_cons_zero, List.set_cons_succ])) | (refine wpSeq_off rfl rfl ?_; (try simp only [Act.put, List.setIfInBounds_toArray, List.set_cons_zero, List.set_cons_succ])) | (refine wpSeq_offU rfl ?_; (try simp only [Act.put, List.setIfInBounds_toArray, List.set_cons_zero, List.set_cons_succ])))
              first | refine wpSeq_call rfl (fun u1 g1 s1 K hK => ?_) | refine wpSeq_callG rfl rfl (fun u1 g1 s1 K hK => ?_)
              go_simp
              refine (HLH.out u1 s1).mono ?_
              rintro e y1 ⟨q1, rfl, rfl, b1⟩
              rw [HH1.out]
              (try go_wp2_with fail)
              refine hK.out _ _ b1 ?_
              clear hK K
              (try simp only [Act.put, List.setIfInBounds_toArray, List.set_cons_zero, List.set_cons_succ])
              repeat (first | (refine wpSeq_pure (v := ?_) rfl ?_ ?_; rotate_left 1; (focus (intro wq_ hSq_; (try dsimp only at hSq_); go_simp; (try with_reducible rfl); done)); (try simp only [Act.put, List.setIfInBounds_toArray, List.set_cons_zero, List.set_cons_succ])) | (refine wpSeq_pureG (v := ?_) rfl rfl ?_ ?_; rotate_left 1; (focus (intro wq_ hSq_; (try dsimp only at hSq_); go_simp; (try with_reducible rfl); done)); (try simp only [Act.put, List.setIfInBounds_toArray, List.set_cons_zero, List.set_cons_succ])) | (refine wpSeq_off rfl rfl ?_; (try simp only [Act.put, List.setIfInBounds_toArray, List.set_cons_zero, List.set_cons_succ])) | (refine wpSeq_offU rfl ?_; (try simp only [Act.put, List.setIfInBounds_toArray, List.set_cons_zero, List.set_cons_succ])))
              first | refine wpSeq_call rfl (fun u2 g2 s2 K hK => ?_) | refine wpSeq_callG rfl rfl (fun u2 g2 s2 K hK => ?_)
              go_simp
              refine (rheight_any B Q t1 u2 (T1.out.below s2)).mono ?_
              rintro e y2 ⟨q2, rfl, rfl, b2⟩
              rw [HH2.out]
              (try go_wp2_with fail)
              refine hK.out _ _ b2 ?_
              clear hK K
              (try simp only [Act.put, List.setIfInBounds_toArray, List.set_cons_zero, List.set_cons_succ])
              repeat (first | (refine wpSeq_pure (v := ?_) rfl ?_ ?_; rotate_left 1; (focus (intro wq_ hSq_; (try dsimp only at hSq_); go_simp; (try with_reducible rfl); done)); (try simp only [Act.put, List.setIfInBounds_toArray, List.set_cons_zero, List.set_cons_succ])) | (refine wpSeq_pureG (v := ?_) rfl rfl ?_ ?_; rotate_left 1; (focus (intro wq_ hSq_; (try dsimp only at hSq_); go_simp; (try with_reducible rfl); done)); (try simp only [Act.put, List.setIfInBounds_toArray, List.set_cons_zero, List.set_cons_succ])) | (refine wpSeq_off rfl rfl ?_; (try simp only [Act.put, List.setIfInBounds_toArray, List.set_cons_zero, List.set_cons_succ])) | (refine wpSeq_offU rfl ?_; (try simp only [Act.put, List.setIfInBounds_toArray, List.set_cons_zero, List.set_cons_succ])))
              intro wz gz sz_
              (try simp only [endJ, List.drop_succ_cons, List.drop_zero])
              have hfz := HF.out wz.heap.size (Ext.size (bt X1.out (bt X3.out sz_)))
              have hxa : Ext wz (wz.alloc (.cells #[.string fk, .string fv, .pointer (some ⟨gl, 0, none⟩), .pointer t1.ad, .int .i64 (1 + (H1 : Int)), .int .i64 0] TNO)) := Ext.allocR _ _
              have HN := Lib.hid (show TrW (wz.alloc (.cells #[.string fk, .string fv, .pointer (some ⟨gl, 0, none⟩), .pointer t1.ad, .int .i64 (1 + (H1 : Int)), .int .i64 0] TNO)) B Q (.node wz.heap.size fk fv L t1) from
                ⟨by rw [HM.out, hfz.1, hLa]; exact Blk.new_ _ _ rfl, hfz.2, (N3.out.2.2.1.below sz_).below hxa, (T1.out.below sz_).below hxa⟩)
              have XZ := Lib.hid (bt X1.out (bt X3.out (bt sz_ hxa)))
              clear k3 kf3 hst3 s1 g1 b1 s2 g2 b2 gz sz_ hfz hxa
              go_wp2_with fail
              refine (rbalanced_any B Q _ fk fv L t1 _ HN.out (HF.out.ext XZ.out) hz1).mono ?_
              rintro e w5 ⟨z5, rfl, hz5, b5⟩
              have HZ := Lib.hid (And.intro hz5 (bt XZ.out b5))
              obtain ⟨t5, hz5', _⟩ := hz5
              subst hz5'
              clear b5
              go_wp2
              go_returns
              exact ⟨_, rfl, by rw [HB.out, ← HE.out]; exact HZ.out.1, HZ.out.2⟩
end Go.Proofs.Tb
