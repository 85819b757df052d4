/- Contract of a node's encode. -/
import Derived.Test.YtfljnfdeboibhaaStm
import Derived.Test.YtfljnfdeboibhaaSth
set_option linter.unusedVariables false
set_option linter.unusedSimpArgs false
namespace Go.Proofs.Tb
open Go.RowKit
attribute [local go_sem] cell_set_same

/-- The block of a tree's root. -/
def MT.bk (B : Nat → Nat) : MT → Nat
  | .nil => 0
  | .node g _ _ _ _ => B g
theorem nodB_lt (k v : Str) (l r h : Nat) : ∀ b ∈ nodB k v l r h, b < 256 := fun b hb => by
  unfold nodB at hb
  simp only [List.mem_append, List.mem_singleton] at hb
  rcases hb with ((((rfl | hb) | hb) | hb) | hb) | hb
  · omega
  · exact txB_lt _ _ b hb
  · exact txB_lt _ _ b hb
  · exact beB_lt _ _ b hb
  · exact beB_lt _ _ b hb
  · exact beB_lt _ _ b hb
theorem own_lit_u8 {w : World} (b : Nat) : OwB w.heap.size (w.alloc (.cells #[.int .u8 (b : Int)] TU8)) (.slice (some ⟨w.heap.size, 0, none⟩) 1 1) [b] := own_lit TU8 1 #[.int .u8 (b : Int)] 1 (Nat.le_refl _) (by omega) rfl
set_option maxHeartbeats 6400000 in
set_option maxRecDepth 100000 in
theorem rencode_any (B : Nat → Nat) (Q : Nat → Prop) (g : Nat) (k v : Str) (l r : MT) (w : World) (h : TrW w B Q (.node g k v l r)) (hk : k.size ≤ 12) (hv : v.size ≤ 24) (hs : l.er.size + r.er.size ≤ 1000000) (hB : ∀ g, B g ≤ 1000000) :
    Calls Try.prog 85 #[.pointer (some ⟨g, 0, none⟩)] w (Ret (fun z w' => ∃ A c, z = .slice A 64 c ∧ OwB w.heap.size w' (.slice A 64 c) (blkB (nodB k v (l.bk B) (r.bk B) (1 + max l.er.ht r.er.ht)))) w) := by
  have HH := Lib.hid h
  have hb1 := l.er.ht_size
  have hb2 := r.er.ht_size
  have HBB := Lib.hid hB
  clear h hB
  go_enter Try.func85, Try.ntmps85
  go_upto_region 2 with fail
  have x1 : Ext w (w.alloc (.cells #[.int .u8 110] TU8)) := Ext.allocR _ _
  have x2 : Ext (w.alloc (.cells #[.int .u8 110] TU8)) ((w.alloc (.cells #[.int .u8 110] TU8)).alloc (.cells #[.slice (some ⟨w.heap.size, 0, none⟩) 1 1] TWR)) := Ext.allocR _ _
  refine wp_world (fun W => WrW w.heap.size (w.heap.size + 1) W [110] ∧ Ext w W) ⟨⟨_, Blk.new_ _ _ (by simp), own_below (own_lit_u8 (w := w) 110) x2⟩, bt x1 x2⟩ ?_
  clear x1 x2
  rintro W1 ⟨hw1, hx1⟩
  obtain ⟨p, hp⟩ : ∃ p, w.heap.size = p := ⟨_, rfl⟩
  rw [hp] at hw1 ⊢
  have hgp : g < p := by rw [← hp]; exact HH.out.1.lt
  have HP := Lib.hid hp
  have HW1 := Lib.hid hw1
  have HX1 := Lib.hid (show Below p w W1 by rw [← hp]; exact hx1)
  have N1 := Lib.hid (HH.out.below hx1)
  have c1 := N1.out.1.cells
  simp only [cellsAre, Nat.zero_add, Nat.reduceAdd, and_true] at c1
  clear hw1 hx1 hp
  go_wp2_with fail
  refine (rtext_any p (p + 1) [110] k 12 W1 HW1.out (by omega) (by simp) hk (by omega)).mono ?_
  rintro e w2 ⟨⟨z2, rfl⟩, hw2, hb2', _⟩
  have HW2 := Lib.hid hw2
  have HX2 := Lib.hid (HX1.out.trans hb2')
  have hbw2 : Ext w w2 := by show Below w.heap.size w w2; rw [HP.out]; exact HX2.out
  have N2 := Lib.hid (HH.out.below hbw2)
  have c2 := N2.out.1.cells
  simp only [cellsAre, Nat.zero_add, Nat.reduceAdd, and_true] at c2
  have t12 := txB_len hk
  clear hw2 hb2' c1 HW1 N1 hbw2
  go_wp2_with fail
  refine (rtext_any p (p + 1) ([110] ++ txB k 12) v 24 w2 HW2.out (by omega) (by rw [List.length_append, t12]; simp) hv (by omega)).mono ?_
  rintro e w3 ⟨⟨z3, rfl⟩, hw3, hb3', _⟩
  have HW3 := Lib.hid hw3
  have HX3 := Lib.hid (HX2.out.trans hb3')
  have hbw3 : Ext w w3 := by show Below w.heap.size w w3; rw [HP.out]; exact HX3.out
  have N3 := Lib.hid (HH.out.below hbw3)
  have k3 := fun w' (hh : Ext w3 w') => (N3.out.1.below hh).cells
  simp only [cellsAre, Nat.zero_add, Nat.reduceAdd, and_true] at k3
  have t24 := txB_len hv
  have hst : Ext w3 w3.drew := Ext.drew _
  have hp3 : p + 1 < w3.heap.size := by obtain ⟨v, h1, _⟩ := HW3.out; exact h1.lt
  clear hw3 hb3' c2 HW2 N2 hbw3
  obtain ⟨bs, hbs⟩ : ∃ bs, [110] ++ txB k 12 ++ txB v 24 = bs := ⟨_, rfl⟩
  rw [hbs] at HW3
  have hbl : bs.length = 39 := by rw [← hbs]; simp only [List.length_append, t12, t24, List.length_cons, List.length_nil]
  have HBS := Lib.hid hbs
  clear hbs
  go_upto_region 4 with fail
  refine wp_region_adv 11 [] [(0, true, some 22, none), (1, true, some 23, none), (2, true, some 24, none), (3, true, some 25, none), (4, true, some 26, none), (5, true, some 27, none), (6, true, some 28, none), (7, true, some 29, none), (10, true, some 32, none), (8, false, some 30, none), (9, true, some 31, none)] (by kernel_rfl) (by kernel_rfl) (by kernel_rfl) (by intro it hit; (repeat (rcases List.mem_cons.1 hit with rfl | hit; (focus (intro o ho ev w; injection ho with ho; subst ho; kernel_rfl)))); cases hit) (fun _ _ _ _ _ => ⟨fun h => h, fun h => h⟩) hst ?_
  repeat (first | (refine wpSeq_pure (v := ?_) rfl ?_ ?_; rotate_left 1; (focus (intro wq_ hSq_; (try dsimp only at hSq_); go_simp; (try with_reducible rfl); done)); (try simp only [Act.put, List.setIfInBounds_toArray, List.set_cons_zero, List.set_cons_succ])) | (refine wpSeq_pureG (v := ?_) rfl rfl ?_ ?_; rotate_left 1; (focus (intro wq_ hSq_; (try dsimp only at hSq_); go_simp; (try with_reducible rfl); done)); (try simp only [Act.put, List.setIfInBounds_toArray, List.set_cons_zero, List.set_cons_succ])) | (refine wpSeq_off rfl rfl ?_; (try simp only [Act.put, List.setIfInBounds_toArray, List.set_cons_zero, List.set_cons_succ])) | (refine wpSeq_offU rfl ?_; (try simp only [Act.put, List.setIfInBounds_toArray, List.set_cons_zero, List.set_cons_succ])))
  first | refine wpSeq_call rfl (fun u1 g1 s1 K hK => ?_) | refine wpSeq_callG rfl rfl (fun u1 g1 s1 K hK => ?_)
  go_simp
  (try go_wp2_with fail)
  refine hK.out _ _ (Ext.allocR _ _) ?_
  clear hK K
  (try simp only [Act.put, List.setIfInBounds_toArray, List.set_cons_zero, List.set_cons_succ])
  repeat (first | (refine wpSeq_pure (v := ?_) rfl ?_ ?_; rotate_left 1; (focus (intro wq_ hSq_; (try dsimp only at hSq_); go_simp; (try with_reducible rfl); done)); (try simp only [Act.put, List.setIfInBounds_toArray, List.set_cons_zero, List.set_cons_succ])) | (refine wpSeq_pureG (v := ?_) rfl rfl ?_ ?_; rotate_left 1; (focus (intro wq_ hSq_; (try dsimp only at hSq_); go_simp; (try with_reducible rfl); done)); (try simp only [Act.put, List.setIfInBounds_toArray, List.set_cons_zero, List.set_cons_succ])) | (refine wpSeq_off rfl rfl ?_; (try simp only [Act.put, List.setIfInBounds_toArray, List.set_cons_zero, List.set_cons_succ])) | (refine wpSeq_offU rfl ?_; (try simp only [Act.put, List.setIfInBounds_toArray, List.set_cons_zero, List.set_cons_succ])))
  intro w4 g4 s4
  (try simp only [endJ, List.drop_succ_cons, List.drop_zero])
  have HR := Lib.hid (show Blk w4 u1.heap.size TNP #[.pointer l.ad, .pointer r.ad] from (Blk.new_ TNP #[.pointer l.ad, .pointer r.ad] rfl).below g4)
  obtain ⟨R, hR⟩ : ∃ R, u1.heap.size = R := ⟨_, rfl⟩
  have hRp : p + 1 < R := by rw [← hR]; exact Nat.lt_of_lt_of_le hp3 (Ext.size s1)
  rw [hR] at HR ⊢
  have HW4 := Lib.hid (show WrW p (p + 1) w4 bs from by
    obtain ⟨v, h1, h2⟩ := HW3.out
    exact ⟨v, h1.below s4, own_below h2 s4⟩)
  have HX4 := Lib.hid (HX3.out.trans (Below.mono s4 (by omega)))
  clear k3 hst s1 g1 g4 s4 HW3 HX3 N3 hR
  have tl := beB_len (l.bk B) 2
  have tr := beB_len (r.bk B) 2
  have HXB := Lib.hid (show ∀ wr, Below p w wr → Ext w wr from fun wr hh => by show Below w.heap.size w wr; rw [HP.out]; exact hh)
  obtain ⟨kb, hkb⟩ : ∃ kb, beB (l.bk B) 2 ++ beB (r.bk B) 2 = kb := ⟨_, rfl⟩
  have HW40 := Lib.hid (show WrW p (p + 1) w4 (bs ++ kb.take (2 * 0)) by rw [Nat.mul_zero, List.take_zero, List.append_nil]; exact HW4.out)
  have hkl : kb.length = 4 := by rw [← hkb, List.length_append, tl, tr]
  have HKB := Lib.hid hkb
  clear hkb HW4
  go_wp2_with fail
  go_loopw [32] (fun i wr => ∃ j : Nat, j ≤ 2 ∧ i = .int .i64 (j : Int) ∧ WrW p (p + 1) wr (bs ++ kb.take (2 * j)) ∧ Below p w wr ∧ FrW (p + 1) w4 wr) (fun i _ => 2 - (intOf i).toNat)
  case atStart => exact ⟨0, by omega, rfl, HW40.out, HX4.out, FrW.refl _ _⟩
  case round =>
    clear HW40
    obtain ⟨j, hj, rfl, hw, hbx, hfr⟩ := hrel
    have HW := Lib.hid hw
    have HX := Lib.hid hbx
    have HFR := Lib.hid hfr
    have N := Lib.hid (HH.out.below (HXB.out wr hbx))
    by_cases hj2 : j < 2
    · have pj : (j : Int) < 2 := by omega
      have hbR : Blk wr R TNP #[.pointer l.ad, .pointer r.ad] := hfr.blk HR.out (by decide) (by omega)
      obtain ⟨ch, hcell, hch, hby⟩ : ∃ ch : MT, wr.cell? ⟨R, j, none⟩ = some (.pointer ch.ad) ∧ TrW wr B Q ch ∧ kb.take (2 * (j + 1)) = kb.take (2 * j) ++ beB (ch.bk B) 2 := by
        obtain rfl | rfl : j = 0 ∨ j = 1 := by omega
        · refine ⟨l, (cell_of_row wr R 0 _ TNP (0, 0) hbR).trans rfl, N.out.2.2.1, ?_⟩
          rw [← HKB.out, Nat.mul_zero, List.take_zero, List.nil_append]
          rw [List.take_append_of_le_length (by rw [tl]; omega), List.take_of_length_le (by rw [tl]; omega)]
        · refine ⟨r, (cell_of_row wr R 1 _ TNP (0, 0) hbR).trans rfl, N.out.2.2.2, ?_⟩
          rw [← HKB.out, List.take_of_length_le (by rw [List.length_append, tl, tr]; omega), List.take_append_of_le_length (by rw [tl]; omega), List.take_of_length_le (by rw [tl]; omega)]
      have HBY := Lib.hid hby
      have hlw : (bs ++ kb.take (2 * j)).length ≤ 100 := by rw [List.length_append, List.length_take]; omega
      clear hby hbR hfr hbx hw
      cases ch with
      | nil =>
        have hcell' : wr.cell? ⟨R, j, none⟩ = some (.pointer none) := hcell
        clear hcell hch
        go_wp2_with fail
        refine (rnum_any p (p + 1) (bs ++ kb.take (2 * j)) 0 2 wr HW.out (by omega) (by omega) (by omega) (by omega)).mono ?_
        rintro e w6 ⟨⟨z6, rfl⟩, hw6, hb6, hf6⟩
        have HZ := Lib.hid (show WrW p (p + 1) w6 (bs ++ kb.take (2 * (j + 1))) by rw [HBY.out]; rw [List.append_assoc] at hw6; exact hw6)
        have HX6 := Lib.hid (HX.out.trans hb6)
        have HF6 := Lib.hid (HFR.out.trans hf6)
        clear hw6 hb6 hf6
        go_wp2
        go_roundw
        case rel => exact ⟨j + 1, by omega, by go_num, HZ.out, HX6.out, HF6.out⟩
        case measure => simp [intOf]; omega
      | node gc kc vc lc rc =>
        rw [MT.ad_node] at hcell
        have cc := hch.1.cells
        simp only [cellsAre, Nat.zero_add, Nat.reduceAdd, and_true] at cc
        have hBc := HBB.out gc
        have hbk : (MT.node gc kc vc lc rc).bk B = B gc := rfl
        rw [hbk] at HBY
        clear hch hbk
        go_wp2_with fail
        refine (rnum_any p (p + 1) (bs ++ kb.take (2 * j)) (B gc) 2 wr HW.out (by omega) (by omega) (by omega) (by omega)).mono ?_
        rintro e w6 ⟨⟨z6, rfl⟩, hw6, hb6, hf6⟩
        have HZ := Lib.hid (show WrW p (p + 1) w6 (bs ++ kb.take (2 * (j + 1))) by rw [HBY.out]; rw [List.append_assoc] at hw6; exact hw6)
        have HX6 := Lib.hid (HX.out.trans hb6)
        have HF6 := Lib.hid (HFR.out.trans hf6)
        clear hw6 hb6 hf6
        go_wp2
        go_roundw
        case rel => exact ⟨j + 1, by omega, by go_num, HZ.out, HX6.out, HF6.out⟩
        case measure => simp [intOf]; omega
    · obtain rfl : j = 2 := by omega
      have cn := N.out.1.cells
      simp only [cellsAre, Nat.zero_add, Nat.reduceAdd, and_true] at cn
      have HB5 := Lib.hid (show bs ++ kb.take (2 * 2) = bs ++ kb by rw [List.take_of_length_le (by omega)])
      have hlw : (bs ++ kb).length = 43 := by rw [List.length_append]; omega
      obtain ⟨H, hH⟩ : ∃ H, 1 + max l.er.ht r.er.ht = H := ⟨_, rfl⟩
      rw [hH] at cn
      have hHl : H ≤ 1000001 := by omega
      have HW5 := Lib.hid (show WrW p (p + 1) wr (bs ++ kb) by rw [← HB5.out]; exact HW.out)
      have HHH := Lib.hid hH
      clear hw hbx hfr hH
      go_wp2_with fail
      refine (rnum_any p (p + 1) (bs ++ kb) H 1 wr HW5.out (by omega) (by omega) (by omega) (by omega)).mono ?_
      rintro e w6 ⟨⟨z6, rfl⟩, hw6, hb6, _⟩
      have HW6 := Lib.hid hw6
      have HX6 := Lib.hid (HX.out.trans hb6)
      have hlw6 : (bs ++ kb ++ beB H 1).length = 44 := by rw [List.length_append, beB_len]; omega
      have hby6 : bs ++ kb ++ beB H 1 = nodB k v (l.bk B) (r.bk B) H := by
        rw [← HBS.out, ← HKB.out]
        unfold nodB
        simp only [List.append_assoc]
      rw [hby6] at HW6 hlw6
      have hlt : ∀ b ∈ nodB k v (l.bk B) (r.bk B) H, b < 256 := nodB_lt _ _ _ _ _
      clear hw6 hb6 hby6 cn
      go_wp2_with fail
      refine (rdone_any p (p + 1) _ w6 HW6.out (by omega) (by omega) hlt).mono ?_
      rintro e w7 ⟨A7, c7, rfl, ho7, hb7⟩
      have HZ := Lib.hid (And.intro ho7 (HX6.out.trans hb7))
      clear ho7 hb7
      go_wp2
      go_returns
      exact ⟨_, rfl, ⟨A7, c7, rfl, by rw [HP.out, HHH.out]; exact HZ.out.1⟩, HXB.out _ HZ.out.2⟩
end Go.Proofs.Tb
