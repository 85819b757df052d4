/- Contract of the store's Clone; stores beside one another. -/
import Derived.Test.YtfljnfdeboibhaaGreatRoo
set_option linter.unusedVariables false
set_option linter.unusedSimpArgs false
namespace Go.Proofs.Tb
open Go.Maps Go.RowKit Go.Lib
attribute [local go_sem] cell_set_same neqMapL

theorem SI.old {F : Nat → Prop} {w : World} {s d keep : Nat} {vs : List (Nat × MT)} {B : Nat → Nat} {br : Bool} {bl : List (List (List Nat))} {down : Bool} {left : Nat} (h : SI F w s d keep vs B br bl down left) : SI (fun b => F b ∧ b < w.heap.size) w s d keep vs B br bl down left := by
  obtain ⟨A, m, c, g1, g2⟩ := h.se
  obtain ⟨g, h1, h2, h3⟩ := h.dk
  exact ⟨⟨A, m, c, g1, g2⟩, ⟨g, h1, h2, fun b hb => ⟨h3 b hb, by
    obtain ⟨o, ho, _⟩ := h1.fp_lt (by rw [List.length_map]; exact hb)
    exact obj_lt ho⟩⟩, ⟨h.fs, g1.lt⟩, h.tr, h.bz, h.bm⟩
theorem SI.apart {F G : Nat → Prop} {w w' : World} {s d keep : Nat} {vs : List (Nat × MT)} {B : Nat → Nat} {br : Bool} {bl : List (List (List Nat))} {down : Bool} {left : Nat} (h : SI F w s d keep vs B br bl down left) (hc : Chg (MF G) w w') (hd : ∀ b, F b → ¬ G b) : SI F w' s d keep vs B br bl down left :=
  h.chg hc (fun b o hb _ hX => hd b hb hX.1) MF.u8 MF.no MF.ve
theorem STl.old {F : Nat → Prop} {w : World} {s d keep n left : Nat} {Vs : List (List Pr)} (h : STl F w s d keep n Vs left) : STl (fun b => F b ∧ b < w.heap.size) w s d keep n Vs left := by
  obtain ⟨vs, B, bl, h1, h2⟩ := h
  exact ⟨vs, B, bl, h1.old, h2⟩
theorem STl.apart {F G : Nat → Prop} {w w' : World} {s d keep n left : Nat} {Vs : List (List Pr)} (h : STl F w s d keep n Vs left) (hc : Chg (MF G) w w') (hd : ∀ b, F b → ¬ G b) : STl F w' s d keep n Vs left := by
  obtain ⟨vs, B, bl, h1, h2⟩ := h
  exact ⟨vs, B, bl, h1.apart hc hd, h2⟩
theorem STd.old {F : Nat → Prop} {w : World} {s d keep n : Nat} {Vs : List (List Pr)} {L : List Pr} (h : STd F w s d keep n Vs L) : STd (fun b => F b ∧ b < w.heap.size) w s d keep n Vs L := by
  obtain ⟨vs, B, bl, lf, h1, h2⟩ := h
  exact ⟨vs, B, bl, lf, h1.old, h2⟩
theorem STd.apart {F G : Nat → Prop} {w w' : World} {s d keep n : Nat} {Vs : List (List Pr)} {L : List Pr} (h : STd F w s d keep n Vs L) (hc : Chg (MF G) w w') (hd : ∀ b, F b → ¬ G b) : STd F w' s d keep n Vs L := by
  obtain ⟨vs, B, bl, lf, h1, h2⟩ := h
  exact ⟨vs, B, bl, lf, h1.apart hc hd, h2⟩
set_option maxHeartbeats 6400000 in
set_option maxRecDepth 100000 in
theorem rsclone_any {F : Nat → Prop} {w : World} {s d keep n left : Nat} {Vs : List (List Pr)} (h : STl F w s d keep n Vs left) (hn : 1 ≤ n) (hk : keep ≤ 1000) :
    Calls Tryz.prog 29 #[.pointer (some ⟨s, 0, none⟩)] w (Ret (fun z w' => ∃ s2 d2, z = .tuple #[.pointer (some ⟨s2, 0, none⟩), .pointer (some ⟨d2, 0, none⟩)] ∧ STl (fun b => w.heap.size ≤ b) w' s2 d2 keep n Vs left) w) := by
  obtain ⟨vs, B, bl, hsi, hvs, hfew, hbl, hst⟩ := h
  obtain ⟨A, m, c, hs, ho⟩ := hsi.se
  have hml : vs.length = m := by
    obtain ⟨A', c', e, _⟩ := own_rv ho
    injection e with _ e _
    exact e.symm
  have hvp := hvs.pos
  have hvl := hvs.len
  have hr0 : Rv w 2 A m c (vc vs) := own_rvv ho
  have HSE := Lib.hid hs
  have HDK := Lib.hid hsi.dk
  have HR := Lib.hid hr0
  have HSI := Lib.hid hsi
  have HST := Lib.hid (And.intro hvs (And.intro hfew (And.intro hbl hst)))
  clear hs ho hr0 hsi hvs hfew hbl hst
  go_enter Tryz.func29, Tryz.ntmps29
  go_wp2_with fail
  refine (rsmade_any s d keep _ false w HSE.out).mono ?_
  rintro e w1 ⟨v1, rfl, rfl, b1⟩
  have X1 := Lib.hid (show Ext w w1 from b1)
  have k1 := (HSE.out.below b1).cells
  simp only [cellsAre, Nat.zero_add, Nat.reduceAdd, and_true] at k1
  clear b1
  go_wp2_with fail
  refine (rdclone_ok (HDK.out.ext X1.out) (by have := HST.out.2.2.1; omega) (fun k => Nat.le_trans (HST.out.2.1 k) (by omega))).mono ?_
  rintro e w2 ⟨v2, rfl, ⟨d2, rfl, hd2⟩, b2⟩
  have X2 := Lib.hid (bt X1.out b2)
  have HD2 := Lib.hid (hd2.imp (G := fun b => w.heap.size ≤ b) fun b hb => Nat.le_trans X1.out.size hb)
  clear b2 hd2 k1
  go_upto_region 4 with fail
  have kk := fun W (hh : Ext w2 W) => (HSE.out.below (bt X2.out hh)).cells
  simp only [cellsAre, Nat.zero_add, Nat.reduceAdd, and_true] at kk
  have hst : Ext w2 w2.drew := Ext.drew _
  refine wp_region_adv 18 [] [(0, true, some 13, none), (1, true, some 14, none), (2, true, some 15, none), (3, true, some 16, none), (4, true, some 17, none), (5, true, some 18, none), (6, true, some 19, none), (7, true, some 20, none), (8, true, some 21, none), (10, true, some 23, none), (11, true, some 24, none), (12, true, some 25, none), (13, true, some 26, none), (16, true, some 29, none), (9, false, some 22, none), (14, true, some 27, none), (15, false, some 28, none), (17, false, some 2, none)] (by kernel_rfl) (by kernel_rfl) (by kernel_rfl) (by intro it hit; (repeat (rcases List.mem_cons.1 hit with rfl | hit; (focus (intro o ho ev w; injection ho with ho; subst ho; kernel_rfl)))); cases hit) (fun _ _ _ _ _ => ⟨fun h => h, fun h => h⟩) hst ?_
  repeat (first | (refine wpSeq_pure (v := ?_) rfl ?_ ?_; rotate_left 1; (focus (intro wq_ hSq_; (try dsimp only at hSq_); go_simp; (try with_reducible rfl); done)); (try simp only [Act.put, List.setIfInBounds_toArray, List.set_cons_zero, List.set_cons_succ])) | (refine wpSeq_pureG (v := ?_) rfl rfl ?_ ?_; rotate_left 1; (focus (intro wq_ hSq_; (try dsimp only at hSq_); go_simp; (try with_reducible rfl); done)); (try simp only [Act.put, List.setIfInBounds_toArray, List.set_cons_zero, List.set_cons_succ])) | (refine wpSeq_off rfl rfl ?_; (try simp only [Act.put, List.setIfInBounds_toArray, List.set_cons_zero, List.set_cons_succ])) | (refine wpSeq_offU rfl ?_; (try simp only [Act.put, List.setIfInBounds_toArray, List.set_cons_zero, List.set_cons_succ])))
  first | refine wpSeq_call rfl (fun u1 g1 s1 K hK => ?_) | refine wpSeq_callG rfl rfl (fun u1 g1 s1 K hK => ?_)
  go_simp
  refine (rcloneVS_any A m c (vc vs) u1 (HR.out.below (bt X2.out s1)) (by omega) (by omega) (vc_one vs)).mono ?_
  rintro e y1 ⟨z1, rfl, ⟨A3, c3, rfl, ho3⟩, b3⟩
  (try go_wp2_with fail)
  refine hK.out _ _ b3 ?_
  clear hK K
  (try simp only [Act.put, List.setIfInBounds_toArray, List.set_cons_zero, List.set_cons_succ])
  repeat (first | (refine wpSeq_pure (v := ?_) rfl ?_ ?_; rotate_left 1; (focus (intro wq_ hSq_; (try dsimp only at hSq_); go_simp; (try with_reducible rfl); done)); (try simp only [Act.put, List.setIfInBounds_toArray, List.set_cons_zero, List.set_cons_succ])) | (refine wpSeq_pureG (v := ?_) rfl rfl ?_ ?_; rotate_left 1; (focus (intro wq_ hSq_; (try dsimp only at hSq_); go_simp; (try with_reducible rfl); done)); (try simp only [Act.put, List.setIfInBounds_toArray, List.set_cons_zero, List.set_cons_succ])) | (refine wpSeq_off rfl rfl ?_; (try simp only [Act.put, List.setIfInBounds_toArray, List.set_cons_zero, List.set_cons_succ])) | (refine wpSeq_offU rfl ?_; (try simp only [Act.put, List.setIfInBounds_toArray, List.set_cons_zero, List.set_cons_succ])))
  have O1 := Lib.hid (own_lower ho3 (show w.heap.size ≤ u1.heap.size from Nat.le_trans X2.out.size (Ext.size s1)))
  clear ho3
  first | refine wpSeq_call rfl (fun u2 g2 s2 K hK => ?_) | refine wpSeq_callG rfl rfl (fun u2 g2 s2 K hK => ?_)
  go_simp
  have B3 := Lib.hid (show Blk (u2.alloc (.cells #[.pointer (some ⟨d2, 0, none⟩), .int .i64 (keep : Int), .slice A3 m c3, .bool false] TSE)) u2.heap.size TSE #[.pointer (some ⟨d2, 0, none⟩), .int .i64 (keep : Int), .slice A3 m c3, .bool false] from Blk.new_ _ _ rfl)
  have O3 := Lib.hid (own_below (own_below O1.out g2) (Ext.allocR u2 (.cells #[.pointer (some ⟨d2, 0, none⟩), .int .i64 (keep : Int), .slice A3 m c3, .bool false] TSE)))
  have hws : w.heap.size ≤ u2.heap.size := Nat.le_trans X2.out.size (Ext.size s2)
  (try go_wp2_with fail)
  refine hK.out _ _ (Ext.allocR _ _) ?_
  clear hK K
  (try simp only [Act.put, List.setIfInBounds_toArray, List.set_cons_zero, List.set_cons_succ])
  repeat (first | (refine wpSeq_pure (v := ?_) rfl ?_ ?_; rotate_left 1; (focus (intro wq_ hSq_; (try dsimp only at hSq_); go_simp; (try with_reducible rfl); done)); (try simp only [Act.put, List.setIfInBounds_toArray, List.set_cons_zero, List.set_cons_succ])) | (refine wpSeq_pureG (v := ?_) rfl rfl ?_ ?_; rotate_left 1; (focus (intro wq_ hSq_; (try dsimp only at hSq_); go_simp; (try with_reducible rfl); done)); (try simp only [Act.put, List.setIfInBounds_toArray, List.set_cons_zero, List.set_cons_succ])) | (refine wpSeq_off rfl rfl ?_; (try simp only [Act.put, List.setIfInBounds_toArray, List.set_cons_zero, List.set_cons_succ])) | (refine wpSeq_offU rfl ?_; (try simp only [Act.put, List.setIfInBounds_toArray, List.set_cons_zero, List.set_cons_succ])))
  first | refine wpSeq_call rfl (fun u3 g3 s3 K hK => ?_) | refine wpSeq_callG rfl rfl (fun u3 g3 s3 K hK => ?_)
  go_simp
  (try go_wp2_with fail)
  refine hK.out _ _ (Ext.refl _) ?_
  clear hK K
  (try simp only [Act.put, List.setIfInBounds_toArray, List.set_cons_zero, List.set_cons_succ])
  repeat (first | (refine wpSeq_pure (v := ?_) rfl ?_ ?_; rotate_left 1; (focus (intro wq_ hSq_; (try dsimp only at hSq_); go_simp; (try with_reducible rfl); done)); (try simp only [Act.put, List.setIfInBounds_toArray, List.set_cons_zero, List.set_cons_succ])) | (refine wpSeq_pureG (v := ?_) rfl rfl ?_ ?_; rotate_left 1; (focus (intro wq_ hSq_; (try dsimp only at hSq_); go_simp; (try with_reducible rfl); done)); (try simp only [Act.put, List.setIfInBounds_toArray, List.set_cons_zero, List.set_cons_succ])) | (refine wpSeq_off rfl rfl ?_; (try simp only [Act.put, List.setIfInBounds_toArray, List.set_cons_zero, List.set_cons_succ])) | (refine wpSeq_offU rfl ?_; (try simp only [Act.put, List.setIfInBounds_toArray, List.set_cons_zero, List.set_cons_succ])))
  intro wz gz sz_
  (try simp only [endJ, List.drop_succ_cons, List.drop_zero])
  have hz := bt g3 gz
  have hsi2 : STl (fun b => w.heap.size ≤ b) wz u2.heap.size d2 keep n Vs left := ⟨vs, B, bl, ⟨⟨A3, m, c3, B3.out.below hz, by
    have := own_below O3.out hz
    unfold OwS
    rw [hml]
    exact own_lower this (Nat.zero_le _)⟩, HD2.out.ext sz_, hws, fun v hv => (HSI.out.tr v hv).below (bt X2.out sz_), fun a ha => HSI.out.bz a (Nat.le_trans (bt X2.out sz_).size ha), HSI.out.bm⟩, HST.out.1, HST.out.2.1, HST.out.2.2.1, HST.out.2.2.2⟩
  have HE := Lib.hid hsi2
  have XZ := Lib.hid (bt X2.out sz_)
  obtain ⟨s2', hs2⟩ : ∃ s2', u2.heap.size = s2' := ⟨_, rfl⟩
  rw [hs2] at HE ⊢
  clear hsi2 hz gz sz_ g3 s3 B3 O3 hws s2 g2 O1 b3 s1 g1 hst kk hs2
  go_wp2
  (try simp only [Exit.inBlock, Exit.then])
  refine bodyPost_ret (v := (.tuple #[.pointer (some ⟨s2', 0, none⟩), .pointer (some ⟨d2, 0, none⟩)])) (by simp [results, Tryz.results29, go_sem, *]) rfl ?_
  exact ⟨_, rfl, ⟨s2', d2, rfl, HE.out⟩, XZ.out⟩
end Go.Proofs.Tb
