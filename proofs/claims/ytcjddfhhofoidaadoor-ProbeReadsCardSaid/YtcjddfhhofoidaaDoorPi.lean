/- Contract of probe.Best. -/
import Derived.Test.YtcjddfhhofoidaaDoorPh
set_option linter.unusedVariables false
set_option linter.unusedSimpArgs false
namespace Go.Proofs.Tb
open Go.RowKit
attribute [local go_sem] cell_set_same

/-- All faults, as a set. -/
def allS (ws : List Int) : Nat := 2 ^ ws.length - 1
theorem allS_lt (ws : List Int) : allS ws < 2 ^ ws.length := by have := Nat.two_pow_pos ws.length; unfold allS; omega
/-- What Best returns. -/
def BstR (ws : List Int) (ts : List Tt) (v : Value) (w : World) : Prop :=
  (Cv ws ts → ∃ A n c, v = .tuple #[.slice A n c, .int .i64 (pC ws ts (allS ws)), .int .i64 0] ∧ SlP TBR w A n c (plL ws ts (allS ws))) ∧ (¬ Cv ws ts → v = .tuple #[.slice none 0 0, .int .i64 0, .int .i64 1])
set_option maxHeartbeats 3200000 in
set_option maxRecDepth 100000 in
theorem rbest_any (A A' : Option Addr) (n c m d : Nat) (ws : List Int) (ts : List Tt) (w : World) (h : Il w A n c ws) (h' : Ts w A' m d ts) (ht : Tab w) :
    Calls Tryd.prog 16 #[.slice A n c, .slice A' m d] w (Ret (BstR ws ts) w) := by
  have hn := h.le
  have hc := h.cap
  have hm := h'.le
  have hd := h'.cap
  have HL := Lib.hid h.len
  have H := Lib.hid h
  have H' := Lib.hid h'
  have HT := Lib.hid ht
  clear h h' ht
  go_enter Tryd.func16, Tryd.ntmps16
  go_wp2_with fail
  refine (rcheck_any A A' n c m d ws ts w H.out H'.out).mono ?_
  rintro e w1 ⟨v1, rfl, hv1, hb1⟩
  have HB1 := Lib.hid hb1
  by_cases hcv : Cv ws ts
  rotate_left
  · rw [hv1.2 hcv]
    have HE := Lib.hid (show BstR ws ts (.tuple #[.slice none 0 0, .int .i64 0, .int .i64 1]) w1 from ⟨fun h => absurd h hcv, fun _ => rfl⟩)
    clear hv1 hcv hb1
    go_wp2
    go_returns
    exact ⟨_, rfl, HE.out, HB1.out⟩
  rw [hv1.1 hcv]
  have hn10 : n ≤ 10 := by rw [← HL.out]; exact hcv.len10
  have HV := Lib.hid hcv
  clear hv1 hcv hb1
  obtain ⟨N, hN⟩ : ∃ N : Nat, 2 ^ n = N := ⟨_, rfl⟩
  have hN1 : N ≤ 1024 := by rw [← hN]; exact pow_le_1024 hn10
  have hN0 : 0 < N := by rw [← hN]; exact Nat.two_pow_pos n
  have wN := wrap_pow n N hN (by omega)
  have hall : allS ws = N - 1 := by unfold allS; rw [HL.out, hN]
  have hN2 : 2 ^ ws.length = N := by rw [HL.out, hN]
  have HALL := Lib.hid (And.intro hall hN2)
  clear hN hall hN2
  go_wp2_with fail
  refine (rsolve_any A A' n c m d ws ts w1 (H.out.below HB1.out) (H'.out.below HB1.out) HV.out).mono ?_
  rintro e w2 ⟨v2, rfl, ⟨rfl, hsol⟩, hb2⟩
  obtain ⟨A3, c3, hplk⟩ := hsol.plk (HT.out.below (bt HB1.out hb2))
  obtain ⟨g, hg⟩ : ∃ g, w1.heap.size = g := ⟨_, rfl⟩
  rw [hg] at hplk ⊢
  have HK := Lib.hid hplk
  have HB2 := Lib.hid (bt HB1.out hb2)
  clear hsol hplk hg hb2
  go_upto_region 6 with fail
  obtain ⟨F, hF⟩ : ∃ F, N - 1 = F := ⟨_, rfl⟩
  have eF : (N : Int) - 1 = (F : Int) := by omega
  rw [eF]
  rw [hF] at HALL
  have hF1 : F < 1024 := by omega
  have pF1 : (F : Int) < 1024 := by omega
  have k1 := fun w' (hh : Ext w2 w') => (show w'.cell? ⟨g, 1026 + F, none⟩ = some (.int .i64 (pC ws ts F)) from by
    have h1 := (HK.out w' hh).1.cell (j := 1026 + F) (by omega)
    rw [plG_c hF1, if_pos (by rw [HALL.out.2]; omega)] at h1
    exact h1)
  have hFl : F < 2 ^ ws.length := by rw [HALL.out.2]; omega
  have HFL := Lib.hid hFl
  have hst : Ext w2 w2.drew := Ext.drew _
  clear hF eF wN hFl
  refine wp_region_adv 10 [] [(0, true, some 23, none), (1, true, some 24, none), (3, true, some 26, none), (4, true, some 27, none), (5, true, some 28, none), (6, true, some 29, none), (7, true, some 30, none), (8, true, some 31, none), (2, false, some 25, none), (9, false, some 4, none)] (by kernel_rfl) (by kernel_rfl) (by kernel_rfl) (by intro it hit; (repeat (rcases List.mem_cons.1 hit with rfl | hit; (focus (intro o ho ev w; injection ho with ho; subst ho; kernel_rfl)))); cases hit) (fun _ _ _ _ _ => ⟨fun h => h, fun h => h⟩) hst ?_
  repeat (first | (refine wpSeq_pure (v := ?_) rfl ?_ ?_; rotate_left 1; (focus (intro wq_ hSq_; (try dsimp only at hSq_); go_simp; (try with_reducible rfl); done)); (try simp only [Act.put, List.setIfInBounds_toArray, List.set_cons_zero, List.set_cons_succ])) | (refine wpSeq_pureG (v := ?_) rfl rfl ?_ ?_; rotate_left 1; (focus (intro wq_ hSq_; (try dsimp only at hSq_); go_simp; (try with_reducible rfl); done)); (try simp only [Act.put, List.setIfInBounds_toArray, List.set_cons_zero, List.set_cons_succ])) | (refine wpSeq_off rfl rfl ?_; (try simp only [Act.put, List.setIfInBounds_toArray, List.set_cons_zero, List.set_cons_succ])))
  first | refine wpSeq_call rfl (fun u1 g1 s1 K hK => ?_) | refine wpSeq_callG rfl rfl (fun u1 g1 s1 K hK => ?_)
  go_simp
  refine (rplan_any (.slice A' m d) ws ts HV.out g A3 c3 u1.heap.size F HFL.out [] (.slice none 0 0) u1 (Nat.le_refl _) (fun W hW => HK.out W (bt s1 hW)) (OwP.nil _ _ _) (by simp; omega)).mono ?_
  rintro e y1 ⟨v1, rfl, ho1, b1⟩
  obtain ⟨A1, c1, hv1, hsl1⟩ := ho1.slp
  subst hv1
  (try go_wp2_with fail)
  refine hK.out _ _ b1 ?_
  clear hK K
  (try simp only [Act.put, List.setIfInBounds_toArray, List.set_cons_zero, List.set_cons_succ])
  repeat (first | (refine wpSeq_pure (v := ?_) rfl ?_ ?_; rotate_left 1; (focus (intro wq_ hSq_; (try dsimp only at hSq_); go_simp; (try with_reducible rfl); done)); (try simp only [Act.put, List.setIfInBounds_toArray, List.set_cons_zero, List.set_cons_succ])) | (refine wpSeq_pureG (v := ?_) rfl rfl ?_ ?_; rotate_left 1; (focus (intro wq_ hSq_; (try dsimp only at hSq_); go_simp; (try with_reducible rfl); done)); (try simp only [Act.put, List.setIfInBounds_toArray, List.set_cons_zero, List.set_cons_succ])) | (refine wpSeq_off rfl rfl ?_; (try simp only [Act.put, List.setIfInBounds_toArray, List.set_cons_zero, List.set_cons_succ])))
  first | refine wpSeq_call rfl (fun u2 g2 s2 K hK => ?_) | refine wpSeq_callG rfl rfl (fun u2 g2 s2 K hK => ?_)
  go_simp
  (try go_wp2_with fail)
  refine hK.out _ _ (Ext.refl _) ?_
  clear hK K
  (try simp only [Act.put, List.setIfInBounds_toArray, List.set_cons_zero, List.set_cons_succ])
  repeat (first | (refine wpSeq_pure (v := ?_) rfl ?_ ?_; rotate_left 1; (focus (intro wq_ hSq_; (try dsimp only at hSq_); go_simp; (try with_reducible rfl); done)); (try simp only [Act.put, List.setIfInBounds_toArray, List.set_cons_zero, List.set_cons_succ])) | (refine wpSeq_pureG (v := ?_) rfl rfl ?_ ?_; rotate_left 1; (focus (intro wq_ hSq_; (try dsimp only at hSq_); go_simp; (try with_reducible rfl); done)); (try simp only [Act.put, List.setIfInBounds_toArray, List.set_cons_zero, List.set_cons_succ])) | (refine wpSeq_off rfl rfl ?_; (try simp only [Act.put, List.setIfInBounds_toArray, List.set_cons_zero, List.set_cons_succ])))
  intro wz gz sz_
  (try simp only [endJ, List.drop_succ_cons, List.drop_zero])
  have HZ := Lib.hid (bt HB2.out sz_)
  have hsl2 := hsl1.below (bt g2 gz)
  rw [List.nil_append] at hsl2
  have HE := Lib.hid (show BstR ws ts (.tuple #[.slice A1 (plL ws ts F).length c1, .int .i64 (pC ws ts F), .int .i64 0]) wz from ⟨fun _ => ⟨A1, _, c1, by rw [HALL.out.1], by rw [HALL.out.1]; exact hsl2⟩, fun h => absurd HV.out h⟩)
  clear hst k1 g1 s1 b1 g2 s2 gz sz_ hsl1 hsl2 ho1
  go_wp2
  go_returns
  exact ⟨_, rfl, HE.out, HZ.out⟩
end Go.Proofs.Tb
