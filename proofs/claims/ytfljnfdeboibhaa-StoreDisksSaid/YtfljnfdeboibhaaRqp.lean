/- Contract of the disk's Write once more, with the blocks told that hold its contents. Written by gen_wn.py. -/
import Derived.Test.YtfljnfdeboibhaaTsg
set_option linter.unusedVariables false
set_option linter.unusedSimpArgs false
namespace Go.Proofs.Tb
open Go.Maps Go.RowKit
attribute [local go_sem] cell_set_same neqMapL

/-- The blocks of a disk's contents are in N. -/
def DN (N : Nat → Prop) (g : Dkg) (n : Nat) : Prop := ∀ k, k < n → (∀ b, (g.vs.getD k nlB).ownBlock = some b → N b) ∧ (g.lo k = true → ∀ j b, ((g.us k).getD j nlB).ownBlock = some b → N b)
theorem DN.mono {N N' : Nat → Prop} {g : Dkg} {n : Nat} (h : DN N g n) (hN : ∀ b, N b → N' b) : DN N' g n := fun k hk => ⟨fun b hb => hN b ((h k hk).1 b hb), fun hl j b hb => hN b ((h k hk).2 hl j b hb)⟩
theorem DN.one {N : Nat → Prop} {v : Value} (h : ∀ b, v.ownBlock = some b → N b) : ∀ j b, (([v] : List Value).getD j nlB).ownBlock = some b → N b := fun j b hb => by
  rcases j with _ | j
  · exact h b hb
  · cases hb
theorem DN.snoc {N : Nat → Prop} {us : List Value} {v : Value} (hu : ∀ j b, (us.getD j nlB).ownBlock = some b → N b) (h : ∀ b, v.ownBlock = some b → N b) : ∀ j b, ((us ++ [v]).getD j nlB).ownBlock = some b → N b := fun j b hb => by
  by_cases hj : j < us.length
  · refine hu j b ?_
    rw [List.getD_eq_getElem?_getD, List.getElem?_append_left hj, ← List.getD_eq_getElem?_getD] at hb
    exact hb
  · rw [List.getD_eq_getElem?_getD, List.getElem?_append_right (by omega), ← List.getD_eq_getElem?_getD] at hb
    exact DN.one h _ b hb
theorem DN.put {N : Nat → Prop} {g : Dkg} {n : Nat} (h : DN N g n) (k : Nat) (v : Value) {us : List Value} (hu : ∀ j b, (us.getD j nlB).ownBlock = some b → N b) : DN N (g.put k v us) n := fun i hi => by
  refine ⟨(h i hi).1, fun hl => ?_⟩
  show ∀ j b, ((if i = k then us else g.us i).getD j nlB).ownBlock = some b → N b
  by_cases hik : i = k
  · rw [if_pos hik]; exact hu
  · rw [if_neg hik]
    refine (h i hi).2 ?_
    have h1 : (if i = k then true else g.lo i) = true := hl
    rw [if_neg hik] at h1
    exact h1
theorem DN.vset {N : Nat → Prop} {g : Dkg} {n : Nat} (h : DN N g n) (k : Nat) {x : Value} (hx : ∀ b, x.ownBlock = some b → N b) : DN N { g with vs := g.vs.set k x } n := fun i hi => by
  refine ⟨fun b hb => ?_, (h i hi).2⟩
  have hb : ((g.vs.set k x).getD i nlB).ownBlock = some b := hb
  by_cases hk : k < g.vs.length
  · rw [getD_setL _ _ _ hk] at hb
    by_cases hik : i = k
    · rw [if_pos hik] at hb; exact hx b hb
    · rw [if_neg hik] at hb; exact (h i hi).1 b hb
  · rw [List.set_eq_of_length_le (by omega)] at hb
    exact (h i hi).1 b hb
/-- A disk whose contents' blocks are told. -/
def DWn (N F : Nat → Prop) (w : World) (d : Nat) (bl : List (List (List Nat))) (down : Bool) (left : Nat) : Prop :=
  ∃ g, DI w d g (bl.map fun l => l.getLastD z64) bl down left ∧ (∀ k, k < bl.length → g.lo k = decide (2 ≤ (bl.getD k []).length)) ∧ (∀ b, g.fp d bl.length b → F b) ∧ DN N g bl.length
section
variable {w : World} {d : Nat} {g : Dkg} {cur : List (List Nat)} {bl : List (List (List Nat))} {down : Bool} {left : Nat}
set_option maxHeartbeats 6400000 in
set_option maxRecDepth 100000 in
theorem rwrite_n {N F : Nat → Prop} (hw : DWn N F w d bl false left) (hNw : ∀ b, w.heap.size ≤ b → N b) (hF : ∀ b, w.heap.size ≤ b → F b) {k : Nat} (hk : k < bl.length) {A : Option Addr} {c : Nat} {bs : List Nat} (hb : ∀ W, Chg (MF F) w W → Rv W 1 A 64 c (bc bs)) (h64 : bs.length = 64) (hfew : (bl.getD k []).length ≤ 1000000) :
    Calls Try.prog 41 #[.pointer (some ⟨d, 0, none⟩), .int .i64 (k : Int), .slice A 64 c] w fun e w' => e = .returned (.int .i64 (if left = 1 then 9 else 0)) ∧ DWn N F w' d (bl.set k (bl.getD k [] ++ [bs])) (decide (left = 1)) (left - 1) ∧ Chg (MF F) w w' := by
  obtain ⟨dn, hdn⟩ : ∃ dn, decide (left = 1) = dn := ⟨_, rfl⟩
  obtain ⟨er, her⟩ : ∃ er : Int, (if left = 1 then (9 : Int) else 0) = er := ⟨_, rfl⟩
  obtain ⟨b2, hb2⟩ : ∃ b2, bl.set k (bl.getD k [] ++ [bs]) = b2 := ⟨_, rfl⟩
  have HER := Lib.hid (show er = if dn = true then 9 else 0 by
    rw [← her, ← hdn]
    by_cases hl : left = 1
    · rw [if_pos hl, decide_eq_true hl]; rfl
    · rw [if_neg hl, decide_eq_false hl]; rfl)
  rw [hdn, her, hb2]
  have HDN := Lib.hid hdn
  have HB2 := Lib.hid hb2
  clear hdn her hb2
  obtain ⟨g, h, hlo, hfp, hq⟩ := hw
  have HQ := Lib.hid hq
  have HNW := Lib.hid hNw
  obtain ⟨cur, hcur⟩ : ∃ cur, bl.map (fun l => l.getLastD z64) = cur := ⟨_, rfl⟩
  rw [hcur] at h
  have HCUR := Lib.hid hcur
  have hcl : cur.length = bl.length := h.len.symm
  have HCL := Lib.hid hcl
  have hkc : k < cur.length := by omega
  have hne : cur ≠ [] := fun e => by rw [e] at hkc; simp at hkc
  obtain ⟨gb, cap, hv, hc1, hc2, hd⟩ := h.form hne
  have hfew4 := h.few
  obtain ⟨n, hn⟩ : ∃ n, cur.length = n := ⟨_, rfl⟩
  rw [hn] at hd hc1 hkc hfew4 hv
  have HN := Lib.hid hn
  have H := Lib.hid h
  have HD := Lib.hid hd
  have HLO := Lib.hid hlo
  have HFP := Lib.hid hfp
  have HF := Lib.hid hF
  have HB := Lib.hid hb
  have HV := Lib.hid hv
  have HFEW := Lib.hid hfew
  have HK := Lib.hid hk
  have HNE := Lib.hid hne
  have hbl := (hb w (Chg.refl _ _)).le
  have hbc := (hb w (Chg.refl _ _)).cap
  have HBL := Lib.hid h64
  clear h hd hlo hfp hq hNw hF hb h64 hcur hne hv hcl hn hfew hk
  go_enter Try.func41, Try.ntmps41
  go_wp2_with fail
  refine (rready_any d g.m _ false left w HD.out).mono ?_
  rintro e w1 ⟨z1, rfl, rfl, b1⟩
  have h1 := H.out.ext b1
  have kd := (HD.out.below b1).cells
  simp only [cellsAre, Nat.zero_add, Nat.reduceAdd, and_true] at kd
  have H1 := Lib.hid h1
  have X1 := Lib.hid (show Ext w w1 from b1)
  obtain ⟨A6, n6, c6, hlk, h6⟩ := h1.rowK (k := k) HLO.out (by rw [HN.out]; exact hkc)
  clear h1 b1
  have pk : ¬ (k : Int) < 0 := by omega
  have pk2 : (k : Int) < (n : Int) := by omega
  go_upto_region 6 with fail
  go_upto_if 36 with fail
  go_cut [] (fun wx => ∃ g1, DI wx d g1 cur bl false left ∧ g1.lo = (fun j => if j = k then true else g.lo j) ∧ (∀ b, g1.fp d cur.length b → F b) ∧ Chg (MF F) w wx ∧ g1.v = g.v ∧ g1.m = g.m ∧ DN N g1 cur.length)
  case first =>
    rcases h6 with ⟨hlk1, hn6⟩ | ⟨hlk0, rfl⟩
    · have pn : ¬ (n6 : Int) = 0 := by omega
      go_wp2_with fail
      go_meet
      refine ⟨g, H1.out, ?_, by rw [HCL.out]; exact HFP.out, Chg.ext X1.out, rfl, rfl, by rw [HCL.out]; exact HQ.out⟩
      funext j
      by_cases hj : j = k
      · subst hj; rw [if_pos rfl, hlk1]
      · rw [if_neg hj]
    · go_upto_region 7 with fail
      have hst7 : Ext w1 w1.drew := Ext.drew _
      have kk := fun w' (hh : Ext w1 w') => ((HD.out.below X1.out).below hh).cells
      simp only [cellsAre, Nat.zero_add, Nat.reduceAdd, and_true] at kk
      have KK := Lib.hid kk
      clear kd
      refine wp_region_adv 9 [] [(0, true, some 37, none), (1, true, some 38, none), (2, true, some 39, none), (3, true, some 40, none), (4, true, some 41, none), (5, true, some 42, none), (6, true, some 43, none), (7, false, some 44, none), (8, false, some 45, none)] (by kernel_rfl) (by kernel_rfl) (by kernel_rfl) (by intro it hit; (repeat (rcases List.mem_cons.1 hit with rfl | hit; (focus (intro o ho ev w; injection ho with ho; subst ho; kernel_rfl)))); cases hit) (fun _ _ _ _ _ => ⟨fun h => h, fun h => h⟩) hst7 ?_
      repeat (first | (refine wpSeq_pure (v := ?_) rfl ?_ ?_; rotate_left 1; (focus (intro wq_ hSq_; (try dsimp only at hSq_); go_simp; (try with_reducible rfl); done)); (try simp only [Act.put, List.setIfInBounds_toArray, List.set_cons_zero, List.set_cons_succ])) | (refine wpSeq_pureG (v := ?_) rfl rfl ?_ ?_; rotate_left 1; (focus (intro wq_ hSq_; (try dsimp only at hSq_); go_simp; (try with_reducible rfl); done)); (try simp only [Act.put, List.setIfInBounds_toArray, List.set_cons_zero, List.set_cons_succ])) | (refine wpSeq_off rfl rfl ?_; (try simp only [Act.put, List.setIfInBounds_toArray, List.set_cons_zero, List.set_cons_succ])) | (refine wpSeq_offU rfl ?_; (try simp only [Act.put, List.setIfInBounds_toArray, List.set_cons_zero, List.set_cons_succ])))
      first | refine wpSeq_call rfl (fun u gu su K hK => ?_) | refine wpSeq_callG rfl rfl (fun u gu su K hK => ?_)
      go_simp
      refine (rat_any (H1.out.ext su) (k := k) (by rw [HN.out]; exact hkc)).mono ?_
      rintro e y ⟨z2, rfl, ⟨A7, c7, rfl, ho7⟩, b7⟩
      have O7 := Lib.hid ho7
      have HN7 := Lib.hid (show ∀ b, (Value.slice A7 64 c7).ownBlock = some b → N b from fun b hb => HNW.out b (Nat.le_trans (Nat.le_trans (Ext.size X1.out) (Ext.size su)) (own_geE ho7 b hb)))
      clear ho7
      (try go_wp2_with fail)
      refine hK.out _ _ b7 ?_
      clear hK K
      (try simp only [Act.put, List.setIfInBounds_toArray, List.set_cons_zero, List.set_cons_succ])
      repeat (first | (refine wpSeq_pure (v := ?_) rfl ?_ ?_; rotate_left 1; (focus (intro wq_ hSq_; (try dsimp only at hSq_); go_simp; (try with_reducible rfl); done)); (try simp only [Act.put, List.setIfInBounds_toArray, List.set_cons_zero, List.set_cons_succ])) | (refine wpSeq_pureG (v := ?_) rfl rfl ?_ ?_; rotate_left 1; (focus (intro wq_ hSq_; (try dsimp only at hSq_); go_simp; (try with_reducible rfl); done)); (try simp only [Act.put, List.setIfInBounds_toArray, List.set_cons_zero, List.set_cons_succ])) | (refine wpSeq_off rfl rfl ?_; (try simp only [Act.put, List.setIfInBounds_toArray, List.set_cons_zero, List.set_cons_succ])) | (refine wpSeq_offU rfl ?_; (try simp only [Act.put, List.setIfInBounds_toArray, List.set_cons_zero, List.set_cons_succ])))
      first | refine wpSeq_call rfl (fun u2 gu2 su2 K hK => ?_) | refine wpSeq_callG rfl rfl (fun u2 gu2 su2 K hK => ?_)
      go_simp
      (try go_wp2_with fail)
      refine hK.out _ _ (Ext.allocR _ _) ?_
      clear hK K
      (try simp only [Act.put, List.setIfInBounds_toArray, List.set_cons_zero, List.set_cons_succ])
      repeat (first | (refine wpSeq_pure (v := ?_) rfl ?_ ?_; rotate_left 1; (focus (intro wq_ hSq_; (try dsimp only at hSq_); go_simp; (try with_reducible rfl); done)); (try simp only [Act.put, List.setIfInBounds_toArray, List.set_cons_zero, List.set_cons_succ])) | (refine wpSeq_pureG (v := ?_) rfl rfl ?_ ?_; rotate_left 1; (focus (intro wq_ hSq_; (try dsimp only at hSq_); go_simp; (try with_reducible rfl); done)); (try simp only [Act.put, List.setIfInBounds_toArray, List.set_cons_zero, List.set_cons_succ])) | (refine wpSeq_off rfl rfl ?_; (try simp only [Act.put, List.setIfInBounds_toArray, List.set_cons_zero, List.set_cons_succ])) | (refine wpSeq_offU rfl ?_; (try simp only [Act.put, List.setIfInBounds_toArray, List.set_cons_zero, List.set_cons_succ])))
      intro wz gz sz
      (try simp only [endJ, List.drop_succ_cons, List.drop_zero])
      have S0 := OwB.len64 O7.out
      have hL := own_below (own_lit (base := 0) (w := u2) TBY 1 #[.slice A7 64 c7] 1 (Nat.zero_le _) (by omega) rfl) gz
      have hS : SeesB wz (.slice A7 64 c7) (cur.getD k z64) := Or.inr ⟨own_lower (own_below (own_below (own_below O7.out gu2) (Ext.allocR _ _)) gz) (Nat.zero_le _), S0⟩
      have hone : bl.getD k [] = [cur.getD k z64] := by
        have h2 := HLO.out k HK.out
        rw [hlk0] at h2
        have h3 : ¬ 2 ≤ (bl.getD k []).length := of_decide_eq_false h2.symm
        have h4 := H.out.ne k (by rw [HN.out]; exact hkc)
        have h5 : cur.getD k z64 = (bl.getD k []).getLastD z64 := by
          rw [← HCUR.out]
          simp [List.getD, List.getElem?_map, HK.out]
        rw [h5]
        cases hq : bl.getD k [] with
        | nil => exact absurd hq h4
        | cons x l =>
          cases l with
          | nil => rfl
          | cons y l => rw [hq] at h3; simp at h3
      obtain ⟨w3, hupd, hd3, ht3⟩ := H1.out.put (k := k) (by rw [HN.out]; exact hkc) (Chg.ext sz) (cs := [cur.getD k z64]) hL (fun j hj => by
        obtain rfl : j = 0 := by simpa using hj
        exact hS) (by simp) (Or.inr ⟨_, rfl, Nat.le_trans (Ext.size gu2 |> fun _ => Ext.size su2) (Nat.le_refl _)⟩)
      rw [← hone, set_getD_self] at hd3
      have HD3 := Lib.hid hd3
      have HT3 := Lib.hid ht3
      have HNB := Lib.hid (show w.heap.size ≤ u2.heap.size from Nat.le_trans (Ext.size X1.out) (Ext.size su2))
      have SZ := Lib.hid sz
      have kd7 := kk wz sz
      clear hd3 ht3 hone hS hL S0 O7 gu su b7 gu2 su2 gz kk hst7 sz
      go_wp2_with fail
      go_meet
      refine ⟨_, HD3.out, rfl, fun b hb => ?_, (Chg.ext X1.out).trans ((Chg.ext SZ.out).trans (Chg.turn HT3.out fun es cl => ⟨HFP.out _ (Or.inr (Or.inl rfl)), trivial⟩)), rfl, rfl, by rw [HCL.out]; exact HQ.out.put k _ (DN.one HN7.out)⟩
      rcases Dkg.put_fp hb with hb | hb
      · rw [HCL.out] at hb; exact HFP.out b hb
      · injection hb with hb
        rw [← hb]
        exact HF.out _ HNB.out
  case rest =>
    obtain ⟨g1, h1, hlo1, hfp1, hcg1, ev, em, hq1⟩ := hcut
    rw [HN.out] at hq1
    have HQ1 := Lib.hid hq1
    clear hq1
    have hv1 : g1.v = .slice (some ⟨gb, 0, none⟩) cur.length cap := by rw [ev, HN.out]; exact HV.out
    have hd1 := h1.dk
    rw [hv1, em, HN.out] at hd1
    have HD1 := Lib.hid hd1
    have HI1 := Lib.hid h1
    have HLO1 := Lib.hid hlo1
    have HFP1 := Lib.hid hfp1
    have HCG1 := Lib.hid hcg1
    have HEV := Lib.hid (And.intro ev em)
    have HV1 := Lib.hid hv1
    have HB1 := Lib.hid (HB.out wc hcg1)
    clear h1 hlo1 hfp1 hcg1 ev em hv1 hd1 kd h6 hlk
    go_upto_region 8 with fail
    have hst8 : Ext wc wc.drew := Ext.drew _
    have kk := fun w' (hh : Ext wc w') => (HD1.out.below hh).cells
    simp only [cellsAre, Nat.zero_add, Nat.reduceAdd, and_true] at kk
    refine wp_region_adv 7 [] [(0, true, some 46, none), (1, true, some 47, none), (2, true, some 48, none), (3, true, some 49, none), (4, true, some 50, none), (5, true, some 51, none), (6, false, some 52, none)] (by kernel_rfl) (by kernel_rfl) (by kernel_rfl) (by intro it hit; (repeat (rcases List.mem_cons.1 hit with rfl | hit; (focus (intro o ho ev w; injection ho with ho; subst ho; kernel_rfl)))); cases hit) (fun _ _ _ _ _ => ⟨fun h => h, fun h => h⟩) hst8 ?_
    repeat (first | (refine wpSeq_pure (v := ?_) rfl ?_ ?_; rotate_left 1; (focus (intro wq_ hSq_; (try dsimp only at hSq_); go_simp; (try with_reducible rfl); done)); (try simp only [Act.put, List.setIfInBounds_toArray, List.set_cons_zero, List.set_cons_succ])) | (refine wpSeq_pureG (v := ?_) rfl rfl ?_ ?_; rotate_left 1; (focus (intro wq_ hSq_; (try dsimp only at hSq_); go_simp; (try with_reducible rfl); done)); (try simp only [Act.put, List.setIfInBounds_toArray, List.set_cons_zero, List.set_cons_succ])) | (refine wpSeq_off rfl rfl ?_; (try simp only [Act.put, List.setIfInBounds_toArray, List.set_cons_zero, List.set_cons_succ])) | (refine wpSeq_offU rfl ?_; (try simp only [Act.put, List.setIfInBounds_toArray, List.set_cons_zero, List.set_cons_succ])))
    first | refine wpSeq_call rfl (fun u gu su K hK => ?_) | refine wpSeq_callG rfl rfl (fun u gu su K hK => ?_)
    go_simp
    refine (rcloneB_any A c bs _ (HB1.out.below su)).mono ?_
    rintro e y ⟨v8, rfl, o8, b8⟩
    obtain ⟨A8, c8, ev8, _⟩ := own_rv o8
    rw [HBL.out] at ev8
    subst ev8
    have O8 := Lib.hid o8
    have HN8 := Lib.hid (show ∀ b, (Value.slice A8 64 c8).ownBlock = some b → N b from fun b hb => HNW.out b (Nat.le_trans (Nat.le_trans HCG1.out.size (Ext.size su)) (own_geE o8 b hb)))
    clear o8
    (try go_wp2_with fail)
    refine hK.out _ _ b8 ?_
    clear hK K
    (try simp only [Act.put, List.setIfInBounds_toArray, List.set_cons_zero, List.set_cons_succ])
    repeat (first | (refine wpSeq_pure (v := ?_) rfl ?_ ?_; rotate_left 1; (focus (intro wq_ hSq_; (try dsimp only at hSq_); go_simp; (try with_reducible rfl); done)); (try simp only [Act.put, List.setIfInBounds_toArray, List.set_cons_zero, List.set_cons_succ])) | (refine wpSeq_pureG (v := ?_) rfl rfl ?_ ?_; rotate_left 1; (focus (intro wq_ hSq_; (try dsimp only at hSq_); go_simp; (try with_reducible rfl); done)); (try simp only [Act.put, List.setIfInBounds_toArray, List.set_cons_zero, List.set_cons_succ])) | (refine wpSeq_off rfl rfl ?_; (try simp only [Act.put, List.setIfInBounds_toArray, List.set_cons_zero, List.set_cons_succ])) | (refine wpSeq_offU rfl ?_; (try simp only [Act.put, List.setIfInBounds_toArray, List.set_cons_zero, List.set_cons_succ])))
    intro wz gz sz
    (try simp only [endJ, List.drop_succ_cons, List.drop_zero])
    have hz := HI1.out.ext sz
    have hS : SeesB wz (.slice A8 64 c8) bs := Or.inr ⟨own_lower (own_below O8.out gz) (Nat.zero_le _), HBL.out⟩
    have kd8 := kk wz sz
    have hat8 := hz.at_ HV1.out (k := k) (by rw [HN.out]; exact hkc)
    have hrow8 := hz.row
    rw [HV1.out] at hrow8
    have hfr8 := hrow8.frozenAt k
    have h9 := hz.seton HV1.out (k := k) (by rw [HN.out]; exact hkc) hS
    have hob : g1.v.ownBlock = some gb := by rw [HV1.out]; rfl
    obtain ⟨cs0, hcs0⟩ := own_lt' hz.row hob
    have C9 := Lib.hid (show Chg (MF F) w (wz.setCell ⟨gb, k, none⟩ (.slice A8 64 c8)) from HCG1.out.trans ((Chg.ext sz).trans (Chg.set_ (p := ⟨gb, k, none⟩) hcs0 ⟨HFP1.out gb (Or.inr (Or.inr (Or.inl hob))), Or.inr (Or.inl rfl)⟩ _)))
    have H9 := Lib.hid h9
    clear h9 hrow8 hcs0 hob hS hz gu su b8 gz sz kk hst8 O8
    go_upto_region 9 with fail
    have hcs : (cur.set k bs).length = n := by rw [List.length_set, HN.out]
    have hg : ∃ g2 : Dkg, g2 = { g1 with vs := g1.vs.set k (.slice A8 64 c8) } := ⟨_, rfl⟩
    obtain ⟨g2, hg2⟩ := hg
    have hvs : g2.vs.getD k nlB = .slice A8 64 c8 := by
      rw [hg2]
      have hl1 : g1.vs.length = cur.length := by have := HI1.out.row.1; omega
      show (g1.vs.set k (.slice A8 64 c8)).getD k nlB = _
      rw [getD_setL _ _ _ (by rw [hl1, HN.out]; exact hkc), if_pos rfl]
    have hfp2 : ∀ b, g2.fp d n b → F b := by rw [hg2, ← HN.out]; exact HFP1.out
    have hlo2 : g2.lo = (fun j => if j = k then true else g.lo j) := by rw [hg2]; exact HLO1.out
    have hv2 : g2.v = .slice (some ⟨gb, 0, none⟩) (cur.set k bs).length cap := by rw [hg2, hcs, ← HN.out]; exact HV1.out
    have hm2 : g2.m = g.m := by rw [hg2]; exact HEV.out.2
    have HQ2 := Lib.hid (show DN N g2 n by rw [hg2]; exact HQ1.out.vset k HN8.out)
    have h9 := H9.out
    rw [← hg2] at h9
    refine wp_world (fun W => DI W d g2 (cur.set k bs) bl false left ∧ Chg (MF F) w W) ⟨h9, C9.out⟩ ?_
    clear h9 H9 C9 hg2 HI1 HFP1 HLO1 HCG1 HEV HV1 HB1 HD1 kd8 hat8 hfr8
    rintro W9 ⟨h9, c9⟩
    obtain ⟨cu2, hcu2⟩ : ∃ cu2, cur.set k bs = cu2 := ⟨_, rfl⟩
    rw [hcu2] at h9 hcs hv2
    have HCU2 := Lib.hid hcu2
    have HCS := Lib.hid hcs
    have hkc2 : k < cu2.length := by omega
    have HK2 := Lib.hid hkc2
    have hlk2 : g2.lo k = true := by rw [hlo2]; simp
    obtain ⟨A9, c9', ev9, _⟩ := own_rv (h9.yes k hkc2 hlk2).2.2.1
    have HR9 := Lib.hid (h9.yes k hkc2 hlk2)
    have look9 := (h9.ext (Ext.drew _)).look hkc2
    have at9 := fun w' (hh : Chg (XM g2 k) W9 w') => h9.atX hv2 hkc2 hh
    have dk9 := fun w' (hh : Chg (XM g2 k) W9 w') => (h9.dkX hkc2 hh).cells
    obtain ⟨n9, hn9⟩ : ∃ n9, (bl.getD k []).length = n9 := ⟨_, rfl⟩
    rw [hlk2, if_pos rfl, ev9, hn9, hm2] at look9
    rw [hvs] at at9
    rw [hv2, hm2, hcs] at dk9
    rw [hn9] at ev9
    simp only [cellsAre, Nat.zero_add, Nat.reduceAdd, and_true] at dk9
    have HN9 := Lib.hid hn9
    have HEV9 := Lib.hid ev9
    have HI9 := Lib.hid h9
    have HC9 := Lib.hid c9
    have HLO2 := Lib.hid hlo2
    have HFP2 := Lib.hid hfp2
    have HM2 := Lib.hid hm2
    have HLK2 := Lib.hid hlk2
    have HVS := Lib.hid hvs
    clear h9 c9 hlo2 hfp2 hm2 hv2 hcs hcu2 hn9 ev9 hvs hlk2
    have hst9 : Ext W9 W9.drew := Ext.drew _
    refine wp_region_brn (S := Chg (XM g2 k) W9) (by kernel_rfl) (by kernel_rfl) (fun _ _ _ _ _ => ⟨fun h => h, fun h => h⟩) ?_
    intro hsel_ hQ_
    obtain ⟨wd, hwd⟩ : ∃ wd, W9.drew = wd := ⟨_, rfl⟩
    rw [hwd] at hst9 look9 ⊢
    have HS9 := Lib.hid hst9
    clear hwd
    refine wpB_chunk (f := 4) (L' := #[true, true, true, true, true, true, true, true, true, true, false, true, true, true, true, true, true, true, false, false, false]) hsel_ hQ_ [(0, true, some 54, none), (1, true, some 55, none), (2, true, some 56, none), (3, true, some 57, none), (4, true, some 58, none), (5, true, some 59, none), (6, true, some 60, none), (7, true, some 61, none), (8, true, some 62, none), (9, true, some 63, none), (11, true, some 65, none), (12, true, some 66, none), (13, true, some 67, none), (14, true, some 68, none), (15, true, some 69, none), (16, true, some 70, none), (17, true, some 71, none)] _ _ _ (by kernel_rfl) (Chg.ext hst9) ?_
    repeat (first | (refine wpSeqB_pure (v := ?_) rfl ?_ ?_; rotate_left 1; (focus (intro wq_ hSq_; (try dsimp only at hSq_); go_simp; (try with_reducible rfl); done)); (try simp only [Act.put, List.setIfInBounds_toArray, List.set_cons_zero, List.set_cons_succ])) | (refine wpSeqB_pureG (v := ?_) rfl rfl ?_ ?_; rotate_left 1; (focus (intro wq_ hSq_; (try dsimp only at hSq_); go_simp; (try with_reducible rfl); done)); (try simp only [Act.put, List.setIfInBounds_toArray, List.set_cons_zero, List.set_cons_succ])) | (refine wpSeqB_off rfl rfl ?_; (try simp only [Act.put, List.setIfInBounds_toArray, List.set_cons_zero, List.set_cons_succ])) | (refine wpSeqB_offU rfl ?_; (try simp only [Act.put, List.setIfInBounds_toArray, List.set_cons_zero, List.set_cons_succ])))
    intro s0
    clear s0
    have s1 := bt hst9 (Ext.allocR wd (.cells #[.slice A8 64 c8] TBY))
    have look9' := (HI9.out.ext s1).look HK2.out
    rw [HLK2.out, if_pos rfl, HEV9.out, HM2.out] at look9'
    have hrow9 : (wd.alloc (.cells #[.slice A8 64 c8] TBY)).ownsRow 0 TBY 1 (.slice A9 n9 c9') n9 (g2.us k) := by
      have := own_below HR9.out.2.2.1 s1
      rw [HEV9.out, HN9.out] at this
      exact this
    obtain ⟨i0, hi, hz0, hz1, hz2⟩ := info_parts by_info
    have hfw := HFEW.out
    rw [HN9.out] at hfw
    obtain ⟨v3, w3, hrun, hrow3, hgr, _, hob⟩ := run_append_own_at (P := Try.prog) (w := wd.alloc (.cells #[.slice A8 64 c8] TBY)) 0 TBB TBB TBY i0 _ 1 24 Try.underlying66 hi hz0 hz1 hz2 rfl (by omega) (.slice A9 n9 c9') n9 (g2.us k) hrow9 ⟨wd.heap.size, 0, none⟩ 1 1 [.slice A8 64 c8] rfl (rv_lit (w := wd) TBY 1 #[.slice A8 64 c8] 1 (by omega) rfl |>.news (by omega) |>.2.2 _ rfl) (fun u hu => by rw [List.mem_singleton] at hu; subst hu; rfl) (by unfold maxLen; omega) (by omega) (Nat.zero_le _)
    have sX : Chg (XK g2 k) W9 w3 := (Chg.ext s1).trans (Chg.grow hgr fun b o e _ => ⟨HLK2.out, by rw [HEV9.out]; exact e⟩)
    have hus : (g2.us k).length = n9 := by have := hrow9.1; omega
    have hcs : (bl.getD k [] ++ [bs]).length = n9 + 1 := by rw [List.length_append, HN9.out]; rfl
    have hs8 := HI9.out.sees k HK2.out
    rw [HVS.out] at hs8
    obtain ⟨w4, hupd, hd4, ht4⟩ := HI9.out.put HK2.out sX (v2 := v3) (us2 := g2.us k ++ [.slice A8 64 c8]) (cs := bl.getD k [] ++ [bs]) (by rw [hcs]; exact hrow3) (fun j hj => by
      by_cases hj9 : j < n9
      · have e1 : (g2.us k ++ [Value.slice A8 64 c8]).getD j nlB = (g2.us k).getD j nlB := by simp [List.getD, List.getElem?_append, hus, hj9]
        have e2 : (bl.getD k [] ++ [bs]).getD j z64 = (bl.getD k []).getD j z64 := by simp only [List.getD, List.getElem?_append]; rw [if_pos (by have := HN9.out; unfold List.getD at this; omega)]
        rw [e1, e2]
        exact HI9.out.seesX HK2.out sX (HR9.out.2.2.2 j (by rw [HN9.out]; exact hj9))
      · obtain rfl : j = n9 := by omega
        have e1 : (g2.us k ++ [Value.slice A8 64 c8]).getD j nlB = .slice A8 64 c8 := by simp [List.getD, List.getElem?_append, hus]
        have e2 : (bl.getD k [] ++ [bs]).getD j z64 = bs := by
          have := HN9.out
          unfold List.getD at this ⊢
          rw [List.getElem?_append, if_neg (by omega), this, Nat.sub_self]
          rfl
        have e3 : cu2.getD k z64 = bs := by rw [← HCU2.out, getD_setL _ _ _ (by rw [HN.out]; exact hkc), if_pos rfl]
        rw [e1, e2, ← e3]
        exact HI9.out.seesX HK2.out sX hs8) (by simp) (by
      rcases hob with e | e
      · exact Or.inl ⟨HLK2.out, by rw [e, HEV9.out]⟩
      · exact Or.inr ⟨_, e, Ext.size s1⟩)
    rw [HM2.out] at hupd ht4
    have HD4 := Lib.hid hd4
    have HC4 := Lib.hid (show Chg (MF F) w w4 from HC9.out.trans (((Chg.ext s1).trans (Chg.grow hgr fun b o e ho => ⟨HFP2.out b (Or.inr (Or.inr (Or.inr ⟨k, hkc, HLK2.out, by rw [HEV9.out]; exact e⟩))), by
      obtain ⟨cs9, hcs9⟩ := own_lt' hrow9 e
      rw [ho] at hcs9
      injection hcs9 with hcs9
      rw [hcs9]
      exact Or.inr (Or.inl rfl)⟩)).trans (Chg.turn ht4 fun es cl => ⟨HFP2.out _ (Or.inr (Or.inl HM2.out.symm)), trivial⟩)))
    have S4 := Lib.hid (show Chg (XM g2 k) W9 w4 from (sX.mono fun b o hX => Or.inr hX).trans (Chg.turn ht4 fun es cl => Or.inl HM2.out.symm))
    have SX := Lib.hid (show Chg (XM g2 k) W9 w3 from sX.mono fun b o hX => Or.inr hX)
    have HFP4 := Lib.hid (show ∀ b, (g2.put k v3 (g2.us k ++ [.slice A8 64 c8])).fp d n b → F b from fun b hb => by
      rcases Dkg.put_fp hb with hb | hb
      · exact HFP2.out b hb
      · rcases hob with e | e
        · exact HFP2.out b (Or.inr (Or.inr (Or.inr ⟨k, hkc, HLK2.out, by rw [HEV9.out, ← e]; exact hb⟩)))
        · rw [e] at hb
          injection hb with hb
          rw [← hb]
          exact HF.out _ (Nat.le_trans HC9.out.size (Ext.size s1)))
    have HQ4 := Lib.hid (show DN N (g2.put k v3 (g2.us k ++ [.slice A8 64 c8])) n from HQ2.out.put k _ (DN.snoc ((HQ2.out k hkc).2 HLK2.out) HN8.out))
    have HFIN := Lib.hid (show ∀ w5, DI w5 d (g2.put k v3 (g2.us k ++ [.slice A8 64 c8])) cu2 (bl.set k (bl.getD k [] ++ [bs])) (decide (left = 1)) (left - 1) → Chg (fun b _ => b = d) w4 w5 → DWn N F w5 d b2 dn (left - 1) ∧ Chg (MF F) w w5 from fun w5 h5 c5 => by
      have hkb := HK.out
      rw [← HB2.out]
      rw [HDN.out] at h5
      refine ⟨⟨_, ?_, fun j hj => ?_, fun b hb => HFP4.out b (by rw [List.length_set, ← HCL.out, HN.out] at hb; exact hb), by rw [List.length_set, ← HCL.out, HN.out]; exact HQ4.out⟩, HC4.out.trans ⟨c5.os, c5.tape, c5.output, c5.size, fun b o hb hX => ?_⟩⟩
      · rw [List.map_set, HCUR.out]
        have e : (bl.getD k [] ++ [bs]).getLastD z64 = bs := by simp
        rw [e, HCU2.out]
        exact h5
      · rw [List.length_set] at hj
        show (if j = k then true else g2.lo j) = _
        rw [getD_setL _ _ _ hkb]
        by_cases hjk : j = k
        · subst hjk
          rw [if_pos rfl, if_pos rfl]
          have h4 := H.out.ne j (by rw [HN.out]; exact hkc)
          have h5 : 1 ≤ (bl.getD j []).length := Nat.pos_of_ne_zero fun e => h4 (List.eq_nil_of_length_eq_zero e)
          exact (decide_eq_true (by rw [List.length_append]; show 2 ≤ _ + 1; omega)).symm
        · rw [if_neg hjk, if_neg hjk, HLO2.out]
          simp only [hjk, if_false]
          exact HLO.out j hj
      · by_cases hbd : b = d
        · exfalso
          refine hX ⟨HFP.out b (Or.inl hbd), ?_⟩
          have := HD4.out.dk
          unfold Blk at this
          rw [hbd, this] at hb
          injection hb with hb
          rw [← hb]
          exact Or.inl rfl
        · exact c5.same b o hb hbd)
    clear hd4 ht4 hs8 hob hgr hrow3 hrow9 hus hcs hfw sX
    refine wpB_two 10 18 (by kernel_rfl) rfl rfl rfl rfl ?_ ?_
    · intro K hK
      go_simp
      refine hK.out _ _ (Chg.ext hst9) ?_
      clear hK K
      (try simp only [List.getElem_toArray, List.getElem_cons_succ, List.getElem_cons_zero, Act.put, List.setIfInBounds_toArray, List.set_cons_zero, List.set_cons_succ])
      refine wpB_chunk (f := 0) (L' := #[true, true, true, true, true, true, true, true, true, true, true, true, true, true, true, true, true, true, true, true, true]) hsel_ hQ_ [(18, false, some 72, none), (19, false, some 73, none), (20, false, none, none)] _ _ _ (by kernel_rfl) (Chg.ext hst9) ?_
      repeat (first | (refine wpSeqB_pure (v := ?_) rfl ?_ ?_; rotate_left 1; (focus (intro wq_ hSq_; (try dsimp only at hSq_); go_simp; (try with_reducible rfl); done)); (try simp only [Act.put, List.setIfInBounds_toArray, List.set_cons_zero, List.set_cons_succ])) | (refine wpSeqB_pureG (v := ?_) rfl rfl ?_ ?_; rotate_left 1; (focus (intro wq_ hSq_; (try dsimp only at hSq_); go_simp; (try with_reducible rfl); done)); (try simp only [Act.put, List.setIfInBounds_toArray, List.set_cons_zero, List.set_cons_succ])) | (refine wpSeqB_off rfl rfl ?_; (try simp only [Act.put, List.setIfInBounds_toArray, List.set_cons_zero, List.set_cons_succ])) | (refine wpSeqB_offU rfl ?_; (try simp only [Act.put, List.setIfInBounds_toArray, List.set_cons_zero, List.set_cons_succ])))
      first | refine wpSeqB_call rfl (fun K hK => ?_) | refine wpSeqB_callG rfl rfl (fun K hK => ?_)
      go_simp
      refine hK.out _ _ (Chg.ext s1) ?_
      clear hK K
      (try simp only [List.getElem_toArray, List.getElem_cons_succ, List.getElem_cons_zero, Act.put, List.setIfInBounds_toArray, List.set_cons_zero, List.set_cons_succ])
      first | refine wpSeqB_call rfl (fun K hK => ?_) | refine wpSeqB_callG rfl rfl (fun K hK => ?_)
      refine Go.Lib.wp_append_run _ _ _ TBB TBB (by rfl) _ _ (by rfl) (by rfl) v3 w3 hrun ?_
      refine hK.out _ _ SX.out ?_
      clear hK K
      (try simp only [List.getElem_toArray, List.getElem_cons_succ, List.getElem_cons_zero, Act.put, List.setIfInBounds_toArray, List.set_cons_zero, List.set_cons_succ])
      first | refine wpSeqB_call rfl (fun K hK => ?_) | refine wpSeqB_callG rfl rfl (fun K hK => ?_)
      go_simp
      refine hK.out _ _ S4.out ?_
      clear hK K
      (try simp only [List.getElem_toArray, List.getElem_cons_succ, List.getElem_cons_zero, Act.put, List.setIfInBounds_toArray, List.set_cons_zero, List.set_cons_succ])
      intro s_
      refine wpB_end (by kernel_rfl) ?_
      clear s_
      go_wp2_with fail
      refine (ract_any HD4.out).mono ?_
      rintro e w5 ⟨rfl, hd5, hc5⟩
      have HZ := Lib.hid (HFIN.out w5 hd5 hc5)
      clear hd5 hc5
      rw [HDN.out]
      by_cases hd1 : dn = true
      · subst hd1
        go_wp2
        go_returns
        exact ⟨by rw [HER.out]; rfl, HZ.out⟩
      · have hd0 : dn = false := by simpa using hd1
        subst hd0
        clear hd1
        go_wp2
        go_returns
        exact ⟨by rw [HER.out]; rfl, HZ.out⟩
    · intro K hK
      go_simp
      refine hK.out _ _ (Chg.ext s1) ?_
      clear hK K
      (try simp only [List.getElem_toArray, List.getElem_cons_succ, List.getElem_cons_zero, Act.put, List.setIfInBounds_toArray, List.set_cons_zero, List.set_cons_succ])
      refine wpB_chunk (f := 0) (L' := #[true, true, true, true, true, true, true, true, true, true, true, true, true, true, true, true, true, true, true, true, true]) hsel_ hQ_ [(10, false, some 64, none), (19, false, some 73, none), (20, false, none, none)] _ _ _ (by kernel_rfl) (Chg.ext s1) ?_
      repeat (first | (refine wpSeqB_pure (v := ?_) rfl ?_ ?_; rotate_left 1; (focus (intro wq_ hSq_; (try dsimp only at hSq_); go_simp; (try with_reducible rfl); done)); (try simp only [Act.put, List.setIfInBounds_toArray, List.set_cons_zero, List.set_cons_succ])) | (refine wpSeqB_pureG (v := ?_) rfl rfl ?_ ?_; rotate_left 1; (focus (intro wq_ hSq_; (try dsimp only at hSq_); go_simp; (try with_reducible rfl); done)); (try simp only [Act.put, List.setIfInBounds_toArray, List.set_cons_zero, List.set_cons_succ])) | (refine wpSeqB_off rfl rfl ?_; (try simp only [Act.put, List.setIfInBounds_toArray, List.set_cons_zero, List.set_cons_succ])) | (refine wpSeqB_offU rfl ?_; (try simp only [Act.put, List.setIfInBounds_toArray, List.set_cons_zero, List.set_cons_succ])))
      first | refine wpSeqB_call rfl (fun K hK => ?_) | refine wpSeqB_callG rfl rfl (fun K hK => ?_)
      go_simp
      refine hK.out _ _ (Chg.ext s1) ?_
      clear hK K
      (try simp only [List.getElem_toArray, List.getElem_cons_succ, List.getElem_cons_zero, Act.put, List.setIfInBounds_toArray, List.set_cons_zero, List.set_cons_succ])
      first | refine wpSeqB_call rfl (fun K hK => ?_) | refine wpSeqB_callG rfl rfl (fun K hK => ?_)
      refine Go.Lib.wp_append_run _ _ _ TBB TBB (by rfl) _ _ (by rfl) (by rfl) v3 w3 hrun ?_
      refine hK.out _ _ SX.out ?_
      clear hK K
      (try simp only [List.getElem_toArray, List.getElem_cons_succ, List.getElem_cons_zero, Act.put, List.setIfInBounds_toArray, List.set_cons_zero, List.set_cons_succ])
      first | refine wpSeqB_call rfl (fun K hK => ?_) | refine wpSeqB_callG rfl rfl (fun K hK => ?_)
      go_simp
      refine hK.out _ _ S4.out ?_
      clear hK K
      (try simp only [List.getElem_toArray, List.getElem_cons_succ, List.getElem_cons_zero, Act.put, List.setIfInBounds_toArray, List.set_cons_zero, List.set_cons_succ])
      intro s_
      refine wpB_end (by kernel_rfl) ?_
      clear s_
      go_wp2_with fail
      refine (ract_any HD4.out).mono ?_
      rintro e w5 ⟨rfl, hd5, hc5⟩
      have HZ := Lib.hid (HFIN.out w5 hd5 hc5)
      clear hd5 hc5
      rw [HDN.out]
      by_cases hd1 : dn = true
      · subst hd1
        go_wp2
        go_returns
        exact ⟨by rw [HER.out]; rfl, HZ.out⟩
      · have hd0 : dn = false := by simpa using hd1
        subst hd0
        clear hd1
        go_wp2
        go_returns
        exact ⟨by rw [HER.out]; rfl, HZ.out⟩
end
end Go.Proofs.Tb
