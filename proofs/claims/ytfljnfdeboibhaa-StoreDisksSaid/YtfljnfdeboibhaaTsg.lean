/- Contracts of the disk's act and Write. (With what follows it, in one text.) -/
import Derived.Test.YtfljnfdeboibhaaTsf
import Derived.Test.YtfljnfdeboibhaaBrn
import Derived.Test.YtfljnfdeboibhaaAdvE
import Derived.Deep.CutBlock
import Derived.Deep.DeepCutAuto
set_option linter.unusedVariables false
set_option linter.unusedSimpArgs false
/- Contracts of the disk's act and Write. -/
namespace Go.Proofs.Tb
open Go.Maps Go.RowKit
attribute [local go_sem] cell_set_same neqMapL

theorem Chg.setB {X : Nat → Obj → Prop} {w : World} {b : Nat} {T : TypeId} {cs : Array Value} (hb : Blk w b T cs) (hX : X b (.cells cs T (0, 0))) (i : Nat) (u : Value) : Chg X w (w.setCell ⟨b, i, none⟩ u) := Chg.set_ (p := ⟨b, i, none⟩) hb hX u
theorem Chg.turn {X : Nat → Obj → Prop} {w w' : World} {b : Nat} (h : w.mapTurned w' b) (hX : ∀ es c, X b (.map es c)) : Chg X w w' := by
  have hg := h.grown
  obtain ⟨es, clock, _, _, hb, _⟩ := h
  refine Chg.grow hg fun b' o e ho => ?_
  injection e with e
  subst e
  rw [hb] at ho
  injection ho with ho
  subst ho
  exact hX _ _
variable {w : World} {d : Nat} {g : Dkg} {cur : List (List Nat)} {bl : List (List (List Nat))} {down : Bool} {left : Nat}
set_option maxHeartbeats 3200000 in
set_option maxRecDepth 100000 in
theorem ract_any (h : DI w d g cur bl false left) :
    Calls Try.prog 68 #[.pointer (some ⟨d, 0, none⟩)] w fun e w' => e = .returned (.bool (decide (left = 1))) ∧ DI w' d g cur bl (decide (left = 1)) (left - 1) ∧ Chg (fun b _ => b = d) w w' := by
  have hd := h.dk
  have kd := hd.cells
  simp only [cellsAre, Nat.zero_add, Nat.reduceAdd, and_true] at kd
  have H := Lib.hid h
  have HD := Lib.hid hd
  have f2 := hd.free 2
  have f3 := hd.free 3
  have hl := h.lft
  obtain ⟨v, hv⟩ : ∃ v, g.v = v := ⟨_, rfl⟩
  have HV := Lib.hid hv
  rw [hv] at kd
  clear h hd hv
  by_cases h0 : left = 0
  · subst h0
    have HZ := Lib.hid (show DI w d g cur bl (decide (0 = 1)) (0 - 1) from H.out)
    go_enter Try.func68, Try.ntmps68
    go_wp2
    go_returns
    exact ⟨rfl, HZ.out, Chg.refl _ _⟩
  · obtain ⟨q, rfl⟩ : ∃ q, left = q + 1 := ⟨left - 1, by omega⟩
    have hne : ¬ ((q + 1 : Nat) : Int) = 0 := by omega
    have hw : IntKind.i64.wrap (((q + 1 : Nat) : Int) - 1) = (q : Int) := by rw [IntWalk.i64_in _ (by omega)]; omega
    obtain ⟨p, hp⟩ : ∃ p : Int, ((q + 1 : Nat) : Int) = p := ⟨_, rfl⟩
    rw [hp] at hne hw kd
    have HP := Lib.hid hp
    clear hp h0
    go_enter Try.func68, Try.ntmps68
    go_wp2
    go_returns
    have e : ((q : Int) == 0) = decide (q + 1 = 1) := by
      by_cases hq : q = 0
      · subst hq; rfl
      · have h1 : ¬ (q : Int) = 0 := by omega
        have h2 : ¬ q + 1 = 1 := by omega
        rw [decide_eq_false h2]
        simpa using h1
    have B1 := HD.out.set_ 3 (.int .i64 (q : Int))
    have B2 := B1.set_ 2 (.bool ((q : Int) == 0))
    have c : Chg (fun b _ => b = d) w ((w.setCell ⟨d, 3, none⟩ (.int .i64 (q : Int))).setCell ⟨d, 2, none⟩ (.bool ((q : Int) == 0))) := (Chg.setB HD.out rfl _ _).trans (Chg.setB B1 rfl _ _)
    rw [e] at B2
    rw [e] at c
    refine ⟨congrArg Ending.returned (congrArg Value.bool e), ?_, ?_⟩
    · have := H.out.fields c B2 (left' := q) (by have := H.out.lft; omega)
      rw [← e] at this ⊢
      exact this
    · rw [← e] at c
      exact c
theorem DI.rowK (h : DI w d g cur bl down left) (hlo : ∀ j, j < bl.length → g.lo j = decide (2 ≤ (bl.getD j []).length)) {k : Nat} (hk : k < cur.length) : ∃ A n c, (Instr.lookup TLM (.map (some g.m)) (.int .i64 (k : Int)) false).run Try.prog w = .ok (.slice A n c) w ∧ ((g.lo k = true ∧ 0 < n) ∨ (g.lo k = false ∧ n = 0)) := by
  have hl := h.look hk
  cases e : g.lo k with
  | false =>
    rw [e, if_neg Bool.false_ne_true] at hl
    exact ⟨none, 0, 0, hl, Or.inr ⟨rfl, rfl⟩⟩
  | true =>
    rw [e, if_pos rfl] at hl
    obtain ⟨A, c, ev, _⟩ := own_rv (h.yes k hk e).2.2.1
    rw [ev] at hl
    have h2 := hlo k (by have := h.len; omega)
    rw [e] at h2
    exact ⟨A, _, c, hl, Or.inl ⟨rfl, by have := of_decide_eq_true h2.symm; omega⟩⟩
theorem OwB.len64 {base : Nat} {w : World} {A : Option Addr} {n c : Nat} {bs : List Nat} (h : OwB base w (.slice A n c) bs) : bs.length = n := by
  obtain ⟨A', c', e, _⟩ := own_rv h
  injection e with _ e _
  exact e.symm
theorem OwB.rv {base : Nat} {w : World} {A : Option Addr} {n c : Nat} {bs : List Nat} (h : OwB base w (.slice A n c) bs) : Rv w 1 A n c (bc bs) := by
  obtain ⟨A', c', e, hr⟩ := own_rv h
  injection e with e1 e2 e3
  rw [e1, e2, e3]
  exact hr
theorem set_getD_self {α : Type} (d : α) : ∀ (l : List α) (k : Nat), l.set k (l.getD k d) = l
  | [], _ => rfl
  | x :: l, 0 => rfl
  | x :: l, k + 1 => by
    show x :: l.set k (l.getD k d) = x :: l
    rw [set_getD_self d l k]
/-- What an append to a block's row may change. -/
def XK (g : Dkg) (k : Nat) (b : Nat) (_ : Obj) : Prop := g.lo k = true ∧ (g.Lv k).ownBlock = some b
/-- .. and to the map too. -/
def XM (g : Dkg) (k : Nat) (b : Nat) (o : Obj) : Prop := b = g.m ∨ XK g k b o
theorem DI.dkX (h : DI w d g cur bl down left) {k : Nat} (hk : k < cur.length) {w' : World} (hc : Chg (XM g k) w w') : Blk w' d TDK #[g.v, .map (some g.m), .bool down, .int .i64 (left : Int)] := hc.blk h.dk fun hX => hX.elim h.d_m fun hX => h.d_row (h.yes k hk hX.1).2.2.1 hX.2
theorem DI.atX (h : DI w d g cur bl down left) {gb cap : Nat} (hv : g.v = .slice (some ⟨gb, 0, none⟩) cur.length cap) {k : Nat} (hk : k < cur.length) {w' : World} (hc : Chg (XM g k) w w') : w'.cell? ⟨gb, k, none⟩ = some (g.vs.getD k nlB) := by
  have hrow : w'.ownsRow 0 TBY 1 g.v cur.length g.vs := hc.own h.row fun b cs hb hX => hX.elim (fun e => h.m_row h.row (by rw [hb, e])) fun hX => (h.apart k hk hX.1 b hX.2).1 hb
  rw [hv] at hrow
  have hlen : g.vs.length = cur.length := by have := hrow.1; omega
  rw [hrow.cellAt k (by omega)]
  have hk2 : k < g.vs.length := by omega
  simp [List.getD, List.getElem?_eq_getElem hk2]
theorem DI.seesX (h : DI w d g cur bl down left) {k : Nat} (hk : k < cur.length) {w' : World} (hc : Chg (XK g k) w w') {v : Value} {bs : List Nat} (hv : SeesB w v bs) : SeesB w' v bs := by
  rcases hv with hv | ⟨hv, hvl⟩
  · exact Or.inl hv
  · refine Or.inr ⟨own_keep hv fun b cs _ _ hb => (hc.same b _ hb fun hX => ?_).trans hb.symm, hvl⟩
    obtain ⟨cs', hcs'⟩ := own_lt' (h.yes k hk hX.1).2.2.1 hX.2
    rw [hb] at hcs'
    injection hcs' with e
    injection e with _ e
    revert e
    decide
set_option maxHeartbeats 6400000 in
set_option maxRecDepth 100000 in
theorem rwrite_ok {F : Nat → Prop} (hw : DW F w d bl false left) (hF : ∀ b, w.heap.size ≤ b → F b) {k : Nat} (hk : k < bl.length) {A : Option Addr} {c : Nat} {bs : List Nat} (hb : OwB 0 w (.slice A 64 c) bs) (hfew : (bl.getD k []).length ≤ 1000000) :
    Calls Try.prog 41 #[.pointer (some ⟨d, 0, none⟩), .int .i64 (k : Int), .slice A 64 c] w fun e w' => e = .returned (.int .i64 (if left = 1 then 9 else 0)) ∧ DW F w' d (bl.set k (bl.getD k [] ++ [bs])) (decide (left = 1)) (left - 1) ∧ Chg (MF F) w w' := by
  obtain ⟨dn, hdn⟩ : ∃ dn, decide (left = 1) = dn := ⟨_, rfl⟩
  obtain ⟨er, her⟩ : ∃ er : Int, (if left = 1 then (9 : Int) else 0) = er := ⟨_, rfl⟩
  obtain ⟨b2, hb2⟩ : ∃ b2, bl.set k (bl.getD k [] ++ [bs]) = b2 := ⟨_, rfl⟩
  have HER := Lib.hid (show er = if dn = true then 9 else 0 by
    rw [← her, ← hdn]
    by_cases hl : left = 1
    · rw [if_pos hl, decide_eq_true hl]; rfl
    · rw [if_neg hl, decide_eq_false hl]; rfl)
  rw [hdn, her, hb2]
  have HDN := Lib.hid hdn
  have HB2 := Lib.hid hb2
  clear hdn her hb2
  obtain ⟨g, h, hlo, hfp⟩ := hw
  obtain ⟨cur, hcur⟩ : ∃ cur, bl.map (fun l => l.getLastD z64) = cur := ⟨_, rfl⟩
  rw [hcur] at h
  have HCUR := Lib.hid hcur
  have hcl : cur.length = bl.length := h.len.symm
  have HCL := Lib.hid hcl
  have hkc : k < cur.length := by omega
  have hne : cur ≠ [] := fun e => by rw [e] at hkc; simp at hkc
  obtain ⟨gb, cap, hv, hc1, hc2, hd⟩ := h.form hne
  have hfew4 := h.few
  obtain ⟨n, hn⟩ : ∃ n, cur.length = n := ⟨_, rfl⟩
  rw [hn] at hd hc1 hkc hfew4 hv
  have HN := Lib.hid hn
  have H := Lib.hid h
  have HD := Lib.hid hd
  have HLO := Lib.hid hlo
  have HFP := Lib.hid hfp
  have HF := Lib.hid hF
  have HB := Lib.hid hb
  have HV := Lib.hid hv
  have HFEW := Lib.hid hfew
  have HK := Lib.hid hk
  have HNE := Lib.hid hne
  have hbl := hb.rv.le
  have hbc := hb.rv.cap
  have HBL := Lib.hid hb.len64
  clear h hd hlo hfp hF hb hcur hne hv hcl hn hfew hk
  go_enter Try.func41, Try.ntmps41
  go_wp2_with fail
  refine (rready_any d g.m _ false left w HD.out).mono ?_
  rintro e w1 ⟨z1, rfl, rfl, b1⟩
  have h1 := H.out.ext b1
  have kd := (HD.out.below b1).cells
  simp only [cellsAre, Nat.zero_add, Nat.reduceAdd, and_true] at kd
  have H1 := Lib.hid h1
  have X1 := Lib.hid (show Ext w w1 from b1)
  obtain ⟨A6, n6, c6, hlk, h6⟩ := h1.rowK (k := k) HLO.out (by rw [HN.out]; exact hkc)
  clear h1 b1
  have pk : ¬ (k : Int) < 0 := by omega
  have pk2 : (k : Int) < (n : Int) := by omega
  go_upto_region 6 with fail
  go_upto_if 36 with fail
  go_cut [] (fun wx => ∃ g1, DI wx d g1 cur bl false left ∧ g1.lo = (fun j => if j = k then true else g.lo j) ∧ (∀ b, g1.fp d cur.length b → F b) ∧ Chg (MF F) w wx ∧ g1.v = g.v ∧ g1.m = g.m)
  case first =>
    rcases h6 with ⟨hlk1, hn6⟩ | ⟨hlk0, rfl⟩
    · have pn : ¬ (n6 : Int) = 0 := by omega
      go_wp2_with fail
      go_meet
      refine ⟨g, H1.out, ?_, by rw [HCL.out]; exact HFP.out, Chg.ext X1.out, rfl, rfl⟩
      funext j
      by_cases hj : j = k
      · subst hj; rw [if_pos rfl, hlk1]
      · rw [if_neg hj]
    · go_upto_region 7 with fail
      have hst7 : Ext w1 w1.drew := Ext.drew _
      have kk := fun w' (hh : Ext w1 w') => ((HD.out.below X1.out).below hh).cells
      simp only [cellsAre, Nat.zero_add, Nat.reduceAdd, and_true] at kk
      have KK := Lib.hid kk
      clear kd
      refine wp_region_adv 9 [] [(0, true, some 37, none), (1, true, some 38, none), (2, true, some 39, none), (3, true, some 40, none), (4, true, some 41, none), (5, true, some 42, none), (6, true, some 43, none), (7, false, some 44, none), (8, false, some 45, none)] (by kernel_rfl) (by kernel_rfl) (by kernel_rfl) (by intro it hit; (repeat (rcases List.mem_cons.1 hit with rfl | hit; (focus (intro o ho ev w; injection ho with ho; subst ho; kernel_rfl)))); cases hit) (fun _ _ _ _ _ => ⟨fun h => h, fun h => h⟩) hst7 ?_
      repeat (first | (refine wpSeq_pure (v := ?_) rfl ?_ ?_; rotate_left 1; (focus (intro wq_ hSq_; (try dsimp only at hSq_); go_simp; (try with_reducible rfl); done)); (try simp only [Act.put, List.setIfInBounds_toArray, List.set_cons_zero, List.set_cons_succ])) | (refine wpSeq_pureG (v := ?_) rfl rfl ?_ ?_; rotate_left 1; (focus (intro wq_ hSq_; (try dsimp only at hSq_); go_simp; (try with_reducible rfl); done)); (try simp only [Act.put, List.setIfInBounds_toArray, List.set_cons_zero, List.set_cons_succ])) | (refine wpSeq_off rfl rfl ?_; (try simp only [Act.put, List.setIfInBounds_toArray, List.set_cons_zero, List.set_cons_succ])) | (refine wpSeq_offU rfl ?_; (try simp only [Act.put, List.setIfInBounds_toArray, List.set_cons_zero, List.set_cons_succ])))
      first | refine wpSeq_call rfl (fun u gu su K hK => ?_) | refine wpSeq_callG rfl rfl (fun u gu su K hK => ?_)
      go_simp
      refine (rat_any (H1.out.ext su) (k := k) (by rw [HN.out]; exact hkc)).mono ?_
      rintro e y ⟨z2, rfl, ⟨A7, c7, rfl, ho7⟩, b7⟩
      have O7 := Lib.hid ho7
      clear ho7
      (try go_wp2_with fail)
      refine hK.out _ _ b7 ?_
      clear hK K
      (try simp only [Act.put, List.setIfInBounds_toArray, List.set_cons_zero, List.set_cons_succ])
      repeat (first | (refine wpSeq_pure (v := ?_) rfl ?_ ?_; rotate_left 1; (focus (intro wq_ hSq_; (try dsimp only at hSq_); go_simp; (try with_reducible rfl); done)); (try simp only [Act.put, List.setIfInBounds_toArray, List.set_cons_zero, List.set_cons_succ])) | (refine wpSeq_pureG (v := ?_) rfl rfl ?_ ?_; rotate_left 1; (focus (intro wq_ hSq_; (try dsimp only at hSq_); go_simp; (try with_reducible rfl); done)); (try simp only [Act.put, List.setIfInBounds_toArray, List.set_cons_zero, List.set_cons_succ])) | (refine wpSeq_off rfl rfl ?_; (try simp only [Act.put, List.setIfInBounds_toArray, List.set_cons_zero, List.set_cons_succ])) | (refine wpSeq_offU rfl ?_; (try simp only [Act.put, List.setIfInBounds_toArray, List.set_cons_zero, List.set_cons_succ])))
      first | refine wpSeq_call rfl (fun u2 gu2 su2 K hK => ?_) | refine wpSeq_callG rfl rfl (fun u2 gu2 su2 K hK => ?_)
      go_simp
      (try go_wp2_with fail)
      refine hK.out _ _ (Ext.allocR _ _) ?_
      clear hK K
      (try simp only [Act.put, List.setIfInBounds_toArray, List.set_cons_zero, List.set_cons_succ])
      repeat (first | (refine wpSeq_pure (v := ?_) rfl ?_ ?_; rotate_left 1; (focus (intro wq_ hSq_; (try dsimp only at hSq_); go_simp; (try with_reducible rfl); done)); (try simp only [Act.put, List.setIfInBounds_toArray, List.set_cons_zero, List.set_cons_succ])) | (refine wpSeq_pureG (v := ?_) rfl rfl ?_ ?_; rotate_left 1; (focus (intro wq_ hSq_; (try dsimp only at hSq_); go_simp; (try with_reducible rfl); done)); (try simp only [Act.put, List.setIfInBounds_toArray, List.set_cons_zero, List.set_cons_succ])) | (refine wpSeq_off rfl rfl ?_; (try simp only [Act.put, List.setIfInBounds_toArray, List.set_cons_zero, List.set_cons_succ])) | (refine wpSeq_offU rfl ?_; (try simp only [Act.put, List.setIfInBounds_toArray, List.set_cons_zero, List.set_cons_succ])))
      intro wz gz sz
      (try simp only [endJ, List.drop_succ_cons, List.drop_zero])
      have S0 := OwB.len64 O7.out
      have hL := own_below (own_lit (base := 0) (w := u2) TBY 1 #[.slice A7 64 c7] 1 (Nat.zero_le _) (by omega) rfl) gz
      have hS : SeesB wz (.slice A7 64 c7) (cur.getD k z64) := Or.inr ⟨own_lower (own_below (own_below (own_below O7.out gu2) (Ext.allocR _ _)) gz) (Nat.zero_le _), S0⟩
      have hone : bl.getD k [] = [cur.getD k z64] := by
        have h2 := HLO.out k HK.out
        rw [hlk0] at h2
        have h3 : ¬ 2 ≤ (bl.getD k []).length := of_decide_eq_false h2.symm
        have h4 := H.out.ne k (by rw [HN.out]; exact hkc)
        have h5 : cur.getD k z64 = (bl.getD k []).getLastD z64 := by
          rw [← HCUR.out]
          simp [List.getD, List.getElem?_map, HK.out]
        rw [h5]
        cases hq : bl.getD k [] with
        | nil => exact absurd hq h4
        | cons x l =>
          cases l with
          | nil => rfl
          | cons y l => rw [hq] at h3; simp at h3
      obtain ⟨w3, hupd, hd3, ht3⟩ := H1.out.put (k := k) (by rw [HN.out]; exact hkc) (Chg.ext sz) (cs := [cur.getD k z64]) hL (fun j hj => by
        obtain rfl : j = 0 := by simpa using hj
        exact hS) (by simp) (Or.inr ⟨_, rfl, Nat.le_trans (Ext.size gu2 |> fun _ => Ext.size su2) (Nat.le_refl _)⟩)
      rw [← hone, set_getD_self] at hd3
      have HD3 := Lib.hid hd3
      have HT3 := Lib.hid ht3
      have HNB := Lib.hid (show w.heap.size ≤ u2.heap.size from Nat.le_trans (Ext.size X1.out) (Ext.size su2))
      have SZ := Lib.hid sz
      have kd7 := kk wz sz
      clear hd3 ht3 hone hS hL S0 O7 gu su b7 gu2 su2 gz kk hst7 sz
      go_wp2_with fail
      go_meet
      refine ⟨_, HD3.out, rfl, fun b hb => ?_, (Chg.ext X1.out).trans ((Chg.ext SZ.out).trans (Chg.turn HT3.out fun es cl => ⟨HFP.out _ (Or.inr (Or.inl rfl)), trivial⟩)), rfl, rfl⟩
      rcases Dkg.put_fp hb with hb | hb
      · rw [HCL.out] at hb; exact HFP.out b hb
      · injection hb with hb
        rw [← hb]
        exact HF.out _ HNB.out
  case rest =>
    obtain ⟨g1, h1, hlo1, hfp1, hcg1, ev, em⟩ := hcut
    have hv1 : g1.v = .slice (some ⟨gb, 0, none⟩) cur.length cap := by rw [ev, HN.out]; exact HV.out
    have hd1 := h1.dk
    rw [hv1, em, HN.out] at hd1
    have HD1 := Lib.hid hd1
    have HI1 := Lib.hid h1
    have HLO1 := Lib.hid hlo1
    have HFP1 := Lib.hid hfp1
    have HCG1 := Lib.hid hcg1
    have HEV := Lib.hid (And.intro ev em)
    have HV1 := Lib.hid hv1
    have HB1 := Lib.hid (show OwB 0 wc (.slice A 64 c) bs from hcg1.own HB.out fun b cs _ => MF.u8 b cs)
    clear h1 hlo1 hfp1 hcg1 ev em hv1 hd1 kd h6 hlk
    go_upto_region 8 with fail
    have hst8 : Ext wc wc.drew := Ext.drew _
    have kk := fun w' (hh : Ext wc w') => (HD1.out.below hh).cells
    simp only [cellsAre, Nat.zero_add, Nat.reduceAdd, and_true] at kk
    refine wp_region_adv 7 [] [(0, true, some 46, none), (1, true, some 47, none), (2, true, some 48, none), (3, true, some 49, none), (4, true, some 50, none), (5, true, some 51, none), (6, false, some 52, none)] (by kernel_rfl) (by kernel_rfl) (by kernel_rfl) (by intro it hit; (repeat (rcases List.mem_cons.1 hit with rfl | hit; (focus (intro o ho ev w; injection ho with ho; subst ho; kernel_rfl)))); cases hit) (fun _ _ _ _ _ => ⟨fun h => h, fun h => h⟩) hst8 ?_
    repeat (first | (refine wpSeq_pure (v := ?_) rfl ?_ ?_; rotate_left 1; (focus (intro wq_ hSq_; (try dsimp only at hSq_); go_simp; (try with_reducible rfl); done)); (try simp only [Act.put, List.setIfInBounds_toArray, List.set_cons_zero, List.set_cons_succ])) | (refine wpSeq_pureG (v := ?_) rfl rfl ?_ ?_; rotate_left 1; (focus (intro wq_ hSq_; (try dsimp only at hSq_); go_simp; (try with_reducible rfl); done)); (try simp only [Act.put, List.setIfInBounds_toArray, List.set_cons_zero, List.set_cons_succ])) | (refine wpSeq_off rfl rfl ?_; (try simp only [Act.put, List.setIfInBounds_toArray, List.set_cons_zero, List.set_cons_succ])) | (refine wpSeq_offU rfl ?_; (try simp only [Act.put, List.setIfInBounds_toArray, List.set_cons_zero, List.set_cons_succ])))
    first | refine wpSeq_call rfl (fun u gu su K hK => ?_) | refine wpSeq_callG rfl rfl (fun u gu su K hK => ?_)
    go_simp
    refine (rcloneB_any A c bs _ (OwB.rv (own_below HB1.out su))).mono ?_
    rintro e y ⟨v8, rfl, o8, b8⟩
    obtain ⟨A8, c8, ev8, _⟩ := own_rv o8
    rw [HBL.out] at ev8
    subst ev8
    have O8 := Lib.hid o8
    clear o8
    (try go_wp2_with fail)
    refine hK.out _ _ b8 ?_
    clear hK K
    (try simp only [Act.put, List.setIfInBounds_toArray, List.set_cons_zero, List.set_cons_succ])
    repeat (first | (refine wpSeq_pure (v := ?_) rfl ?_ ?_; rotate_left 1; (focus (intro wq_ hSq_; (try dsimp only at hSq_); go_simp; (try with_reducible rfl); done)); (try simp only [Act.put, List.setIfInBounds_toArray, List.set_cons_zero, List.set_cons_succ])) | (refine wpSeq_pureG (v := ?_) rfl rfl ?_ ?_; rotate_left 1; (focus (intro wq_ hSq_; (try dsimp only at hSq_); go_simp; (try with_reducible rfl); done)); (try simp only [Act.put, List.setIfInBounds_toArray, List.set_cons_zero, List.set_cons_succ])) | (refine wpSeq_off rfl rfl ?_; (try simp only [Act.put, List.setIfInBounds_toArray, List.set_cons_zero, List.set_cons_succ])) | (refine wpSeq_offU rfl ?_; (try simp only [Act.put, List.setIfInBounds_toArray, List.set_cons_zero, List.set_cons_succ])))
    intro wz gz sz
    (try simp only [endJ, List.drop_succ_cons, List.drop_zero])
    have hz := HI1.out.ext sz
    have hS : SeesB wz (.slice A8 64 c8) bs := Or.inr ⟨own_lower (own_below O8.out gz) (Nat.zero_le _), HBL.out⟩
    have kd8 := kk wz sz
    have hat8 := hz.at_ HV1.out (k := k) (by rw [HN.out]; exact hkc)
    have hrow8 := hz.row
    rw [HV1.out] at hrow8
    have hfr8 := hrow8.frozenAt k
    have h9 := hz.seton HV1.out (k := k) (by rw [HN.out]; exact hkc) hS
    have hob : g1.v.ownBlock = some gb := by rw [HV1.out]; rfl
    obtain ⟨cs0, hcs0⟩ := own_lt' hz.row hob
    have C9 := Lib.hid (show Chg (MF F) w (wz.setCell ⟨gb, k, none⟩ (.slice A8 64 c8)) from HCG1.out.trans ((Chg.ext sz).trans (Chg.set_ (p := ⟨gb, k, none⟩) hcs0 ⟨HFP1.out gb (Or.inr (Or.inr (Or.inl hob))), Or.inr (Or.inl rfl)⟩ _)))
    have H9 := Lib.hid h9
    clear h9 hrow8 hcs0 hob hS hz gu su b8 gz sz kk hst8 O8
    go_upto_region 9 with fail
    have hcs : (cur.set k bs).length = n := by rw [List.length_set, HN.out]
    have hg : ∃ g2 : Dkg, g2 = { g1 with vs := g1.vs.set k (.slice A8 64 c8) } := ⟨_, rfl⟩
    obtain ⟨g2, hg2⟩ := hg
    have hvs : g2.vs.getD k nlB = .slice A8 64 c8 := by
      rw [hg2]
      have hl1 : g1.vs.length = cur.length := by have := HI1.out.row.1; omega
      show (g1.vs.set k (.slice A8 64 c8)).getD k nlB = _
      rw [getD_setL _ _ _ (by rw [hl1, HN.out]; exact hkc), if_pos rfl]
    have hfp2 : ∀ b, g2.fp d n b → F b := by rw [hg2, ← HN.out]; exact HFP1.out
    have hlo2 : g2.lo = (fun j => if j = k then true else g.lo j) := by rw [hg2]; exact HLO1.out
    have hv2 : g2.v = .slice (some ⟨gb, 0, none⟩) (cur.set k bs).length cap := by rw [hg2, hcs, ← HN.out]; exact HV1.out
    have hm2 : g2.m = g.m := by rw [hg2]; exact HEV.out.2
    have h9 := H9.out
    rw [← hg2] at h9
    refine wp_world (fun W => DI W d g2 (cur.set k bs) bl false left ∧ Chg (MF F) w W) ⟨h9, C9.out⟩ ?_
    clear h9 H9 C9 hg2 HI1 HFP1 HLO1 HCG1 HEV HV1 HB1 HD1 kd8 hat8 hfr8
    rintro W9 ⟨h9, c9⟩
    obtain ⟨cu2, hcu2⟩ : ∃ cu2, cur.set k bs = cu2 := ⟨_, rfl⟩
    rw [hcu2] at h9 hcs hv2
    have HCU2 := Lib.hid hcu2
    have HCS := Lib.hid hcs
    have hkc2 : k < cu2.length := by omega
    have HK2 := Lib.hid hkc2
    have hlk2 : g2.lo k = true := by rw [hlo2]; simp
    obtain ⟨A9, c9', ev9, _⟩ := own_rv (h9.yes k hkc2 hlk2).2.2.1
    have HR9 := Lib.hid (h9.yes k hkc2 hlk2)
    have look9 := (h9.ext (Ext.drew _)).look hkc2
    have at9 := fun w' (hh : Chg (XM g2 k) W9 w') => h9.atX hv2 hkc2 hh
    have dk9 := fun w' (hh : Chg (XM g2 k) W9 w') => (h9.dkX hkc2 hh).cells
    obtain ⟨n9, hn9⟩ : ∃ n9, (bl.getD k []).length = n9 := ⟨_, rfl⟩
    rw [hlk2, if_pos rfl, ev9, hn9, hm2] at look9
    rw [hvs] at at9
    rw [hv2, hm2, hcs] at dk9
    rw [hn9] at ev9
    simp only [cellsAre, Nat.zero_add, Nat.reduceAdd, and_true] at dk9
    have HN9 := Lib.hid hn9
    have HEV9 := Lib.hid ev9
    have HI9 := Lib.hid h9
    have HC9 := Lib.hid c9
    have HLO2 := Lib.hid hlo2
    have HFP2 := Lib.hid hfp2
    have HM2 := Lib.hid hm2
    have HLK2 := Lib.hid hlk2
    have HVS := Lib.hid hvs
    clear h9 c9 hlo2 hfp2 hm2 hv2 hcs hcu2 hn9 ev9 hvs hlk2
    have hst9 : Ext W9 W9.drew := Ext.drew _
    refine wp_region_brn (S := Chg (XM g2 k) W9) (by kernel_rfl) (by kernel_rfl) (fun _ _ _ _ _ => ⟨fun h => h, fun h => h⟩) ?_
    intro hsel_ hQ_
    obtain ⟨wd, hwd⟩ : ∃ wd, W9.drew = wd := ⟨_, rfl⟩
    rw [hwd] at hst9 look9 ⊢
    have HS9 := Lib.hid hst9
    clear hwd
    refine wpB_chunk (f := 4) (L' := #[true, true, true, true, true, true, true, true, true, true, false, true, true, true, true, true, true, true, false, false, false]) hsel_ hQ_ [(0, true, some 54, none), (1, true, some 55, none), (2, true, some 56, none), (3, true, some 57, none), (4, true, some 58, none), (5, true, some 59, none), (6, true, some 60, none), (7, true, some 61, none), (8, true, some 62, none), (9, true, some 63, none), (11, true, some 65, none), (12, true, some 66, none), (13, true, some 67, none), (14, true, some 68, none), (15, true, some 69, none), (16, true, some 70, none), (17, true, some 71, none)] _ _ _ (by kernel_rfl) (Chg.ext hst9) ?_
    repeat (first | (refine wpSeqB_pure (v := ?_) rfl ?_ ?_; rotate_left 1; (focus (intro wq_ hSq_; (try dsimp only at hSq_); go_simp; (try with_reducible rfl); done)); (try simp only [Act.put, List.setIfInBounds_toArray, List.set_cons_zero, List.set_cons_succ])) | (refine wpSeqB_pureG (v := ?_) rfl rfl ?_ ?_; rotate_left 1; (focus (intro wq_ hSq_; (try dsimp only at hSq_); go_simp; (try with_reducible rfl); done)); (try simp only [Act.put, List.setIfInBounds_toArray, List.set_cons_zero, List.set_cons_succ])) | (refine wpSeqB_off rfl rfl ?_; (try simp only [Act.put, List.setIfInBounds_toArray, List.set_cons_zero, List.set_cons_succ])) | (refine wpSeqB_offU rfl ?_; (try simp only [Act.put, List.setIfInBounds_toArray, List.set_cons_zero, List.set_cons_succ])))
    intro s0
    clear s0
    have s1 := bt hst9 (Ext.allocR wd (.cells #[.slice A8 64 c8] TBY))
    have look9' := (HI9.out.ext s1).look HK2.out
    rw [HLK2.out, if_pos rfl, HEV9.out, HM2.out] at look9'
    have hrow9 : (wd.alloc (.cells #[.slice A8 64 c8] TBY)).ownsRow 0 TBY 1 (.slice A9 n9 c9') n9 (g2.us k) := by
      have := own_below HR9.out.2.2.1 s1
      rw [HEV9.out, HN9.out] at this
      exact this
    obtain ⟨i0, hi, hz0, hz1, hz2⟩ := info_parts by_info
    have hfw := HFEW.out
    rw [HN9.out] at hfw
    obtain ⟨v3, w3, hrun, hrow3, hgr, _, hob⟩ := run_append_own_at (P := Try.prog) (w := wd.alloc (.cells #[.slice A8 64 c8] TBY)) 0 TBB TBB TBY i0 _ 1 24 Try.underlying66 hi hz0 hz1 hz2 rfl (by omega) (.slice A9 n9 c9') n9 (g2.us k) hrow9 ⟨wd.heap.size, 0, none⟩ 1 1 [.slice A8 64 c8] rfl (rv_lit (w := wd) TBY 1 #[.slice A8 64 c8] 1 (by omega) rfl |>.news (by omega) |>.2.2 _ rfl) (fun u hu => by rw [List.mem_singleton] at hu; subst hu; rfl) (by unfold maxLen; omega) (by omega) (Nat.zero_le _)
    have sX : Chg (XK g2 k) W9 w3 := (Chg.ext s1).trans (Chg.grow hgr fun b o e _ => ⟨HLK2.out, by rw [HEV9.out]; exact e⟩)
    have hus : (g2.us k).length = n9 := by have := hrow9.1; omega
    have hcs : (bl.getD k [] ++ [bs]).length = n9 + 1 := by rw [List.length_append, HN9.out]; rfl
    have hs8 := HI9.out.sees k HK2.out
    rw [HVS.out] at hs8
    obtain ⟨w4, hupd, hd4, ht4⟩ := HI9.out.put HK2.out sX (v2 := v3) (us2 := g2.us k ++ [.slice A8 64 c8]) (cs := bl.getD k [] ++ [bs]) (by rw [hcs]; exact hrow3) (fun j hj => by
      by_cases hj9 : j < n9
      · have e1 : (g2.us k ++ [Value.slice A8 64 c8]).getD j nlB = (g2.us k).getD j nlB := by simp [List.getD, List.getElem?_append, hus, hj9]
        have e2 : (bl.getD k [] ++ [bs]).getD j z64 = (bl.getD k []).getD j z64 := by simp only [List.getD, List.getElem?_append]; rw [if_pos (by have := HN9.out; unfold List.getD at this; omega)]
        rw [e1, e2]
        exact HI9.out.seesX HK2.out sX (HR9.out.2.2.2 j (by rw [HN9.out]; exact hj9))
      · obtain rfl : j = n9 := by omega
        have e1 : (g2.us k ++ [Value.slice A8 64 c8]).getD j nlB = .slice A8 64 c8 := by simp [List.getD, List.getElem?_append, hus]
        have e2 : (bl.getD k [] ++ [bs]).getD j z64 = bs := by
          have := HN9.out
          unfold List.getD at this ⊢
          rw [List.getElem?_append, if_neg (by omega), this, Nat.sub_self]
          rfl
        have e3 : cu2.getD k z64 = bs := by rw [← HCU2.out, getD_setL _ _ _ (by rw [HN.out]; exact hkc), if_pos rfl]
        rw [e1, e2, ← e3]
        exact HI9.out.seesX HK2.out sX hs8) (by simp) (by
      rcases hob with e | e
      · exact Or.inl ⟨HLK2.out, by rw [e, HEV9.out]⟩
      · exact Or.inr ⟨_, e, Ext.size s1⟩)
    rw [HM2.out] at hupd ht4
    have HD4 := Lib.hid hd4
    have HC4 := Lib.hid (show Chg (MF F) w w4 from HC9.out.trans (((Chg.ext s1).trans (Chg.grow hgr fun b o e ho => ⟨HFP2.out b (Or.inr (Or.inr (Or.inr ⟨k, hkc, HLK2.out, by rw [HEV9.out]; exact e⟩))), by
      obtain ⟨cs9, hcs9⟩ := own_lt' hrow9 e
      rw [ho] at hcs9
      injection hcs9 with hcs9
      rw [hcs9]
      exact Or.inr (Or.inl rfl)⟩)).trans (Chg.turn ht4 fun es cl => ⟨HFP2.out _ (Or.inr (Or.inl HM2.out.symm)), trivial⟩)))
    have S4 := Lib.hid (show Chg (XM g2 k) W9 w4 from (sX.mono fun b o hX => Or.inr hX).trans (Chg.turn ht4 fun es cl => Or.inl HM2.out.symm))
    have SX := Lib.hid (show Chg (XM g2 k) W9 w3 from sX.mono fun b o hX => Or.inr hX)
    have HFP4 := Lib.hid (show ∀ b, (g2.put k v3 (g2.us k ++ [.slice A8 64 c8])).fp d n b → F b from fun b hb => by
      rcases Dkg.put_fp hb with hb | hb
      · exact HFP2.out b hb
      · rcases hob with e | e
        · exact HFP2.out b (Or.inr (Or.inr (Or.inr ⟨k, hkc, HLK2.out, by rw [HEV9.out, ← e]; exact hb⟩)))
        · rw [e] at hb
          injection hb with hb
          rw [← hb]
          exact HF.out _ (Nat.le_trans HC9.out.size (Ext.size s1)))
    have HFIN := Lib.hid (show ∀ w5, DI w5 d (g2.put k v3 (g2.us k ++ [.slice A8 64 c8])) cu2 (bl.set k (bl.getD k [] ++ [bs])) (decide (left = 1)) (left - 1) → Chg (fun b _ => b = d) w4 w5 → DW F w5 d b2 dn (left - 1) ∧ Chg (MF F) w w5 from fun w5 h5 c5 => by
      have hkb := HK.out
      rw [← HB2.out]
      rw [HDN.out] at h5
      refine ⟨⟨_, ?_, fun j hj => ?_, fun b hb => HFP4.out b (by rw [List.length_set, ← HCL.out, HN.out] at hb; exact hb)⟩, HC4.out.trans ⟨c5.os, c5.tape, c5.output, c5.size, fun b o hb hX => ?_⟩⟩
      · rw [List.map_set, HCUR.out]
        have e : (bl.getD k [] ++ [bs]).getLastD z64 = bs := by simp
        rw [e, HCU2.out]
        exact h5
      · rw [List.length_set] at hj
        show (if j = k then true else g2.lo j) = _
        rw [getD_setL _ _ _ hkb]
        by_cases hjk : j = k
        · subst hjk
          rw [if_pos rfl, if_pos rfl]
          have h4 := H.out.ne j (by rw [HN.out]; exact hkc)
          have h5 : 1 ≤ (bl.getD j []).length := Nat.pos_of_ne_zero fun e => h4 (List.eq_nil_of_length_eq_zero e)
          exact (decide_eq_true (by rw [List.length_append]; show 2 ≤ _ + 1; omega)).symm
        · rw [if_neg hjk, if_neg hjk, HLO2.out]
          simp only [hjk, if_false]
          exact HLO.out j hj
      · by_cases hbd : b = d
        · exfalso
          refine hX ⟨HFP.out b (Or.inl hbd), ?_⟩
          have := HD4.out.dk
          unfold Blk at this
          rw [hbd, this] at hb
          injection hb with hb
          rw [← hb]
          exact Or.inl rfl
        · exact c5.same b o hb hbd)
    clear hd4 ht4 hs8 hob hgr hrow3 hrow9 hus hcs hfw sX
    refine wpB_two 10 18 (by kernel_rfl) rfl rfl rfl rfl ?_ ?_
    · intro K hK
      go_simp
      refine hK.out _ _ (Chg.ext hst9) ?_
      clear hK K
      (try simp only [List.getElem_toArray, List.getElem_cons_succ, List.getElem_cons_zero, Act.put, List.setIfInBounds_toArray, List.set_cons_zero, List.set_cons_succ])
      refine wpB_chunk (f := 0) (L' := #[true, true, true, true, true, true, true, true, true, true, true, true, true, true, true, true, true, true, true, true, true]) hsel_ hQ_ [(18, false, some 72, none), (19, false, some 73, none), (20, false, none, none)] _ _ _ (by kernel_rfl) (Chg.ext hst9) ?_
      repeat (first | (refine wpSeqB_pure (v := ?_) rfl ?_ ?_; rotate_left 1; (focus (intro wq_ hSq_; (try dsimp only at hSq_); go_simp; (try with_reducible rfl); done)); (try simp only [Act.put, List.setIfInBounds_toArray, List.set_cons_zero, List.set_cons_succ])) | (refine wpSeqB_pureG (v := ?_) rfl rfl ?_ ?_; rotate_left 1; (focus (intro wq_ hSq_; (try dsimp only at hSq_); go_simp; (try with_reducible rfl); done)); (try simp only [Act.put, List.setIfInBounds_toArray, List.set_cons_zero, List.set_cons_succ])) | (refine wpSeqB_off rfl rfl ?_; (try simp only [Act.put, List.setIfInBounds_toArray, List.set_cons_zero, List.set_cons_succ])) | (refine wpSeqB_offU rfl ?_; (try simp only [Act.put, List.setIfInBounds_toArray, List.set_cons_zero, List.set_cons_succ])))
      first | refine wpSeqB_call rfl (fun K hK => ?_) | refine wpSeqB_callG rfl rfl (fun K hK => ?_)
      go_simp
      refine hK.out _ _ (Chg.ext s1) ?_
      clear hK K
      (try simp only [List.getElem_toArray, List.getElem_cons_succ, List.getElem_cons_zero, Act.put, List.setIfInBounds_toArray, List.set_cons_zero, List.set_cons_succ])
      first | refine wpSeqB_call rfl (fun K hK => ?_) | refine wpSeqB_callG rfl rfl (fun K hK => ?_)
      refine Go.Lib.wp_append_run _ _ _ TBB TBB (by rfl) _ _ (by rfl) (by rfl) v3 w3 hrun ?_
      refine hK.out _ _ SX.out ?_
      clear hK K
      (try simp only [List.getElem_toArray, List.getElem_cons_succ, List.getElem_cons_zero, Act.put, List.setIfInBounds_toArray, List.set_cons_zero, List.set_cons_succ])
      first | refine wpSeqB_call rfl (fun K hK => ?_) | refine wpSeqB_callG rfl rfl (fun K hK => ?_)
      go_simp
      refine hK.out _ _ S4.out ?_
      clear hK K
      (try simp only [List.getElem_toArray, List.getElem_cons_succ, List.getElem_cons_zero, Act.put, List.setIfInBounds_toArray, List.set_cons_zero, List.set_cons_succ])
      intro s_
      refine wpB_end (by kernel_rfl) ?_
      clear s_
      go_wp2_with fail
      refine (ract_any HD4.out).mono ?_
      rintro e w5 ⟨rfl, hd5, hc5⟩
      have HZ := Lib.hid (HFIN.out w5 hd5 hc5)
      clear hd5 hc5
      rw [HDN.out]
      by_cases hd1 : dn = true
      · subst hd1
        go_wp2
        go_returns
        exact ⟨by rw [HER.out]; rfl, HZ.out⟩
      · have hd0 : dn = false := by simpa using hd1
        subst hd0
        clear hd1
        go_wp2
        go_returns
        exact ⟨by rw [HER.out]; rfl, HZ.out⟩
    · intro K hK
      go_simp
      refine hK.out _ _ (Chg.ext s1) ?_
      clear hK K
      (try simp only [List.getElem_toArray, List.getElem_cons_succ, List.getElem_cons_zero, Act.put, List.setIfInBounds_toArray, List.set_cons_zero, List.set_cons_succ])
      refine wpB_chunk (f := 0) (L' := #[true, true, true, true, true, true, true, true, true, true, true, true, true, true, true, true, true, true, true, true, true]) hsel_ hQ_ [(10, false, some 64, none), (19, false, some 73, none), (20, false, none, none)] _ _ _ (by kernel_rfl) (Chg.ext s1) ?_
      repeat (first | (refine wpSeqB_pure (v := ?_) rfl ?_ ?_; rotate_left 1; (focus (intro wq_ hSq_; (try dsimp only at hSq_); go_simp; (try with_reducible rfl); done)); (try simp only [Act.put, List.setIfInBounds_toArray, List.set_cons_zero, List.set_cons_succ])) | (refine wpSeqB_pureG (v := ?_) rfl rfl ?_ ?_; rotate_left 1; (focus (intro wq_ hSq_; (try dsimp only at hSq_); go_simp; (try with_reducible rfl); done)); (try simp only [Act.put, List.setIfInBounds_toArray, List.set_cons_zero, List.set_cons_succ])) | (refine wpSeqB_off rfl rfl ?_; (try simp only [Act.put, List.setIfInBounds_toArray, List.set_cons_zero, List.set_cons_succ])) | (refine wpSeqB_offU rfl ?_; (try simp only [Act.put, List.setIfInBounds_toArray, List.set_cons_zero, List.set_cons_succ])))
      first | refine wpSeqB_call rfl (fun K hK => ?_) | refine wpSeqB_callG rfl rfl (fun K hK => ?_)
      go_simp
      refine hK.out _ _ (Chg.ext s1) ?_
      clear hK K
      (try simp only [List.getElem_toArray, List.getElem_cons_succ, List.getElem_cons_zero, Act.put, List.setIfInBounds_toArray, List.set_cons_zero, List.set_cons_succ])
      first | refine wpSeqB_call rfl (fun K hK => ?_) | refine wpSeqB_callG rfl rfl (fun K hK => ?_)
      refine Go.Lib.wp_append_run _ _ _ TBB TBB (by rfl) _ _ (by rfl) (by rfl) v3 w3 hrun ?_
      refine hK.out _ _ SX.out ?_
      clear hK K
      (try simp only [List.getElem_toArray, List.getElem_cons_succ, List.getElem_cons_zero, Act.put, List.setIfInBounds_toArray, List.set_cons_zero, List.set_cons_succ])
      first | refine wpSeqB_call rfl (fun K hK => ?_) | refine wpSeqB_callG rfl rfl (fun K hK => ?_)
      go_simp
      refine hK.out _ _ S4.out ?_
      clear hK K
      (try simp only [List.getElem_toArray, List.getElem_cons_succ, List.getElem_cons_zero, Act.put, List.setIfInBounds_toArray, List.set_cons_zero, List.set_cons_succ])
      intro s_
      refine wpB_end (by kernel_rfl) ?_
      clear s_
      go_wp2_with fail
      refine (ract_any HD4.out).mono ?_
      rintro e w5 ⟨rfl, hd5, hc5⟩
      have HZ := Lib.hid (HFIN.out w5 hd5 hc5)
      clear hd5 hc5
      rw [HDN.out]
      by_cases hd1 : dn = true
      · subst hd1
        go_wp2
        go_returns
        exact ⟨by rw [HER.out]; rfl, HZ.out⟩
      · have hd0 : dn = false := by simpa using hd1
        subst hd0
        clear hd1
        go_wp2
        go_returns
        exact ⟨by rw [HER.out]; rfl, HZ.out⟩
end Go.Proofs.Tb
/- Contracts of the disk's Sync, Read and NewDisk, and of Write where it refuses. -/
namespace Go.Proofs.Tb
open Go.Maps Go.RowKit
attribute [local go_sem] cell_set_same neqMapL

abbrev lastsB (bl : List (List (List Nat))) : List (List Nat) := bl.map fun l => l.getLastD z64
/-- What stands on the disk, and nothing loose. -/
def safeB (bl : List (List (List Nat))) : List (List (List Nat)) := (lastsB bl).map fun l => [l]
theorem safe_lasts (bl : List (List (List Nat))) : lastsB (safeB bl) = lastsB bl := by
  unfold safeB lastsB
  rw [List.map_map]
  rw [List.map_map]
  rfl
theorem safe_getD (bl : List (List (List Nat))) {k : Nat} (hk : k < bl.length) : (safeB bl).getD k [] = [(lastsB bl).getD k z64] := by
  unfold safeB
  simp [List.getD, hk]
variable {w : World} {d : Nat} {g : Dkg} {cur : List (List Nat)} {bl : List (List (List Nat))} {down : Bool} {left : Nat}
/-- The map is exchanged for an empty one. -/
theorem DI.safe {w' : World} (h : DI w d g (lastsB bl) bl down left) {X : Nat → Obj → Prop} (hc : Chg (fun b _ => b = d) w w') {m : Nat} (hm : w'.ownsMap Try.prog TIN RH m 0 (.map [])) (hd : Blk w' d TDK #[g.v, .map (some m), .bool down, .int .i64 (left : Int)]) :
    DI w' d { g with m := m, D := .map [], lo := fun _ => false } (lastsB (safeB bl)) (safeB bl) down left := by
  have hl : (safeB bl).length = bl.length := by unfold safeB; rw [List.length_map, List.length_map]
  have h2 : ∀ b cs, w.heap[b]? = some (.cells cs TU8 (0, 0)) → b ≠ d := fun b cs hb e => by
    have := h.dk
    unfold Blk at this
    rw [← e, hb] at this
    injection this with this
    injection this with _ e
    revert e
    decide
  have hs : ∀ {v : Value} {bs : List Nat}, SeesB w v bs → SeesB w' v bs := fun {v bs} hv => by
    rcases hv with hv | ⟨hv, hvl⟩
    · exact Or.inl hv
    · exact Or.inr ⟨own_keep hv fun b cs _ _ hb => (hc.same b _ hb (h2 b cs hb)).trans hb.symm, hvl⟩
  rw [safe_lasts]
  refine ⟨hd, h.lft, hc.own h.row fun b cs hb e => h.d_row h.row (by rw [← e]; exact hb), by rw [hl, List.length_map], h.few, hm, fun k hk => hs (h.sees k hk), fun l hl => ?_, fun k hk hlo => rfl, fun k hk hlo => ?_, fun k hk => ?_, fun k hk hlo => ?_⟩
  · exact absurd hl (by simp [Maps.has])
  · exact absurd hlo Bool.false_ne_true
  · rw [safe_getD bl (by rw [List.length_map] at hk; exact hk)]; simp
  · exact absurd hlo Bool.false_ne_true
set_option maxHeartbeats 3200000 in
set_option maxRecDepth 100000 in
theorem rsync_ok {F : Nat → Prop} (hw : DW F w d bl false left) (hF : ∀ b, w.heap.size ≤ b → F b) :
    Calls Try.prog 29 #[.pointer (some ⟨d, 0, none⟩)] w fun e w' => e = .returned (.int .i64 (if left = 1 then 9 else 0)) ∧ DW F w' d (if left = 1 then bl else safeB bl) (decide (left = 1)) (left - 1) ∧ Chg (MF F) w w' := by
  obtain ⟨g, h, hlo, hfp⟩ := hw
  have HLO := Lib.hid hlo
  have HFP := Lib.hid hfp
  have H := Lib.hid h
  have HF := Lib.hid hF
  have hd := h.dk
  obtain ⟨v, hv⟩ : ∃ v, g.v = v := ⟨_, rfl⟩
  have HV := Lib.hid hv
  rw [hv] at hd
  have HD := Lib.hid hd
  clear h hlo hfp hF hd hv
  obtain ⟨dn, hdn⟩ : ∃ dn, decide (left = 1) = dn := ⟨_, rfl⟩
  obtain ⟨er, her⟩ : ∃ er : Int, (if left = 1 then (9 : Int) else 0) = er := ⟨_, rfl⟩
  obtain ⟨b2, hb2⟩ : ∃ b2, (if left = 1 then bl else safeB bl) = b2 := ⟨_, rfl⟩
  have HER := Lib.hid (show er = (if dn = true then 9 else 0) ∧ b2 = (if dn = true then bl else safeB bl) by
    rw [← her, ← hdn, ← hb2]
    by_cases hl : left = 1
    · rw [if_pos hl, if_pos hl, decide_eq_true hl]; exact ⟨rfl, rfl⟩
    · rw [if_neg hl, if_neg hl, decide_eq_false hl]; exact ⟨rfl, rfl⟩)
  rw [hdn, her, hb2]
  have HDN := Lib.hid hdn
  clear hdn her hb2
  have hmm := @run_makeMap Try.prog
  go_enter Try.func29, Try.ntmps29
  go_wp2_with fail
  refine (rready_any d g.m _ false left w HD.out).mono ?_
  rintro e w1 ⟨z1, rfl, rfl, b1⟩
  have H1 := Lib.hid (H.out.ext b1)
  have X1 := Lib.hid (show Ext w w1 from b1)
  clear b1
  go_wp2_with fail
  refine (ract_any H1.out).mono ?_
  rintro e w2 ⟨rfl, h2, c2⟩
  rw [HDN.out] at h2 ⊢
  have H2 := Lib.hid h2
  have C2 := Lib.hid (show Chg (MF F) w w2 from (Chg.ext X1.out).trans ⟨c2.os, c2.tape, c2.output, c2.size, fun b o hb hX => by
    by_cases hbd : b = d
    · exfalso
      refine hX ⟨HFP.out b (Or.inl hbd), ?_⟩
      have := H1.out.dk
      unfold Blk at this
      rw [hbd, this] at hb
      injection hb with hb
      rw [← hb]
      exact Or.inl rfl
    · exact c2.same b o hb hbd⟩)
  clear h2 c2
  by_cases hd1 : dn = true
  · subst hd1
    have HE1 := Lib.hid (show er = 9 ∧ b2 = bl by simpa using HER.out)
    go_wp2
    go_returns
    rw [HE1.out.1, HE1.out.2]
    exact ⟨rfl, ⟨g, H2.out, HLO.out, HFP.out⟩, C2.out⟩
  · have hd0 : dn = false := by simpa using hd1
    subst hd0
    clear hd1
    have HE1 := Lib.hid (show er = 0 ∧ b2 = safeB bl by simpa using HER.out)
    have hd2 := H2.out.dk
    rw [HV.out] at hd2
    have HD2 := Lib.hid hd2
    have x3 : Ext w2 (w2.alloc (.map #[] 0)) := Ext.allocR _ _
    have kd := (HD2.out.below x3).cells
    have f1 := (HD2.out.below x3).free 1
    simp only [cellsAre, Nat.zero_add, Nat.reduceAdd, and_true] at kd
    have X3 := Lib.hid x3
    clear hd2 x3
    go_wp2
    go_returns
    rw [HE1.out.1, HE1.out.2]
    have B3 := (HD2.out.below X3.out).set_ 1 (.map (some w2.heap.size))
    have c3 : Chg (fun b _ => b = d) w2 ((w2.alloc (.map #[] 0)).setCell ⟨d, 1, none⟩ (.map (some w2.heap.size))) := (Chg.ext X3.out).trans (Chg.setB (HD2.out.below X3.out) rfl _ _)
    have hm0 : ((w2.alloc (.map #[] 0)).setCell ⟨d, 1, none⟩ (.map (some w2.heap.size))).ownsMap Try.prog TIN RH w2.heap.size 0 (.map []) := (World.ownsMap_made w2 _ _ _).setCell (by have := HD2.out.lt; show w2.heap.size ≠ d; omega) _
    refine ⟨rfl, ⟨_, H2.out.safe (X := fun _ _ => False) c3 hm0 (by rw [HV.out]; exact B3), fun k hk => ?_, fun b hb => ?_⟩, C2.out.trans ((Chg.ext X3.out).trans (Chg.setB (HD2.out.below X3.out) ⟨HFP.out d (Or.inl rfl), Or.inl rfl⟩ _ _))⟩
    · have hk' : k < bl.length := by unfold safeB at hk; rw [List.length_map, List.length_map] at hk; exact hk
      rw [safe_getD bl hk']
      rfl
    · rcases hb with hb | hb | hb | ⟨k, hk, hl, hb⟩
      · exact HFP.out b (Or.inl hb)
      · have hb' : b = w2.heap.size := hb
        rw [hb']
        exact HF.out _ C2.out.size
      · exact HFP.out b (Or.inr (Or.inr (Or.inl hb)))
      · exact absurd hl Bool.false_ne_true
theorem make_BB (n : Nat) (hn : n ≤ 1000000) (W : World) : (Instr.makeSlice TBB (.int .i64 (n : Int)) (.int .i64 (n : Int))).run Try.prog W = .ok (.slice (some ⟨W.heap.size, 0, none⟩) n n) (W.alloc (.cells (List.replicate n nlB).toArray TBY)) := by
  have h := run_make_row' (P := Try.prog) TBB TBY (.slice none 0 0) 24 Try.underlying66 by_info rfl .i64 .i64 n (by omega) (by omega) W
  rw [made_rep] at h
  exact h
/-- A new disk. -/
def newB (n : Nat) : List (List (List Nat)) := List.replicate n [z64]
theorem DI.made {w : World} {n : Nat} (hn : n ≤ 4096) {gb m d : Nat} {vs : Array Value} (h1 : Blk w gb TBY (List.replicate n nlB).toArray) (h2 : w.ownsMap Try.prog TIN RH m 0 (.map [])) (h3 : Blk w d TDK #[.slice (some ⟨gb, 0, none⟩) n n, .map (some m), .bool false, .int .i64 0]) :
    DI w d ⟨m, .slice (some ⟨gb, 0, none⟩) n n, List.replicate n nlB, .map [], fun _ => nlB, fun _ => [], fun _ => false⟩ (lastsB (newB n)) (newB n) false 0 := by
  have hl : (newB n).length = n := by unfold newB; rw [List.length_replicate]
  have hl2 : (lastsB (newB n)).length = n := by rw [List.length_map, hl]
  refine ⟨h3, by omega, ?_, by rw [hl, hl2], by rw [hl2]; exact hn, h2, fun k hk => Or.inl ⟨?_, ?_⟩, fun l hl => ?_, fun k hk hlo => rfl, fun k hk hlo => ?_, fun k hk => ?_, fun k hk hlo => ?_⟩
  · rw [hl2]
    exact ⟨by simp, Or.inr ⟨gb, n, _, rfl, Nat.zero_le _, h1, Nat.le_refl _, by unfold maxLen; omega, by simp, by simp⟩⟩
  · rw [hl2] at hk
    simp [List.getD, hk]
  · rw [hl2] at hk
    unfold lastsB newB
    simp [List.getD, hk]
  · exact absurd hl (by simp [Maps.has])
  · exact absurd hlo Bool.false_ne_true
  · rw [hl2] at hk
    unfold newB
    simp [List.getD, hk]
  · exact absurd hlo Bool.false_ne_true
set_option maxHeartbeats 3200000 in
set_option maxRecDepth 100000 in
theorem rnewdisk_ok {F : Nat → Prop} (n : Nat) (h8 : 8 ≤ n) (hn : n ≤ 4096) (w : World) (hF : ∀ b, w.heap.size ≤ b → F b) :
    Calls Try.prog 23 #[.int .i64 (n : Int)] w (Ret (fun v w' => ∃ d, v = .tuple #[.pointer (some ⟨d, 0, none⟩), .int .i64 0] ∧ DW F w' d (newB n) false 0) w) := by
  have p1 : ¬ (n : Int) < 8 := by omega
  have p2 : ¬ (4096 : Int) < (n : Int) := by omega
  have hmk := make_BB n (by omega)
  have hmm := @run_makeMap Try.prog
  have HF := Lib.hid hF
  clear hF
  go_enter Try.func23, Try.ntmps23
  go_wp2
  go_returns
  have e1 : (w.alloc (.cells (List.replicate n nlB).toArray TBY)).heap.size = w.heap.size + 1 := by simp
  have e2 : ((w.alloc (.cells (List.replicate n nlB).toArray TBY)).alloc (.map #[] 0)).heap.size = w.heap.size + 1 + 1 := by simp
  have hm := World.ownsMap_made (H := Value) (w.alloc (.cells (List.replicate n nlB).toArray TBY)) Try.prog TIN RH
  rw [e1] at hm
  refine ⟨_, rfl, ⟨w.heap.size + 1 + 1, rfl, ⟨_, DI.made (d := w.heap.size + 1 + 1) (vs := #[]) hn (((Blk.new_ _ _ rfl).alloc _).alloc _) (hm.alloc _) (Blk.new_ _ _ e2), fun k hk => ?_, fun b hb => ?_⟩⟩, bt (Ext.allocR w _) (bt (Ext.allocR _ _) (Ext.allocR _ _))⟩
  · have hk' : k < n := by unfold newB at hk; rw [List.length_replicate] at hk; exact hk
    have e : (newB n).getD k [] = [z64] := by unfold newB; simp [List.getD, hk']
    rw [e]
    rfl
  · refine HF.out b ?_
    rcases hb with rfl | rfl | hb | ⟨k, _, hl, _⟩
    · omega
    · show w.heap.size ≤ w.heap.size + 1; omega
    · injection hb with hb
      rw [← hb]
      exact Nat.le_refl _
    · exact absurd hl Bool.false_ne_true
end Go.Proofs.Tb
/- Contract of (*Store).free. -/
namespace Go.Proofs.Tb
open Go.Maps Go.RowKit
attribute [local go_sem] cell_set_same neqMapL

abbrev TVE : TypeId := 101
abbrev TVS : TypeId := 102
theorem ins_last (k : Nat) : ∀ L : List Nat, (∀ x ∈ L, x < k) → DataW.insert (H := Unit) (kI k, .lit (.bool true)) (entB L) = entB (L ++ [k])
  | [], _ => rfl
  | x :: L, h => by
    have hx := h x List.mem_cons_self
    have hb : (kI k).before (.int .i64 (x : Int)) = false := by
      show decide ((k : Int) < (x : Int)) = false
      exact decide_eq_false (by omega)
    show (if (kI k).before (.int .i64 (x : Int)) = true then _ else _) = _
    rw [hb, if_neg Bool.false_ne_true]
    have ih := ins_last k L fun y hy => h y (List.mem_cons_of_mem _ hy)
    exact congrArg (fun l => (Lit.int .i64 (x : Int), DataW.lit (Lit.bool true)) :: l) ih
set_option maxRecDepth 100000 in
theorem MkB.put {w : World} {b n : Nat} {L : List Nat} (h : MkB w b n L) {k : Nat} (hk : k ≤ 1000000000) (hL : ∀ x ∈ L, x < k) (hn : n ≤ 1000000) : ∃ w', (Instr.mapUpdate TMB (.map (some b)) (.int .i64 (k : Int)) (.bool true)).run Try.prog w = .ok () w' ∧ MkB w' b (n + 1) (L ++ [k]) ∧ w.grownBy w' (some b) := by
  obtain ⟨w', hrun, h2, h3⟩ := World.ownsMap.store (H := Unit) h lawI Try.underlying141 (by unfold maxLen; omega) (keyI k hk) (plainElem_bool Try.underlying4 true)
  refine ⟨w', hrun, ?_, h3.grown⟩
  have e : (DataW.map (entB L)).put (.int .i64 (k : Int)) (.lit (.bool true)) = (.map (entB (L ++ [k])) : DataW Unit) := by
    unfold DataW.put
    simp only [DataW.map.injEq]
    rw [show (entB L).filter (fun p => !p.1.sameKey (.int .i64 (k : Int))) = entB L from List.filter_eq_self.2 fun p hp => by
      obtain ⟨x, hx, rfl⟩ := List.mem_map.1 hp
      have := hL x hx
      simp [Lit.sameKey]
      omega]
    exact ins_last k L hL
  rw [e] at h2
  exact h2
/-- What stands free behind some versions. -/
def frF (B : Nat → Nat) (vs : List (Nat × MT)) (L : List Nat) : List Nat := vs.foldl (fun L v => v.2.unf B L) L
theorem unf_sub (B : Nat → Nat) : ∀ (t : MT) (L : List Nat), (t.unf B L).Sublist L
  | .nil, L => List.Sublist.refl L
  | .node g k v l r, L => by
    unfold MT.unf
    split
    · exact (unf_sub B r _).trans ((unf_sub B l _).trans List.filter_sublist)
    · exact List.Sublist.refl L
theorem frF_sub (B : Nat → Nat) : ∀ (vs : List (Nat × MT)) (L : List Nat), (frF B vs L).Sublist L
  | [], L => List.Sublist.refl L
  | v :: vs, L => (frF_sub B vs (v.2.unf B L)).trans (unf_sub B v.2 L)
theorem frF_take {B : Nat → Nat} {vs : List (Nat × MT)} {L : List Nat} {i : Nat} (hi : i < vs.length) : frF B (vs.take (i + 1)) L = (vs[i]).2.unf B (frF B (vs.take i) L) := by
  rw [List.take_succ_eq_append_getElem hi]
  unfold frF
  rw [List.foldl_append]
  rfl
/-- Blocks from 2 on. -/
def upB (j : Nat) : List Nat := List.range' 2 j
theorem upB_lt {j x : Nat} (h : x ∈ upB j) : x < 2 + j := by
  unfold upB at h
  have := List.mem_range'_1.1 h
  omega
theorem upB_succ (j : Nat) : upB (j + 1) = upB j ++ [2 + j] := by
  unfold upB
  rw [List.range'_concat]
  simp
theorem upB_pair (j : Nat) : (upB j).Pairwise (· < ·) := by unfold upB; exact List.pairwise_lt_range'
/-- The cells of versions. -/
def vc (vs : List (Nat × MT)) : List Value := (vs.map fun v => [Value.int .i64 (v.1 : Int), .pointer v.2.ad]).flatten
theorem vc_len : ∀ vs : List (Nat × MT), (vc vs).length = vs.length * 2
  | [] => rfl
  | v :: vs => by
    have := vc_len vs
    unfold vc at this ⊢
    simp only [List.map_cons, List.flatten_cons, List.length_append, List.length_cons, List.length_nil]
    omega
theorem vc_at : ∀ (vs : List (Nat × MT)) (i : Nat) (hi : i < vs.length), (vc vs)[i * 2]? = some (.int .i64 ((vs[i]).1 : Int)) ∧ (vc vs)[i * 2 + 1]? = some (.pointer (vs[i]).2.ad)
  | v :: vs, 0, _ => ⟨rfl, rfl⟩
  | v :: vs, i + 1, hi => by
    have := vc_at vs i (by simpa using hi)
    have e : vc (v :: vs) = .int .i64 (v.1 : Int) :: .pointer v.2.ad :: vc vs := rfl
    rw [e, show (i + 1) * 2 = i * 2 + 1 + 1 by omega, show i * 2 + 1 + 1 + 1 = (i * 2 + 1) + 1 + 1 by omega]
    simp only [List.getElem?_cons_succ, List.getElem_cons_succ]
    exact this
theorem MkB.ext {w w' : World} {b n : Nat} {L : List Nat} (h : MkB w b n L) (hx : Ext w w') : MkB w' b n L := World.ownsMap.kept h (row := none) ⟨hx.os, hx.tape, hx.output, hx.size, fun k hk _ => hx.block k hk⟩ (by simp)
theorem ext_grow {w w1 w2 : World} {b : Nat} (h : Ext w w1) (hg : w1.grownBy w2 (some b)) (hb : w.heap.size ≤ b) : Ext w w2 :=
  Below.trans h ⟨hg.os, hg.tape, hg.output, hg.size, fun k hk => hg.block k (by have := Ext.size h; omega) (fun e => by injection e with e; omega)⟩
set_option maxHeartbeats 6400000 in
set_option maxRecDepth 100000 in
theorem rfree_any (B : Nat → Nat) (Q : Nat → Prop) (hB : ∀ g, B g ≤ 1000000) (s d : Nat) (keep : Int) (A A' : Option Addr) (m c n c' mm : Nat) (br down : Bool) (left : Nat) (vs : List (Nat × MT)) (w : World)
    (hs : Blk w s TSE #[.pointer (some ⟨d, 0, none⟩), .int .i64 keep, .slice A m c, .bool br]) (hv : Rv w 2 A m c (vc vs)) (ht : ∀ v ∈ vs, TrW w B Q v.2) (hd : Blk w d TDK #[.slice A' n c', .map (some mm), .bool down, .int .i64 (left : Int)]) (hn : 2 ≤ n) (hn2 : n ≤ 4096) (hm : m ≤ 1000) :
    Calls Try.prog 52 #[.pointer (some ⟨s, 0, none⟩)] w (Ret (fun v w' => w'.ownsRow w.heap.size TIN 1 v (frF B vs (upB (n - 2))).length (ri (frF B vs (upB (n - 2))))) w) := by
  have hml : vs.length = m := by have := hv.len; rw [vc_len] at this; omega
  have hle := hv.le
  have hcp := hv.cap
  have HS := Lib.hid hs
  have HV := Lib.hid hv
  have HT := Lib.hid ht
  have HD := Lib.hid hd
  have HML := Lib.hid hml
  have hmm := @run_makeMap Try.prog
  clear hs hv ht hd hml
  go_enter Try.func52, Try.ntmps52
  go_wp2_with fail
  obtain ⟨M, hM⟩ : ∃ M, w.heap.size = M := ⟨_, rfl⟩
  have hm0 : MkB (w.alloc (.map #[] 0)) M 0 (upB 0) := by rw [← hM]; exact World.ownsMap_made _ _ _ _
  have H0 := Lib.hid (And.intro hm0 (Ext.allocR w (.map #[] 0)))
  rw [hM]
  have HM := Lib.hid hM
  clear hm0 hM hmm
  go_loopw [4] (fun i wr => ∃ j : Nat, 2 + j ≤ n ∧ i = .int .i64 ((2 + j : Nat) : Int) ∧ MkB wr M j (upB j) ∧ Ext w wr) (fun i _ => n - (intOf i).toNat)
  case atStart => exact ⟨0, by omega, rfl, H0.out⟩
  case round =>
    clear H0
    obtain ⟨j, hj, rfl, hmk, hx⟩ := hrel
    have HX := Lib.hid hx
    have HK := Lib.hid hmk
    have ks := (HS.out.below hx).cells
    simp only [cellsAre, Nat.zero_add, Nat.reduceAdd, and_true] at ks
    clear hmk hx
    obtain ⟨i, hi⟩ : ∃ i, 2 + j = i := ⟨_, rfl⟩
    rw [hi] at hj ⊢
    have HI := Lib.hid hi
    clear hi
    go_wp2_with fail
    refine (rblocks_any d mm A' n c' down left wr (HD.out.below HX.out) (by omega)).mono ?_
    rintro e w1 ⟨z1, rfl, rfl, b1⟩
    have X1 := Lib.hid (show Ext wr w1 from b1)
    have hk1 : MkB w1 M j (upB j) := World.ownsMap.kept HK.out (row := none) ⟨b1.os, b1.tape, b1.output, b1.size, fun k hk _ => b1.block k hk⟩ (by simp)
    have K1 := Lib.hid hk1
    clear b1 hk1 HK ks
    by_cases hin : i < n
    · have pj : (i : Int) < (n : Int) := by omega
      obtain ⟨w2, hupd, hk2, hg2⟩ := K1.out.put (k := i) (by omega) (fun x hx => by have := upB_lt hx; have := HI.out; omega) (by have := HI.out; omega)
      have hX2 : Ext w w2 := (Below.trans (bt HX.out X1.out) ⟨hg2.os, hg2.tape, hg2.output, hg2.size, fun k hk => hg2.block k (by have := Ext.size (bt HX.out X1.out); omega) (fun e => by injection e with e; have := HM.out; omega)⟩)
      have HZ := Lib.hid (And.intro (show MkB w2 M (j + 1) (upB (j + 1)) by rw [upB_succ, HI.out]; exact hk2) hX2)
      clear hk2 hg2 hX2
      go_wp2
      go_roundw
      case rel => exact ⟨j + 1, by have := HI.out; omega, by have := HI.out; go_num, HZ.out⟩
      case measure => simp [intOf]; omega
    · obtain rfl : i = n := by omega
      have hjn : i - 2 = j := by have := HI.out; omega
      have HJ := Lib.hid hjn
      have ks1 := (HS.out.below (bt HX.out X1.out)).cells
      simp only [cellsAre, Nat.zero_add, Nat.reduceAdd, and_true] at ks1
      clear hjn
      have HZ0 := Lib.hid (And.intro K1.out (bt HX.out X1.out))
      go_wp2_with fail
      go_loopw [24] (fun q wr => ∃ j : Nat, j ≤ m ∧ q = .int .i64 (j : Int) ∧ MkB wr M (i - 2) (frF B (vs.take j) (upB (i - 2))) ∧ Ext w wr) (fun q _ => m - (intOf q).toNat)
      case atStart => exact ⟨0, by omega, rfl, by rw [HJ.out, List.take_zero]; exact HZ0.out.1, HZ0.out.2⟩
      case round =>
        clear HZ0 ks1
        obtain ⟨q, hq, rfl, hmk, hx⟩ := hrel
        have HX2 := Lib.hid hx
        have HK2 := Lib.hid hmk
        clear hmk
        by_cases hqm : q < m
        · have pq : (q : Int) < (m : Int) := by omega
          obtain ⟨b, o, rfl, hc⟩ := (HV.out.below hx).at_ (by omega)
          have hqv : q < vs.length := by rw [HML.out]; exact hqm
          obtain ⟨c1, c2⟩ := vc_at vs q hqv
          have k1 := hc _ _ c1
          have k2 := hc _ _ c2
          rw [← Nat.add_assoc] at k2
          have ht := HT.out _ (List.getElem_mem hqv)
          have HN := Lib.hid (frF_take (B := B) (L := upB (i - 2)) hqv)
          obtain ⟨v, hv⟩ : ∃ v, vs[q] = v := ⟨_, rfl⟩
          rw [hv] at k1 k2 ht HN
          have T2 := Lib.hid (ht.below hx)
          obtain ⟨v1, v2⟩ := v
          clear hc c1 c2 ht hv hx hqv
          go_wp2_with fail
          have xa : Ext wr (wr.alloc (.cells #[.int .i64 (v1 : Int), .pointer v2.ad] TVE)) := Ext.allocR _ _
          have HXA := Lib.hid (bt HX2.out xa)
          refine (runfree_any B Q hB M (i - 2) v2 (frF B (List.take q vs) (upB (i - 2))) _ (T2.out.below xa) (HK2.out.ext xa)).mono ?_
          rintro e w3 ⟨⟨z3, rfl⟩, hm3, hg3⟩
          have HZ := Lib.hid (And.intro (show MkB w3 M (i - 2) (frF B (vs.take (q + 1)) (upB (i - 2))) by rw [HN.out]; exact hm3) (ext_grow HXA.out hg3 (by rw [HM.out]; exact Nat.le_refl _)))
          clear xa hm3 hg3 k1 k2
          go_wp2
          go_roundw
          case rel => exact ⟨q + 1, by omega, by go_num, HZ.out⟩
          case measure => simp [intOf]; omega
        · obtain rfl : q = m := by omega
          have HK3 := Lib.hid (show MkB wr M (i - 2) (frF B vs (upB (i - 2))) by
            have h := HK2.out
            rw [List.take_of_length_le (by rw [HML.out]; exact Nat.le_refl _)] at h
            exact h)
          have HLE := Lib.hid (show (frF B vs (upB (i - 2))).length ≤ 1000000 by
            have h := (frF_sub B vs (upB (i - 2))).length_le
            unfold upB at h ⊢
            rw [List.length_range'] at h
            omega)
          clear hx
          go_wp2_with fail
          refine (rkeysB_any M wr).mono ?_
          rintro e w3 ⟨z3, rfl, ⟨rfl, hb3, hx3⟩, b3⟩
          have HB3 := Lib.hid hb3
          have HX3 := Lib.hid hx3
          clear hb3 hx3 b3
          go_wp2_with fail
          refine (rsortedB_any wr.heap.size M (i - 2) (frF B vs (upB (i - 2))) w3 HB3.out (HK3.out.ext HX3.out) ((upB_pair _).sublist (frF_sub B vs _)) HLE.out).mono ?_
          rintro e w4 ⟨z4, rfl, ho4, b4⟩
          have HZ := Lib.hid (And.intro (own_lower ho4 (Ext.size (bt HX2.out HX3.out))) (bt HX2.out (bt HX3.out b4)))
          obtain ⟨A4, c4, hz4, _⟩ := own_rv ho4
          obtain ⟨q4, hq4⟩ : ∃ q4, (frF B vs (upB (i - 2))).length = q4 := ⟨_, rfl⟩
          rw [hq4] at hz4
          subst hz4
          clear ho4 b4 hq4
          go_wp2
          go_returns
          exact ⟨_, rfl, HZ.out.1, HZ.out.2⟩
end Go.Proofs.Tb
