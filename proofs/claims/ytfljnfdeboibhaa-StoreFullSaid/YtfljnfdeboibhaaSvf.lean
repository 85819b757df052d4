/- Contract of (*Store).anchor. -/
import Derived.Test.YtfljnfdeboibhaaSve
set_option linter.unusedVariables false
set_option linter.unusedSimpArgs false
namespace Go.Proofs.Tb
open Go.Maps Go.RowKit
attribute [local go_sem] cell_set_same neqMapL

abbrev TIS : TypeId := 109
theorem in_info : (Try.prog.info? TIN).map (fun i => (i.zero, i.size, i.bytes)) = some (some (.int .i64 0), 1, 8) := by kernel_rfl
theorem ri_app (a b : List Nat) : ri (a ++ b) = ri a ++ ri b := List.map_append
/-- The blocks of the roots. -/
def rtB (B : Nat → Nat) (vs : List (Nat × MT)) : List Nat := vs.map fun v => v.2.bk B
structure AncE (F : Nat → Prop) (w w' : World) (d : Nat) (r : Dst) : Prop where
  dk : DW F w' d r.bl r.dn r.lf
  ch : Chg (MF F) w w'
/-- Where anchor stands. -/
structure AncS (w W : World) (H keep num : Nat) (j : Nat) (A : Option Addr) (c : Nat) (rs : List Nat) : Prop where
  hd : Blk W H THD #[.int .i64 (keep : Int), .int .i64 (num : Int), .slice A j c]
  ow : W.ownsRow w.heap.size TIN 1 (.slice A j c) j (ri rs)
  ln : rs.length = j
  ex : Ext w W
  ge : w.heap.size ≤ H
theorem AncS.alloc {w W : World} {H keep num j : Nat} {A : Option Addr} {c : Nat} {rs : List Nat} (h : AncS w W H keep num j A c rs) (o : Obj) : AncS w (W.alloc o) H keep num j A c rs :=
  ⟨h.hd.alloc _, own_below h.ow (Ext.allocR W o), h.ln, bt h.ex (Ext.allocR W o), h.ge⟩
theorem AncS.app {w W w6 : World} {H keep num j : Nat} {A A6 : Option Addr} {c c6 : Nat} {rs : List Nat} (h : AncS w W H keep num j A c rs) {y : Nat} (ho : w6.ownsRow w.heap.size TIN 1 (.slice A6 (j + 1) c6) (j + 1) (ri rs ++ [.int .i64 (y : Int)]))
    (hg : W.grownBy w6 (Value.slice A j c).ownBlock) (hb : Below w.heap.size W w6) : Blk w6 H THD #[.int .i64 (keep : Int), .int .i64 (num : Int), .slice A j c] ∧ AncS w (w6.setCell ⟨H, 2, none⟩ (.slice A6 (j + 1) c6)) H keep num (j + 1) A6 c6 (rs ++ [y]) := by
  have h1 : Blk w6 H THD #[.int .i64 (keep : Int), .int .i64 (num : Int), .slice A j c] := (hg.block H h.hd.lt (fun e => own_tag h.ow (show TIN ≠ THD by decide) H e.symm _ _ h.hd)).trans h.hd
  refine ⟨h1, h1.set_ 2 _, ?_, by rw [List.length_append, h.ln]; rfl, (Below.trans h.ex hb).setCell (p := ⟨H, 2, none⟩) h.ge _, h.ge⟩
  rw [ri_app]
  exact own_far ho (p := ⟨H, 2, none⟩) h1 (by decide) _
theorem ext_cell {w w' : World} (hh : Ext w w') {p : Addr} {v : Value} (hc : w.cell? p = some v) : w'.cell? p = some v := (Below.cell hh (World.block_lt_of_cell? w _ hc)).trans hc
theorem bk_le {B : Nat → Nat} {m : Nat} (hB : ∀ g, B g ≤ m) (t : MT) : t.bk B ≤ m := by
  cases t with
  | nil => exact Nat.zero_le _
  | node g k v l r => exact hB g
set_option maxHeartbeats 6400000 in
set_option maxRecDepth 100000 in
theorem ranchor_any {F : Nat → Prop} (s d keep : Nat) (A0 : Option Addr) (m0 c0 : Nat) (br : Bool) (B : Nat → Nat) (Q : Nat → Prop) (vs : List (Nat × MT)) (bl : List (List (List Nat))) (left : Nat) (w : World)
    (hs : Blk w s TSE #[.pointer (some ⟨d, 0, none⟩), .int .i64 (keep : Int), .slice A0 m0 c0, .bool br]) (hd : DW F w d bl false left) (hF : ∀ b, w.heap.size ≤ b → F b) (hFs : ¬ F s)
    (A : Option Addr) (m c : Nat) (hv : Rv w 2 A m c (vc vs)) (hm1 : 1 ≤ m) (hm2 : m ≤ 20) (num : Nat) (t0 : MT) (h0 : vs[0]? = some (num, t0)) (hnl : num ≤ 1000000000)
    (ht : ∀ v ∈ vs, TrW w B Q v.2) (hB : ∀ g, B g ≤ 4096) (hk : keep ≤ 1000) (h2 : 2 ≤ bl.length) (hfew : ∀ k, (bl.getD k []).length ≤ 100000) (r : Dst) (hr : wrA [(num % 2, blkB (rootB keep num (rtB B vs)))] bl left = r) :
    Calls Try.prog 55 #[.pointer (some ⟨s, 0, none⟩), .slice A m c] w fun e w' => e = .returned (.int .i64 (erD r)) ∧ AncE F w w' d r := by
  have hml : vs.length = m := by have := hv.len; rw [vc_len] at this; omega
  have hm0 : 0 < m := hm1
  have hle := hv.le
  have hcp := hv.cap
  have HV := Lib.hid hv
  have HS := Lib.hid hs
  have HD := Lib.hid hd
  have HF := Lib.hid hF
  have HFS := Lib.hid hFs
  have HML := Lib.hid hml
  have HT := Lib.hid ht
  have HB := Lib.hid hB
  have H2 := Lib.hid h2
  have HFW := Lib.hid hfew
  have HR := Lib.hid hr
  obtain ⟨b, o, rfl, hc⟩ := hv.at_ hm1
  have k0 := hc 0 (.int .i64 (num : Int)) (by
    obtain ⟨q1, _⟩ := vc_at vs 0 (by omega)
    have e : vs[0] = (num, t0) := by
      have := List.getElem?_eq_getElem (l := vs) (i := 0) (by omega)
      rw [h0] at this
      injection this with this
      exact this.symm
    rw [e] at q1
    exact q1)
  rw [Nat.add_zero] at k0
  have kk := fun w' (hh : Ext w w') => ext_cell hh k0
  have ks := fun w' (hh : Ext w w') => (HS.out.below hh).cells
  simp only [cellsAre, Nat.zero_add, Nat.reduceAdd, and_true] at ks
  have hst : Ext w w.drew := Ext.drew _
  clear hv hs hd hF hFs hml ht hB h2 hfew hr h0 hc k0
  go_enter Try.func55, Try.ntmps55
  go_upto_region 1 with fail
  refine wp_region_adv 10 [⟨9, 5, THD, #[.int .i64 0, .int .i64 0, .slice none 0 0]⟩] [(0, true, some 10, none), (1, true, some 11, none), (2, true, some 12, none), (3, true, some 13, none), (4, true, some 14, none), (5, true, some 15, none), (6, true, some 16, none), (7, true, some 17, none), (8, true, some 18, none)] (by kernel_rfl) (by kernel_rfl) (by kernel_rfl) (by intro it hit; (repeat (rcases List.mem_cons.1 hit with rfl | hit; (focus (intro o ho ev w; injection ho with ho; subst ho; kernel_rfl)))); cases hit) (fun _ _ _ _ _ => ⟨fun h => h, fun h => h⟩) hst ?_
  repeat (first | (refine wpSeq_pure (v := ?_) rfl ?_ ?_; rotate_left 1; (focus (intro wq_ hSq_; (try dsimp only at hSq_); go_simp; (try with_reducible rfl); done)); (try simp only [Act.put, List.setIfInBounds_toArray, List.set_cons_zero, List.set_cons_succ])) | (refine wpSeq_pureG (v := ?_) rfl rfl ?_ ?_; rotate_left 1; (focus (intro wq_ hSq_; (try dsimp only at hSq_); go_simp; (try with_reducible rfl); done)); (try simp only [Act.put, List.setIfInBounds_toArray, List.set_cons_zero, List.set_cons_succ])) | (refine wpSeq_off rfl rfl ?_; (try simp only [Act.put, List.setIfInBounds_toArray, List.set_cons_zero, List.set_cons_succ])) | (refine wpSeq_offU rfl ?_; (try simp only [Act.put, List.setIfInBounds_toArray, List.set_cons_zero, List.set_cons_succ])))
  intro wz gz sz_
  (try simp only [endJ, List.drop_succ_cons, List.drop_zero])
  intro R1 hr1 hu_ hB1
  (try simp only [endJ, Act.put, ptr, List.setIfInBounds_toArray, List.set_cons_zero, List.set_cons_succ])
  clear hu_
  have kR := hB1.cells
  have kf := hB1.free
  simp only [cellsAre, Nat.zero_add, Nat.reduceAdd, and_true] at kR
  have HB1 := Lib.hid hB1
  have SZ := Lib.hid sz_
  have HR1 := Lib.hid hr1
  clear kk ks hst gz sz_ hB1 hr1
  go_upto_region 2 with fail
  refine wp_world (fun W => AncS w W R1 keep num 0 none 0 []) ⟨((HB1.out.set_ 0 _).set_ 1 _).set_ 2 _, World.ownsRow_nil _ _ _ _, rfl, ((SZ.out.setCell (p := ⟨R1, 0, none⟩) HR1.out _).setCell (p := ⟨R1, 1, none⟩) HR1.out _).setCell (p := ⟨R1, 2, none⟩) HR1.out _, HR1.out⟩ ?_
  clear kR kf HB1 SZ HR1
  rintro W0 hw0
  have HW0 := Lib.hid hw0
  clear hw0
  go_wp2_with fail
  go_loopw [21] (fun i wr => ∃ (j : Nat) (A5 : Option Addr) (c5 : Nat), j ≤ m ∧ i = .int .i64 (j : Int) ∧ AncS w wr R1 keep num j A5 c5 ((rtB B vs).take j)) (fun i _ => m - (intOf i).toNat)
  case atStart => exact ⟨0, none, 0, by omega, rfl, HW0.out⟩
  case round =>
    clear HW0
    obtain ⟨j, A5, c5, hj, rfl, hw⟩ := hrel
    have HW := Lib.hid hw
    by_cases hjm : j < m
    · have pj : (j : Int) < (m : Int) := by omega
      have hjv : j < vs.length := by rw [HML.out]; exact hjm
      obtain ⟨b', o', hbo, hc⟩ := (HV.out.below hw.ex).at_ (by omega)
      injection hbo with hbo
      injection hbo with hbo hoo
      subst hbo hoo
      obtain ⟨c1, c2⟩ := vc_at vs j hjv
      have k1 := hc _ _ c1
      have k2 := hc _ _ c2
      rw [← Nat.add_assoc] at k2
      have ht := (HT.out _ (List.getElem_mem hjv)).below hw.ex
      have HN := Lib.hid (show (rtB B vs).take (j + 1) = (rtB B vs).take j ++ [(vs[j]).2.bk B] by
        unfold rtB
        rw [List.take_succ_eq_append_getElem (by rw [List.length_map]; exact hjv), List.getElem_map])
      obtain ⟨v, hv⟩ : ∃ v, vs[j] = v := ⟨_, rfl⟩
      rw [hv] at k1 k2 ht HN
      obtain ⟨v1, v2⟩ := v
      clear hc c1 c2 hv hjv hw
      cases v2 with
      | nil =>
        have k2' : wr.cell? ⟨b, o + j * 2 + 1, none⟩ = some (.pointer none) := k2
        have HN2 := Lib.hid (show (rtB B vs).take (j + 1) = (rtB B vs).take j ++ [0] from HN.out)
        clear k2 ht HN
        go_upto_region 8 with fail
        refine wp_world (fun W => AncS w W R1 keep num j A5 c5 ((rtB B vs).take j)) (HW.out.alloc _) ?_
        clear k1
        rintro W1 hw1
        have kR := hw1.hd.cells
        have fR := hw1.hd.free 2
        have hRl := hw1.hd.lt
        have hge := hw1.ge
        have HW1 := Lib.hid hw1
        have hsz1 := Ext.size hw1.ex
        simp only [cellsAre, Nat.zero_add, Nat.reduceAdd, and_true] at kR
        clear hw1
        go_wp2_with (at_builtin; refine wpl_appR TIS TIN (.int .i64 0) 1 8 in_info Try.underlying109 rfl (by omega) (by omega) rfl _ _ rfl w.heap.size (.slice A5 j c5) j (ri ((rtB B vs).take j)) rfl (HW1.out.alloc (.cells #[.int .i64 ((0 : Nat) : Int)] TIN)).ow (some ⟨W1.heap.size, 0, none⟩) 1 1 [.int .i64 ((0 : Nat) : Int)] rfl (rv_lit TIN 1 #[.int .i64 ((0 : Nat) : Int)] 1 (by omega) rfl) (fun u hu => by rw [List.mem_singleton.1 hu]; rfl) (by omega) (by omega) (by simp; omega) ?_; intro v6 w6 o6 g6 b6; obtain ⟨A6, c6, ev, _⟩ := own_rv o6; subst ev; have hap := (HW1.out.alloc (.cells #[.int .i64 ((0 : Nat) : Int)] TIN)).app o6 g6 b6; have k6 := hap.1.cells; have f6 := hap.1.free 2; have HAP := Lib.hid hap.2; simp only [cellsAre, Nat.zero_add, Nat.reduceAdd, and_true] at k6; clear o6 g6 b6 hap)
        go_roundw
        case rel => exact ⟨j + 1, A6, c6, by omega, by go_num, by rw [HN2.out]; exact HAP.out⟩
        case measure => simp [intOf]; omega
      | node gc kc vc lc rc =>
        rw [MT.ad_node] at k2
        have cc := ht.1.cells
        have hgc := ht.1.lt
        simp only [cellsAre, Nat.zero_add, Nat.reduceAdd, and_true] at cc
        have HN2 := Lib.hid (show (rtB B vs).take (j + 1) = (rtB B vs).take j ++ [B gc] from HN.out)
        clear ht HN
        go_upto_region 8 with fail
        refine wp_world (fun W => AncS w W R1 keep num j A5 c5 ((rtB B vs).take j)) (HW.out.alloc _) ?_
        clear k1
        rintro W1 hw1
        have kR := hw1.hd.cells
        have fR := hw1.hd.free 2
        have hRl := hw1.hd.lt
        have hge := hw1.ge
        have HW1 := Lib.hid hw1
        have hsz1 := Ext.size hw1.ex
        simp only [cellsAre, Nat.zero_add, Nat.reduceAdd, and_true] at kR
        clear hw1
        go_wp2_with (at_builtin; refine wpl_appR TIS TIN (.int .i64 0) 1 8 in_info Try.underlying109 rfl (by omega) (by omega) rfl _ _ rfl w.heap.size (.slice A5 j c5) j (ri ((rtB B vs).take j)) rfl (HW1.out.alloc (.cells #[.int .i64 (((B gc) : Nat) : Int)] TIN)).ow (some ⟨W1.heap.size, 0, none⟩) 1 1 [.int .i64 (((B gc) : Nat) : Int)] rfl (rv_lit TIN 1 #[.int .i64 (((B gc) : Nat) : Int)] 1 (by omega) rfl) (fun u hu => by rw [List.mem_singleton.1 hu]; rfl) (by omega) (by omega) (by simp; omega) ?_; intro v6 w6 o6 g6 b6; obtain ⟨A6, c6, ev, _⟩ := own_rv o6; subst ev; have hap := (HW1.out.alloc (.cells #[.int .i64 (((B gc) : Nat) : Int)] TIN)).app o6 g6 b6; have k6 := hap.1.cells; have f6 := hap.1.free 2; have HAP := Lib.hid hap.2; simp only [cellsAre, Nat.zero_add, Nat.reduceAdd, and_true] at k6; clear o6 g6 b6 hap)
        go_roundw
        case rel => exact ⟨j + 1, A6, c6, by omega, by go_num, by rw [HN2.out]; exact HAP.out⟩
        case measure => simp [intOf]; omega
    · obtain rfl : j = m := by omega
      have HWE := Lib.hid (show AncS w wr R1 keep num j A5 c5 (rtB B vs) by
        have h := hw
        rw [List.take_of_length_le (by unfold rtB; rw [List.length_map, HML.out]; exact Nat.le_refl _)] at h
        exact h)
      have kh := fun w' (hh : Ext wr w') => (HWE.out.hd.below hh).cells
      have ks := fun w' (hh : Ext wr w') => (HS.out.below (bt HWE.out.ex hh)).cells
      simp only [cellsAre, Nat.zero_add, Nat.reduceAdd, and_true] at ks kh
      have hst : Ext wr wr.drew := Ext.drew _
      obtain ⟨p, hp⟩ : ∃ p, num % 2 = p := ⟨_, rfl⟩
      have hp2 : p < 2 := by omega
      have hm1' : (num : Int) % 2 = (p : Int) := by omega
      have hm2' : (num : Int).tmod 2 = (p : Int) := by rw [Int.tmod_eq_emod_of_nonneg (by omega)]; omega
      have HP := Lib.hid hp
      obtain ⟨bs, hbs⟩ : ∃ bs, blkB (rootB keep num (rtB B vs)) = bs := ⟨_, rfl⟩
      have HBS := Lib.hid hbs
      clear hw hp hbs
      go_upto_region 10 with fail
      refine wp_region_adv 9 [] [(0, true, some 40, none), (1, true, some 41, none), (2, true, some 42, none), (3, true, some 43, none), (4, true, some 44, none), (5, true, some 45, none), (6, true, some 46, none), (7, true, some 47, none), (8, false, some 48, none)] (by kernel_rfl) (by kernel_rfl) (by kernel_rfl) (by intro it hit; (repeat (rcases List.mem_cons.1 hit with rfl | hit; (focus (intro o ho ev w; injection ho with ho; subst ho; kernel_rfl)))); cases hit) (fun _ _ _ _ _ => ⟨fun h => h, fun h => h⟩) hst ?_
      repeat (first | (refine wpSeq_pure (v := ?_) rfl ?_ ?_; rotate_left 1; (focus (intro wq_ hSq_; (try dsimp only at hSq_); go_simp; (try with_reducible rfl); done)); (try simp only [Act.put, List.setIfInBounds_toArray, List.set_cons_zero, List.set_cons_succ])) | (refine wpSeq_pureG (v := ?_) rfl rfl ?_ ?_; rotate_left 1; (focus (intro wq_ hSq_; (try dsimp only at hSq_); go_simp; (try with_reducible rfl); done)); (try simp only [Act.put, List.setIfInBounds_toArray, List.set_cons_zero, List.set_cons_succ])) | (refine wpSeq_off rfl rfl ?_; (try simp only [Act.put, List.setIfInBounds_toArray, List.set_cons_zero, List.set_cons_succ])) | (refine wpSeq_offU rfl ?_; (try simp only [Act.put, List.setIfInBounds_toArray, List.set_cons_zero, List.set_cons_succ])))
      first | refine wpSeq_call rfl (fun u1 g1 s1 K hK => ?_) | refine wpSeq_callG rfl rfl (fun u1 g1 s1 K hK => ?_)
      go_simp
      refine (rhead_any keep num A5 j c5 (rtB B vs) u1 (own_rvv (own_below HWE.out.ow s1)) hk (by omega) (by omega) (fun x hx => by
        unfold rtB at hx
        obtain ⟨v, _, rfl⟩ := List.mem_map.1 hx
        exact Nat.le_trans (bk_le HB.out _) (by omega))).mono ?_
      rintro e y1 ⟨z1, rfl, ⟨A1, c1, rfl, ho1⟩, b1⟩
      rw [HBS.out] at ho1
      (try go_wp2_with fail)
      refine hK.out _ _ b1 ?_
      clear hK K
      (try simp only [Act.put, List.setIfInBounds_toArray, List.set_cons_zero, List.set_cons_succ])
      repeat (first | (refine wpSeq_pure (v := ?_) rfl ?_ ?_; rotate_left 1; (focus (intro wq_ hSq_; (try dsimp only at hSq_); go_simp; (try with_reducible rfl); done)); (try simp only [Act.put, List.setIfInBounds_toArray, List.set_cons_zero, List.set_cons_succ])) | (refine wpSeq_pureG (v := ?_) rfl rfl ?_ ?_; rotate_left 1; (focus (intro wq_ hSq_; (try dsimp only at hSq_); go_simp; (try with_reducible rfl); done)); (try simp only [Act.put, List.setIfInBounds_toArray, List.set_cons_zero, List.set_cons_succ])) | (refine wpSeq_off rfl rfl ?_; (try simp only [Act.put, List.setIfInBounds_toArray, List.set_cons_zero, List.set_cons_succ])) | (refine wpSeq_offU rfl ?_; (try simp only [Act.put, List.setIfInBounds_toArray, List.set_cons_zero, List.set_cons_succ])))
      intro wz gz sz_
      (try simp only [endJ, List.drop_succ_cons, List.drop_zero])
      have HD5 := Lib.hid (HD.out.ext (bt HWE.out.ex sz_))
      have HO5 := Lib.hid (own_lower (own_below ho1 gz) (Nat.zero_le _))
      have HX5 := Lib.hid (bt HWE.out.ex sz_)
      clear ks kh hst s1 g1 b1 ho1 gz sz_ HW HWE hm1' hm2'
      obtain ⟨dn, hdn⟩ : ∃ dn, decide (left = 1) = dn := ⟨_, rfl⟩
      obtain ⟨er, her⟩ : ∃ er : Int, (if left = 1 then (9 : Int) else 0) = er := ⟨_, rfl⟩
      have HDN := Lib.hid hdn
      have HER := Lib.hid her
      clear hdn her
      go_wp2_with fail
      refine (rwrite_ok HD5.out (fun b hb => HF.out b (Nat.le_trans (Ext.size HX5.out) hb)) (k := p) (by have := H2.out; omega) HO5.out (by have := HFW.out p; omega)).mono ?_
      rintro e w5 ⟨rfl, hd5, hc5⟩
      rw [HDN.out] at hd5
      rw [HER.out]
      have HD6 := Lib.hid (show DW F w5 d (putB bl (p, bs)) dn (left - 1) from hd5)
      have HC6 := Lib.hid ((Chg.ext HX5.out).trans hc5)
      clear hd5 hc5
      by_cases hl1 : left = 1
      · have e1 : er = 9 := by rw [← HER.out, if_pos hl1]
        have e2 : dn = true := by rw [← HDN.out, decide_eq_true hl1]
        have HEQ2 := Lib.hid (show r = ⟨putB bl (p, bs), true, 0⟩ by rw [← HR.out, HBS.out, HP.out]; unfold wrA; rw [if_pos hl1])
        subst e1 e2 hl1
        go_wp2
        go_returns
        rw [HEQ2.out]
        exact ⟨rfl, HD6.out, HC6.out⟩
      · have e1 : er = 0 := by rw [← HER.out, if_neg hl1]
        have e2 : dn = false := by rw [← HDN.out, decide_eq_false hl1]
        obtain ⟨lf, hlf⟩ : ∃ lf, left - 1 = lf := ⟨_, rfl⟩
        have HEQ2 := Lib.hid (show r = ⟨if lf = 1 then putB bl (p, bs) else safeB (putB bl (p, bs)), decide (lf = 1), lf - 1⟩ by
          rw [← HR.out, HBS.out, HP.out, ← hlf]
          show (if left = 1 then _ else _) = _
          rw [if_neg hl1]
          rfl)
        subst e1 e2
        rw [hlf] at HD6
        have ks := (HC6.out.blk HS.out (fun hX => HFS.out hX.1)).cells
        simp only [cellsAre, Nat.zero_add, Nat.reduceAdd, and_true] at ks
        clear hl1 hlf
        go_wp2_with fail
        refine (rsync_ok HD6.out (fun b hb => HF.out b (Nat.le_trans HC6.out.size hb))).mono ?_
        rintro e w7 ⟨rfl, hd7, hc7⟩
        have HZ := Lib.hid (And.intro hd7 (HC6.out.trans hc7))
        clear hd7 hc7
        obtain ⟨er, her⟩ : ∃ er : Int, (if lf = 1 then (9 : Int) else 0) = er := ⟨_, rfl⟩
        have HER2 := Lib.hid her
        rw [her]
        clear her
        go_wp2
        go_returns
        rw [HEQ2.out]
        exact ⟨by rw [← HER2.out]; unfold erD; by_cases hl1 : lf = 1 <;> simp [hl1], HZ.out.1, HZ.out.2⟩
end Go.Proofs.Tb
