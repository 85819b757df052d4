/- Contract of the law's crashed: a store that went down in a Commit, started again and opened. -/
import Derived.Test.YtfljnfdeboibhaaGreatRoi
set_option linter.unusedVariables false
set_option linter.unusedSimpArgs false
namespace Go.Proofs.Tb
open Go.Maps Go.RowKit Go.Lib
attribute [local go_sem] cell_set_same neqMapL

theorem STl.imp {F G : Nat → Prop} {w : World} {s d keep n left : Nat} {Vs : List (List Pr)} (h : STl F w s d keep n Vs left) (hFG : ∀ b, F b → G b) : STl G w s d keep n Vs left := by
  obtain ⟨vs, B, bl, g1, g2⟩ := h
  exact ⟨vs, B, bl, ⟨g1.se, g1.dk.imp hFG, hFG _ g1.fs, g1.tr, g1.bz, g1.bm⟩, g2⟩
set_option maxHeartbeats 3200000 in
set_option maxRecDepth 100000 in
theorem rdown_at (d m : Nat) (v : Value) (down : Bool) (left : Nat) (w : World) (h : Blk w d TDK #[v, .map (some m), .bool down, .int .i64 (left : Int)]) :
    Calls Tryz.prog 27 #[.pointer (some ⟨d, 0, none⟩)] w (Ret (fun z _ => z = .bool down) w) := by
  have HB := Lib.hid h
  clear h
  go_enter Tryz.func27, Tryz.ntmps27
  go_wp2_with fail
  refine (rmade_any d m v down left w HB.out).mono ?_
  rintro e w1 ⟨v1, rfl, rfl, b1⟩
  have k1 := (HB.out.below b1).cells
  simp only [cellsAre, Nat.zero_add, Nat.reduceAdd, and_true] at k1
  have X1 := Lib.hid (show Ext w w1 from b1)
  clear b1
  go_wp2_with fail
  go_returns
  exact ⟨_, rfl, rfl, X1.out⟩
set_option maxHeartbeats 6400000 in
set_option maxRecDepth 100000 in
theorem ralike_no {w : World} {s d keep : Nat} {vs : List (Nat × MT)} {B : Nat → Nat} {br : Bool} {Vs Vs' : List (List Pr)} {rv : Value} (h : SR w s d keep vs B br) (hv : VsR keep vs Vs') (hr : RSv w rv Vs keep) (hp : 0 < Vs.length) (hl : Vs.length ≤ 100000) (hne : Vs'.length ≠ Vs.length) :
    Calls Tryz.prog 18 #[.pointer (some ⟨s, 0, none⟩), rv] w (Ret (fun z _ => z = .bool false) w) := by
  obtain ⟨t0, hf⟩ := hv.vsn.first
  obtain ⟨A, n, c, rfl, hov, hn, hnc, hcc⟩ := hr.form
  have hp0 : 0 < Vs'.length := List.length_pos_iff.2 hv.nv
  obtain ⟨N', hN'⟩ : ∃ N', Vs'.length - 1 = N' := ⟨_, rfl⟩
  obtain ⟨N, hN⟩ : ∃ N, Vs.length - 1 = N := ⟨_, rfl⟩
  rw [hN'] at hf
  have HNN := Lib.hid (show ((Vs.length : Int) - 1) = (N : Int) by omega)
  have hnn : ¬ N' = N := by omega
  have hni : ¬ (N' : Int) = (N : Int) := by omega
  have hnb : ((N' : Int) != (N : Int)) = true := by rw [bne_iff_ne]; exact hni
  have HA := Lib.hid h
  have HR := Lib.hid hr
  have HF := Lib.hid hf
  clear h hv hr hov hf hn hN hN'
  go_enter Tryz.func18, Tryz.ntmps18
  go_upto_region 1 with fail
  refine wp_world (fun W => AlS w W w.heap.size A n c keep) ⟨Ext.allocR _ _, Blk.new_ _ _ rfl⟩ ?_
  rintro W1 hw1
  have HW1 := Lib.hid hw1
  have k1 := hw1.hd.cells
  simp only [cellsAre, Nat.zero_add, Nat.reduceAdd, and_true] at k1
  clear hw1
  go_wp2_with fail
  refine (znewest_any (HR.out.ext HW1.out.ex) (by omega)).mono ?_
  rintro e w2 ⟨v2, rfl, rfl, b2⟩
  rw [HNN.out]
  have HW2 := Lib.hid (HW1.out.ext b2)
  clear k1 HW1 b2
  go_upto_region 2 with fail
  have hst : Ext w2 w2.drew := Ext.drew _
  refine wp_region_adv 8 [] [(0, true, some 11, none), (2, true, some 13, none), (1, false, some 12, none), (3, true, some 14, none), (4, true, some 15, none), (5, true, some 16, some (15, false)), (7, true, some 18, some (15, false)), (6, false, some 17, some (15, false))] (by kernel_rfl) (by kernel_rfl) (by kernel_rfl) (by intro it hit; (repeat (rcases List.mem_cons.1 hit with rfl | hit; (focus (intro o ho ev w; injection ho with ho; subst ho; kernel_rfl)))); cases hit) (fun _ _ _ _ _ => ⟨fun h => h, fun h => h⟩) hst ?_
  repeat (first | (refine wpSeq_pure (v := ?_) rfl ?_ ?_; rotate_left 1; (focus (intro wq_ hSq_; (try dsimp only at hSq_); go_simp; (try with_reducible rfl); done)); (try simp only [Act.put, List.setIfInBounds_toArray, List.set_cons_zero, List.set_cons_succ])) | (refine wpSeq_pureG (v := ?_) rfl rfl ?_ ?_; rotate_left 1; (focus (intro wq_ hSq_; (try dsimp only at hSq_); go_simp; (try with_reducible rfl); done)); (try simp only [Act.put, List.setIfInBounds_toArray, List.set_cons_zero, List.set_cons_succ])) | (refine wpSeq_off rfl rfl ?_; (try simp only [Act.put, List.setIfInBounds_toArray, List.set_cons_zero, List.set_cons_succ])) | (refine wpSeq_offU rfl ?_; (try simp only [Act.put, List.setIfInBounds_toArray, List.set_cons_zero, List.set_cons_succ])))
  first | refine wpSeq_call rfl (fun u1 g1 s1 K hK => ?_) | refine wpSeq_callG rfl rfl (fun u1 g1 s1 K hK => ?_)
  go_simp
  refine (rnewest_any (HA.out.ext (bt HW2.out.ex s1)) HF.out).mono ?_
  rintro e y1 ⟨z1, rfl, rfl, b1⟩
  (try go_wp2_with fail)
  refine hK.out _ _ b1 ?_
  clear hK K
  (try simp only [Act.put, List.setIfInBounds_toArray, List.set_cons_zero, List.set_cons_succ])
  repeat (first | (refine wpSeq_pure (v := ?_) rfl ?_ ?_; rotate_left 1; (focus (intro wq_ hSq_; (try dsimp only at hSq_); go_simp; (try with_reducible rfl); done)); (try simp only [Act.put, List.setIfInBounds_toArray, List.set_cons_zero, List.set_cons_succ])) | (refine wpSeq_pureG (v := ?_) rfl rfl ?_ ?_; rotate_left 1; (focus (intro wq_ hSq_; (try dsimp only at hSq_); go_simp; (try with_reducible rfl); done)); (try simp only [Act.put, List.setIfInBounds_toArray, List.set_cons_zero, List.set_cons_succ])) | (refine wpSeq_off rfl rfl ?_; (try simp only [Act.put, List.setIfInBounds_toArray, List.set_cons_zero, List.set_cons_succ])) | (refine wpSeq_offU rfl ?_; (try simp only [Act.put, List.setIfInBounds_toArray, List.set_cons_zero, List.set_cons_succ])))
  intro w3 g3 s3
  (try simp only [endJ, List.drop_succ_cons, List.drop_zero])
  have X3 := Lib.hid (bt HW2.out.ex s3)
  clear hst g1 s1 b1 g3 s3 HW2
  go_wp2_with fail
  (try simp only [Exit.inBlock, Exit.then])
  refine bodyPost_ret (v := (.bool false)) (by simp [results, Tryz.results18, go_sem, *]) rfl ?_
  exact ⟨_, rfl, rfl, X3.out⟩
theorem STl.sr {F : Nat → Prop} {w : World} {s d keep n left : Nat} {Vs : List (List Pr)} (h : STl F w s d keep n Vs left) : ∃ vs B, SR w s d keep vs B false ∧ VsR keep vs Vs := by
  obtain ⟨vs, B, bl, h1, h2, _⟩ := h
  exact ⟨vs, B, h1.sr, h2⟩
theorem MF.trs2 {F : Nat → Prop} (b : Nat) (cs : Array Value) : ¬ MF F b (.cells cs TRS (0, 0)) := fun hx => by
  have : TRS = TDK ∨ TRS = TBY ∨ TRS = TSE := hx.2
  revert this
  decide
theorem STx.blk2 {F : Nat → Prop} {w : World} {s d keep n : Nat} {Vs : List (List Pr)} (h : STx F w s d keep n Vs) : ∃ g v, Blk w d TDK #[v, .map (some g), .bool false, .int .i64 ((0 : Nat) : Int)] := by
  obtain ⟨vs, B, bl, h1, _⟩ := h
  exact h1.dk.blk
/-- A box of the reference's store is written. -/
theorem put2 {F : Nat → Prop} {w W : World} {s d keep n R : Nat} {Vs Vr : List (List Pr)} {A : Option Addr} {m c : Nat} {x y : Value} (hs : STx F W s d keep n Vs) (hr : RSv W (.agg #[.slice A m c, .int .i64 (keep : Int)]) Vr keep) (hb : Blk W R TRS #[x, y]) (hc : Chg (MF F) w W) (hw : w.heap.size ≤ R) :
    STx F ((W.setCell ⟨R, 0, none⟩ (.slice A m c)).setCell ⟨R, 1, none⟩ (.int .i64 (keep : Int))) s d keep n Vs ∧ RSv ((W.setCell ⟨R, 0, none⟩ (.slice A m c)).setCell ⟨R, 1, none⟩ (.int .i64 (keep : Int))) (.agg #[.slice A m c, .int .i64 (keep : Int)]) Vr keep ∧ Blk ((W.setCell ⟨R, 0, none⟩ (.slice A m c)).setCell ⟨R, 1, none⟩ (.int .i64 (keep : Int))) R TRS #[.slice A m c, .int .i64 (keep : Int)] ∧ Chg (MF F) w ((W.setCell ⟨R, 0, none⟩ (.slice A m c)).setCell ⟨R, 1, none⟩ (.int .i64 (keep : Int))) := by
  have h1 : Chg (fun b o => b = R ∧ ∃ cs, o = .cells cs TRS (0, 0)) W ((W.setCell ⟨R, 0, none⟩ (.slice A m c)).setCell ⟨R, 1, none⟩ (.int .i64 (keep : Int))) := (Chg.setB hb ⟨rfl, _, rfl⟩ 0 _).trans (Chg.setB (hb.set_ 0 _) ⟨rfl, _, rfl⟩ 1 _)
  have no : ∀ {T : TypeId}, T ≠ TRS → ∀ b cs, ¬ (b = R ∧ ∃ cs', Obj.cells cs T (0, 0) = .cells cs' TRS (0, 0)) := fun hT b cs ⟨_, cs', e⟩ => by
    injection e with _ e
    exact hT e
  refine ⟨hs.chg h1 (fun b o _ hM hX => ?_) (no (by decide)) (no (by decide)) (no (by decide)), hr.chg h1 (no (by decide)) (no (by decide)), (hb.set_ 0 _).set_ 1 _, chg_below hc ((Below.refl _ _).setCell (p := ⟨R, 0, none⟩) hw _ |>.setCell (p := ⟨R, 1, none⟩) hw _)⟩
  obtain ⟨_, cs, rfl⟩ := hX
  have : TRS = TDK ∨ TRS = TBY ∨ TRS = TSE := hM
  revert this
  decide
/-- What crashed answers. -/
def CrA (F : Nat → Prop) (w w' : World) (d keep n : Nat) (Vs : List (List Pr)) (L : List Pr) (e : Ending) : Prop :=
  ∃ s' rv' Vs', e = .returned (.tuple #[.pointer (some ⟨s', 0, none⟩), rv', .bool true]) ∧ (Vs' = Vs ∨ Vs' = Vs ++ [L]) ∧ STx F w' s' d keep n Vs' ∧ RSv w' rv' Vs' keep ∧ Chg (MF F) w w'
set_option maxHeartbeats 6400000 in
set_option maxRecDepth 100000 in
theorem rcrashed_any {F : Nat → Prop} {w : World} {s d keep n : Nat} {Vs : List (List Pr)} {L : List Pr} (h : STd F w s d keep n Vs L) (hF : ∀ b, w.heap.size ≤ b → F b) (hn : 2 ≤ n) (hk : keep ≤ 8) (hV : Vs.length ≤ 1000) (hz : ∀ l ∈ Vs, l.length ≤ 1000) (hLz : L.length ≤ 1000) (cs : List Cg) {L0 : List Pr} (hL0 : Vs.getD (Vs.length - 1) [] = L0) (hL : aft L0 cs = L)
    (rv : Value) (hr : RSv w rv Vs keep) (Al : Option Addr) (nl cl : Nat) (hcl : ∀ W, Chg (MF F) w W → Rv W 3 Al nl cl (ccs cs)) (hcs : cs.length ≤ 1000) (A : Option Addr) (nk ck : Nat) (ks : List Nat) (hkr : ∀ W, Chg (MF F) w W → Rv W 1 A nk ck (bc ks)) (hks : ∀ b ∈ ks, b < 256) :
    Calls Tryz.prog 28 #[.pointer (some ⟨d, 0, none⟩), rv, .slice Al nl cl, .slice A nk ck] w fun e w' => CrA F w w' d keep n Vs L e := by
  obtain ⟨vs, B, bl, lf, hsi, hvs, hbl, hfew, hrst⟩ := h
  have hVp : 0 < Vs.length := List.length_pos_iff.2 hvs.nv
  obtain ⟨Ar, mr, cr, rfl, hh⟩ := hr.form
  clear hh
  have HDK := Lib.hid hsi.dk
  have HF := Lib.hid hF
  have HZ := Lib.hid (And.intro hz hLz)
  have HL := Lib.hid (And.intro hL0 hL)
  have HR := Lib.hid hr
  have HCL := Lib.hid hcl
  have HKR := Lib.hid (And.intro hkr hks)
  have HB := Lib.hid (And.intro hbl (And.intro hfew hrst))
  have hL0z : L0.length ≤ 1000 := by rw [← hL0]; exact hz _ (by rw [List.getD_eq_getElem?_getD, List.getElem?_eq_getElem (by omega)]; exact List.getElem_mem _)
  clear hsi hvs hbl hfew hrst hF hz hLz hL0 hL hr hcl hkr hks
  go_enter Tryz.func28, Tryz.ntmps28
  go_upto_region 1 with fail
  have xA : Ext w ((w.alloc (.cells #[.slice Ar mr cr, .int .i64 (keep : Int)] TRS)).alloc (.cells #[.slice none 0 0, .int .i64 0] TRS)) := bt (Ext.allocR _ _) (Ext.allocR _ _)
  have b5A : Blk ((w.alloc (.cells #[.slice Ar mr cr, .int .i64 (keep : Int)] TRS)).alloc (.cells #[.slice none 0 0, .int .i64 0] TRS)) w.heap.size TRS #[.slice Ar mr cr, .int .i64 (keep : Int)] := (Blk.new_ _ _ rfl).alloc _
  have b9A : Blk ((w.alloc (.cells #[.slice Ar mr cr, .int .i64 (keep : Int)] TRS)).alloc (.cells #[.slice none 0 0, .int .i64 0] TRS)) (w.heap.size + 1) TRS #[.slice none 0 0, .int .i64 0] := Blk.new_ _ _ (by simp)
  obtain ⟨wA, hwA⟩ : ∃ wA, (w.alloc (.cells #[.slice Ar mr cr, .int .i64 (keep : Int)] TRS)).alloc (.cells #[.slice none 0 0, .int .i64 0] TRS) = wA := ⟨_, rfl⟩
  rw [hwA] at xA b5A b9A ⊢
  obtain ⟨R9, hR9⟩ : ∃ R9, w.heap.size + 1 = R9 := ⟨_, rfl⟩
  obtain ⟨R5, hR5⟩ : ∃ R5, w.heap.size = R5 := ⟨_, rfl⟩
  have hne59 : R5 ≠ R9 := by omega
  have hwR5 : w.heap.size ≤ R5 := by omega
  have hwR9 : w.heap.size ≤ R9 := by omega
  rw [hR9] at b9A ⊢
  rw [hR5] at b5A ⊢
  have XA := Lib.hid xA
  have BA := Lib.hid (And.intro b5A b9A)
  clear hwA hR9 hR5 xA b5A b9A
  go_wp2_with fail
  refine (rrestart_ok (HDK.out.ext XA.out) (fun b hb => HF.out b (Nat.le_trans XA.out.size hb)) (by have := HB.out.1; omega) A nk ck ks (fun W hW => HKR.out.1 W ((Chg.ext XA.out).trans hW)) HKR.out.2 (fun k => Nat.le_trans (HB.out.2.1 k) (by omega))).mono ?_
  rintro e w1 ⟨⟨v1, rfl⟩, cur, hrs, hd1, hc1⟩
  have CH1 := Lib.hid ((Chg.ext XA.out).trans hc1)
  have B1 := Lib.hid (And.intro (hc1.blk BA.out.1 (MF.trs2 _ _)) (hc1.blk BA.out.2 (MF.trs2 _ _)))
  have HR1 := Lib.hid (HR.out.chg CH1.out MF.tpa MF.tps)
  have hlen : (cur.map fun l => [l]).length = n := by rw [List.length_map]; exact hrs.1.trans HB.out.1
  have hfew : ∀ k, ((cur.map fun l => [l]).getD k []).length ≤ 1 := fun k => by
    rw [List.getD_eq_getElem?_getD, List.getElem?_map]
    cases cur[k]? <;> simp
  obtain ⟨Vs', hVs', hsd⟩ : ∃ Vs', (Vs' = Vs ∨ Vs' = Vs ++ [L]) ∧ Sdd cur keep Vs' := by
    rcases HB.out.2.2 cur hrs with h | h
    · exact ⟨_, Or.inl rfl, h⟩
    · exact ⟨_, Or.inr rfl, h⟩
  have hV' : Vs'.length ≤ 1001 := by 
    rcases hVs' with h | h
    · rw [h]; omega
    · rw [h, List.length_append, List.length_singleton]; omega
  have hz' : ∀ l ∈ Vs', l.length ≤ 1000 := fun l hl => by
    rcases hVs' with h | h
    · rw [h] at hl; exact HZ.out.1 l hl
    · rw [h] at hl
      rcases List.mem_append.1 hl with hl | hl
      · exact HZ.out.1 l hl
      · rw [List.mem_singleton.1 hl]; exact HZ.out.2
  have HZ' := Lib.hid hz'
  have HOP := Lib.hid (ropen_at (n := n) hd1 (fun b hb => HF.out b (Nat.le_trans CH1.out.size hb)) (by show Sdd (List.map (fun l => l.getLastD z64) (cur.map fun l => [l])) keep Vs'; rw [lasts_one]; exact hsd) hfew hlen hk (by omega) (fun l hl => Nat.le_trans (hz' l hl) (by omega)) 0 (by omega))
  clear hc1 hd1 hrs hlen hfew hsd hz' HDK HKR HB XA BA
  go_wp2_with fail
  refine HOP.out.mono ?_
  rintro e w2 ⟨v2, rfl, ⟨s', rfl, hst2⟩, b2⟩
  have S2 := Lib.hid (show STx F w2 s' d keep n Vs' from hst2)
  have CH2 := Lib.hid (CH1.out.trans (Chg.ext b2))
  have B2 := Lib.hid (And.intro (B1.out.1.below b2) (B1.out.2.below b2))
  have HR2 := Lib.hid (HR1.out.ext b2)
  clear hst2 b2 CH1 B1 HR1 HOP
  go_wp2_with fail
  refine (st_broken S2.out).mono ?_
  rintro e w3 ⟨v3, rfl, rfl, b3⟩
  have S3 := Lib.hid (S2.out.ext b3)
  have CH3 := Lib.hid (CH2.out.trans (Chg.ext b3))
  have B3 := Lib.hid (And.intro (B2.out.1.below b3) (B2.out.2.below b3))
  have HR3 := Lib.hid (HR2.out.ext b3)
  clear b3 CH2 B2 HR2 S2
  obtain ⟨g3, v3d, hdb⟩ := S3.out.blk2
  have HDB := Lib.hid hdb
  clear hdb
  go_wp2_with fail
  refine (rdown_at d g3 v3d false 0 w3 HDB.out).mono ?_
  rintro e w4 ⟨v4, rfl, rfl, b4⟩
  have S4 := Lib.hid (S3.out.ext b4)
  have CH4 := Lib.hid (CH3.out.trans (Chg.ext b4))
  have B4 := Lib.hid (And.intro (B3.out.1.below b4) (B3.out.2.below b4))
  have HR4 := Lib.hid (HR3.out.ext b4)
  have k4 := B4.out.1.cells
  simp only [cellsAre, Nat.zero_add, Nat.reduceAdd, and_true] at k4
  clear b4 CH3 B3 HR3 S3 HDB
  rcases hVs' with hVs' | hVs'
  · subst hVs'
    go_wp2_with fail
    refine (st_alike S4.out HR4.out (by omega) (by omega) HZ.out.1).mono ?_
    rintro e w5 ⟨v5, rfl, rfl, b5⟩
    have S5 := Lib.hid (S4.out.ext b5)
    have CH5 := Lib.hid (CH4.out.trans (Chg.ext b5))
    have B5 := Lib.hid (And.intro (B4.out.1.below b5) (B4.out.2.below b5))
    have HR5 := Lib.hid (HR4.out.ext b5)
    have k5 := B5.out.1.cells
    have k9 := B5.out.2.cells
    have f9 := B5.out.2.free
    simp only [cellsAre, Nat.zero_add, Nat.reduceAdd, and_true] at k5 k9
    clear b5 CH4 B4 HR4 S4 k4
    go_upto_region 6 with fail
    have hp := put2 (F := F) S5.out HR5.out B5.out.2 CH5.out hwR9
    have HP := Lib.hid hp
    clear hp S5 HR5 CH5
    go_region
    have S9 := HP.out.1.ext (Ext.drew _)
    have HR9 := HP.out.2.1.ext (Ext.drew _)
    have B9 := HP.out.2.2.1.drew
    have CH9 := HP.out.2.2.2.trans (Chg.ext (Ext.drew _))
    obtain ⟨w9, hw9⟩ : ∃ w9, ((w5.setCell ⟨R9, 0, none⟩ (.slice Ar mr cr)).setCell ⟨R9, 1, none⟩ (.int .i64 (keep : Int))).drew = w9 := ⟨_, rfl⟩
    rw [hw9] at S9 HR9 B9 CH9 ⊢
    have k9 := B9.cells
    simp only [cellsAre, Nat.zero_add, Nat.reduceAdd, and_true] at k9
    have HE := Lib.hid (And.intro S9 (And.intro HR9 CH9))
    clear hw9 S9 HR9 B9 CH9 HP
    go_wp2
    (try simp only [Exit.inBlock, Exit.then])
    refine bodyPost_ret (v := (.tuple #[.pointer (some ⟨s', 0, none⟩), .agg #[.slice Ar mr cr, .int .i64 (keep : Int)], .bool true])) (by simp [results, Tryz.results28, go_sem, *]) rfl ?_
    exact ⟨s', _, _, rfl, (Or.inl rfl), HE.out.1, HE.out.2.1, HE.out.2.2⟩
  · subst hVs'
    obtain ⟨vs9, B9, hsr9, hvr9⟩ := STl.sr S4.out
    have HSR := Lib.hid (And.intro hsr9 hvr9)
    clear hsr9 hvr9
    go_wp2_with fail
    refine (ralike_no HSR.out.1 HSR.out.2 HR4.out hVp (by omega) (by rw [List.length_append, List.length_singleton]; omega)).mono ?_
    rintro e w5 ⟨v5, rfl, rfl, b5⟩
    have S5 := Lib.hid (S4.out.ext b5)
    have CH5 := Lib.hid (CH4.out.trans (Chg.ext b5))
    have B5 := Lib.hid (And.intro (B4.out.1.below b5) (B4.out.2.below b5))
    have HR5 := Lib.hid (HR4.out.ext b5)
    have k5 := B5.out.1.cells
    simp only [cellsAre, Nat.zero_add, Nat.reduceAdd, and_true] at k5
    clear b5 CH4 B4 HR4 S4 k4 HSR
    go_wp2_with fail
    refine (zcommit_any HR5.out (by omega) (by omega) HL.out.1 (by omega) Al nl cl cs (HCL.out w5 CH5.out) hcs).mono ?_
    rintro e w6 ⟨v6, rfl, hr6, b6⟩
    rw [HL.out.2] at hr6
    obtain ⟨A6, m6, c6, rfl, hh6⟩ := hr6.form
    clear hh6
    have S6 := Lib.hid (S5.out.ext b6)
    have CH6 := Lib.hid (CH5.out.trans (Chg.ext b6))
    have B6 := Lib.hid (And.intro (B5.out.1.below b6) (B5.out.2.below b6))
    have HR6 := Lib.hid hr6
    have k6 := B6.out.1.cells
    have f6 := B6.out.1.free
    simp only [cellsAre, Nat.zero_add, Nat.reduceAdd, and_true] at k6
    clear b6 hr6 CH5 B5 HR5 S5 k5
    have hp := put2 (F := F) S6.out HR6.out B6.out.1 CH6.out hwR5
    have b7 : Blk ((w6.setCell ⟨R5, 0, none⟩ (.slice A6 m6 c6)).setCell ⟨R5, 1, none⟩ (.int .i64 (keep : Int))) R9 TRS #[.slice none 0 0, .int .i64 0] := (B6.out.2.far (p := ⟨R5, 0, none⟩) (Ne.symm hne59) _).far (p := ⟨R5, 1, none⟩) (Ne.symm hne59) _
    go_upto_region 8 with fail
    obtain ⟨w7, hw7⟩ : ∃ w7, (w6.setCell ⟨R5, 0, none⟩ (.slice A6 m6 c6)).setCell ⟨R5, 1, none⟩ (.int .i64 (keep : Int)) = w7 := ⟨_, rfl⟩
    rw [hw7] at hp b7 ⊢
    have HP7 := Lib.hid hp
    have B7 := Lib.hid b7
    clear hw7 hp b7 S6 CH6 B6 HR6 k6 f6
    have kk := fun w' (hh : Ext w7 w') => (HP7.out.2.2.1.below hh).cells
    simp only [cellsAre, Nat.zero_add, Nat.reduceAdd, and_true] at kk
    have hst : Ext w7 w7.drew := Ext.drew _
    refine wp_region_adv 6 [] [(0, true, some 44, none), (1, true, some 45, none), (2, true, some 46, none), (3, true, some 47, none), (4, false, some 48, none), (5, false, some 8, none)] (by kernel_rfl) (by kernel_rfl) (by kernel_rfl) (by intro it hit; (repeat (rcases List.mem_cons.1 hit with rfl | hit; (focus (intro o ho ev w; injection ho with ho; subst ho; kernel_rfl)))); cases hit) (fun _ _ _ _ _ => ⟨fun h => h, fun h => h⟩) hst ?_
    repeat (first | (refine wpSeq_pure (v := ?_) rfl ?_ ?_; rotate_left 1; (focus (intro wq_ hSq_; (try dsimp only at hSq_); go_simp; (try with_reducible rfl); done)); (try simp only [Act.put, List.setIfInBounds_toArray, List.set_cons_zero, List.set_cons_succ])) | (refine wpSeq_pureG (v := ?_) rfl rfl ?_ ?_; rotate_left 1; (focus (intro wq_ hSq_; (try dsimp only at hSq_); go_simp; (try with_reducible rfl); done)); (try simp only [Act.put, List.setIfInBounds_toArray, List.set_cons_zero, List.set_cons_succ])) | (refine wpSeq_off rfl rfl ?_; (try simp only [Act.put, List.setIfInBounds_toArray, List.set_cons_zero, List.set_cons_succ])) | (refine wpSeq_offU rfl ?_; (try simp only [Act.put, List.setIfInBounds_toArray, List.set_cons_zero, List.set_cons_succ])))
    first | refine wpSeq_call rfl (fun u1 g1 s1 K hK => ?_) | refine wpSeq_callG rfl rfl (fun u1 g1 s1 K hK => ?_)
    go_simp
    refine (st_alike (HP7.out.1.ext s1) (HP7.out.2.1.ext s1) (by rw [List.length_append, List.length_singleton]; omega) (by omega) HZ'.out).mono ?_
    rintro e y1 ⟨z1, rfl, rfl, b1⟩
    (try go_wp2_with fail)
    refine hK.out _ _ b1 ?_
    clear hK K
    (try simp only [Act.put, List.setIfInBounds_toArray, List.set_cons_zero, List.set_cons_succ])
    repeat (first | (refine wpSeq_pure (v := ?_) rfl ?_ ?_; rotate_left 1; (focus (intro wq_ hSq_; (try dsimp only at hSq_); go_simp; (try with_reducible rfl); done)); (try simp only [Act.put, List.setIfInBounds_toArray, List.set_cons_zero, List.set_cons_succ])) | (refine wpSeq_pureG (v := ?_) rfl rfl ?_ ?_; rotate_left 1; (focus (intro wq_ hSq_; (try dsimp only at hSq_); go_simp; (try with_reducible rfl); done)); (try simp only [Act.put, List.setIfInBounds_toArray, List.set_cons_zero, List.set_cons_succ])) | (refine wpSeq_off rfl rfl ?_; (try simp only [Act.put, List.setIfInBounds_toArray, List.set_cons_zero, List.set_cons_succ])) | (refine wpSeq_offU rfl ?_; (try simp only [Act.put, List.setIfInBounds_toArray, List.set_cons_zero, List.set_cons_succ])))
    first | refine wpSeq_call rfl (fun u2 g2 s2 K hK => ?_) | refine wpSeq_callG rfl rfl (fun u2 g2 s2 K hK => ?_)
    go_simp
    (try go_wp2_with fail)
    refine hK.out _ _ (Ext.refl _) ?_
    clear hK K
    (try simp only [Act.put, List.setIfInBounds_toArray, List.set_cons_zero, List.set_cons_succ])
    repeat (first | (refine wpSeq_pure (v := ?_) rfl ?_ ?_; rotate_left 1; (focus (intro wq_ hSq_; (try dsimp only at hSq_); go_simp; (try with_reducible rfl); done)); (try simp only [Act.put, List.setIfInBounds_toArray, List.set_cons_zero, List.set_cons_succ])) | (refine wpSeq_pureG (v := ?_) rfl rfl ?_ ?_; rotate_left 1; (focus (intro wq_ hSq_; (try dsimp only at hSq_); go_simp; (try with_reducible rfl); done)); (try simp only [Act.put, List.setIfInBounds_toArray, List.set_cons_zero, List.set_cons_succ])) | (refine wpSeq_off rfl rfl ?_; (try simp only [Act.put, List.setIfInBounds_toArray, List.set_cons_zero, List.set_cons_succ])) | (refine wpSeq_offU rfl ?_; (try simp only [Act.put, List.setIfInBounds_toArray, List.set_cons_zero, List.set_cons_succ])))
    intro w8 g8 s8
    (try simp only [endJ, List.drop_succ_cons, List.drop_zero])
    have hp := put2 (F := F) (HP7.out.1.ext s8) (HP7.out.2.1.ext s8) (B7.out.below s8) (HP7.out.2.2.2.trans (Chg.ext s8)) hwR9
    have HP := Lib.hid hp
    have f9 := (B7.out.below s8).free
    have k9 := (B7.out.below s8).cells
    have k5 := kk w8 s8
    simp only [cellsAre, Nat.zero_add, Nat.reduceAdd, and_true] at k9
    clear hp kk hst g1 s1 b1 g2 s2 g8 s8 HP7 B7
    go_wp2_with fail
    have S9 := HP.out.1
    have HR9 := HP.out.2.1
    have B9 := HP.out.2.2.1
    have CH9 := HP.out.2.2.2
    obtain ⟨w9, hw9⟩ : ∃ w9, ((w8.setCell ⟨R9, 0, none⟩ (.slice A6 m6 c6)).setCell ⟨R9, 1, none⟩ (.int .i64 (keep : Int))) = w9 := ⟨_, rfl⟩
    rw [hw9] at S9 HR9 B9 CH9 ⊢
    have k9 := B9.cells
    simp only [cellsAre, Nat.zero_add, Nat.reduceAdd, and_true] at k9
    have HE := Lib.hid (And.intro S9 (And.intro HR9 CH9))
    clear hw9 S9 HR9 B9 CH9 HP
    (try simp only [Exit.inBlock, Exit.then])
    refine bodyPost_ret (v := (.tuple #[.pointer (some ⟨s', 0, none⟩), .agg #[.slice A6 m6 c6, .int .i64 (keep : Int)], .bool true])) (by simp [results, Tryz.results28, go_sem, *]) rfl ?_
    exact ⟨s', _, _, rfl, (Or.inr rfl), HE.out.1, HE.out.2.1, HE.out.2.2⟩
end Go.Proofs.Tb
