/- Contract of the law's crashed: a store that went down in a Commit, started again and opened. -/
import Derived.Test.YtfljnfdeboibhaaRoi
set_option linter.unusedVariables false
set_option linter.unusedSimpArgs false
namespace Go.Proofs.Tb
open Go.Maps Go.RowKit Go.Lib
attribute [local go_sem] cell_set_same neqMapL

theorem STl.imp {F G : Nat → Prop} {w : World} {s d keep n left : Nat} {Vs : List (List Pr)} (h : STl F w s d keep n Vs left) (hFG : ∀ b, F b → G b) : STl G w s d keep n Vs left := by
  obtain ⟨vs, B, bl, g1, g2⟩ := h
  exact ⟨vs, B, bl, ⟨g1.se, g1.dk.imp hFG, hFG _ g1.fs, g1.tr, g1.bz, g1.bm⟩, g2⟩
set_option maxHeartbeats 3200000 in
set_option maxRecDepth 100000 in
theorem rdown_at (d m : Nat) (v : Value) (down : Bool) (left : Nat) (w : World) (h : Blk w d TDK #[v, .map (some m), .bool down, .int .i64 (left : Int)]) :
    Calls Try.prog 26 #[.pointer (some ⟨d, 0, none⟩)] w (Ret (fun z _ => z = .bool down) w) := by
  have HB := Lib.hid h
  clear h
  go_enter Try.func26, Try.ntmps26
  go_wp2_with fail
  refine (rmade_any d m v down left w HB.out).mono ?_
  rintro e w1 ⟨v1, rfl, rfl, b1⟩
  have k1 := (HB.out.below b1).cells
  simp only [cellsAre, Nat.zero_add, Nat.reduceAdd, and_true] at k1
  have X1 := Lib.hid (show Ext w w1 from b1)
  clear b1
  go_wp2_with fail
  go_returns
  exact ⟨_, rfl, rfl, X1.out⟩
set_option maxHeartbeats 6400000 in
set_option maxRecDepth 100000 in
theorem ralike_no {w : World} {s d keep : Nat} {vs : List (Nat × MT)} {B : Nat → Nat} {br : Bool} {Vs Vs' : List (List Pr)} {rv : Value} (h : SR w s d keep vs B br) (hv : VsR keep vs Vs') (hr : RSv w rv Vs keep) (hp : 0 < Vs.length) (hl : Vs.length ≤ 100000) (hne : Vs'.length ≠ Vs.length) :
    Calls Try.prog 16 #[.pointer (some ⟨s, 0, none⟩), rv] w (Ret (fun z _ => z = .bool false) w) := by
  obtain ⟨t0, hf⟩ := hv.vsn.first
  obtain ⟨A, n, c, rfl, hov, hn, hnc, hcc⟩ := hr.form
  have hp0 : 0 < Vs'.length := List.length_pos_iff.2 hv.nv
  obtain ⟨N', hN'⟩ : ∃ N', Vs'.length - 1 = N' := ⟨_, rfl⟩
  obtain ⟨N, hN⟩ : ∃ N, Vs.length - 1 = N := ⟨_, rfl⟩
  rw [hN'] at hf
  have HNN := Lib.hid (show ((Vs.length : Int) - 1) = (N : Int) by omega)
  have hnn : ¬ N' = N := by omega
  have hni : ¬ (N' : Int) = (N : Int) := by omega
  have hnb : ((N' : Int) != (N : Int)) = true := by rw [bne_iff_ne]; exact hni
  have HA := Lib.hid h
  have HR := Lib.hid hr
  have HF := Lib.hid hf
  clear h hv hr hov hf hn hN hN'
  go_enter Try.func16, Try.ntmps16
  go_upto_region 1 with fail
  refine wp_world (fun W => AlS w W w.heap.size A n c keep) ⟨Ext.allocR _ _, Blk.new_ _ _ rfl⟩ ?_
  rintro W1 hw1
  have HW1 := Lib.hid hw1
  have k1 := hw1.hd.cells
  simp only [cellsAre, Nat.zero_add, Nat.reduceAdd, and_true] at k1
  clear hw1
  go_wp2_with fail
  refine (znewest_any (HR.out.ext HW1.out.ex) (by omega)).mono ?_
  rintro e w2 ⟨v2, rfl, rfl, b2⟩
  rw [HNN.out]
  have HW2 := Lib.hid (HW1.out.ext b2)
  clear k1 HW1 b2
  go_upto_region 2 with fail
  have hst : Ext w2 w2.drew := Ext.drew _
  refine wp_region_adv 8 [] [(0, true, some 11, none), (2, true, some 13, none), (1, false, some 12, none), (3, true, some 14, none), (4, true, some 15, none), (5, true, some 16, some (15, false)), (7, true, some 18, some (15, false)), (6, false, some 17, some (15, false))] (by kernel_rfl) (by kernel_rfl) (by kernel_rfl) (by intro it hit; (repeat (rcases List.mem_cons.1 hit with rfl | hit; (focus (intro o ho ev w; injection ho with ho; subst ho; kernel_rfl)))); cases hit) (fun _ _ _ _ _ => ⟨fun h => h, fun h => h⟩) hst ?_
  repeat (first | (refine wpSeq_pure (v := ?_) rfl ?_ ?_; rotate_left 1; (focus (intro wq_ hSq_; (try dsimp only at hSq_); go_simp; (try with_reducible rfl); done)); (try simp only [Act.put, List.setIfInBounds_toArray, List.set_cons_zero, List.set_cons_succ])) | (refine wpSeq_pureG (v := ?_) rfl rfl ?_ ?_; rotate_left 1; (focus (intro wq_ hSq_; (try dsimp only at hSq_); go_simp; (try with_reducible rfl); done)); (try simp only [Act.put, List.setIfInBounds_toArray, List.set_cons_zero, List.set_cons_succ])) | (refine wpSeq_off rfl rfl ?_; (try simp only [Act.put, List.setIfInBounds_toArray, List.set_cons_zero, List.set_cons_succ])) | (refine wpSeq_offU rfl ?_; (try simp only [Act.put, List.setIfInBounds_toArray, List.set_cons_zero, List.set_cons_succ])))
  first | refine wpSeq_call rfl (fun u1 g1 s1 K hK => ?_) | refine wpSeq_callG rfl rfl (fun u1 g1 s1 K hK => ?_)
  go_simp
  refine (rnewest_any (HA.out.ext (bt HW2.out.ex s1)) HF.out).mono ?_
  rintro e y1 ⟨z1, rfl, rfl, b1⟩
  (try go_wp2_with fail)
  refine hK.out _ _ b1 ?_
  clear hK K
  (try simp only [Act.put, List.setIfInBounds_toArray, List.set_cons_zero, List.set_cons_succ])
  repeat (first | (refine wpSeq_pure (v := ?_) rfl ?_ ?_; rotate_left 1; (focus (intro wq_ hSq_; (try dsimp only at hSq_); go_simp; (try with_reducible rfl); done)); (try simp only [Act.put, List.setIfInBounds_toArray, List.set_cons_zero, List.set_cons_succ])) | (refine wpSeq_pureG (v := ?_) rfl rfl ?_ ?_; rotate_left 1; (focus (intro wq_ hSq_; (try dsimp only at hSq_); go_simp; (try with_reducible rfl); done)); (try simp only [Act.put, List.setIfInBounds_toArray, List.set_cons_zero, List.set_cons_succ])) | (refine wpSeq_off rfl rfl ?_; (try simp only [Act.put, List.setIfInBounds_toArray, List.set_cons_zero, List.set_cons_succ])) | (refine wpSeq_offU rfl ?_; (try simp only [Act.put, List.setIfInBounds_toArray, List.set_cons_zero, List.set_cons_succ])))
  intro w3 g3 s3
  (try simp only [endJ, List.drop_succ_cons, List.drop_zero])
  have X3 := Lib.hid (bt HW2.out.ex s3)
  clear hst g1 s1 b1 g3 s3 HW2
  go_wp2_with fail
  (try simp only [Exit.inBlock, Exit.then])
  refine bodyPost_ret (v := (.bool false)) (by simp [results, Try.results16, go_sem, *]) rfl ?_
  exact ⟨_, rfl, rfl, X3.out⟩
theorem STl.sr {F : Nat → Prop} {w : World} {s d keep n left : Nat} {Vs : List (List Pr)} (h : STl F w s d keep n Vs left) : ∃ vs B, SR w s d keep vs B false ∧ VsR keep vs Vs := by
  obtain ⟨vs, B, bl, h1, h2, _⟩ := h
  exact ⟨vs, B, h1.sr, h2⟩
theorem MF.trs2 {F : Nat → Prop} (b : Nat) (cs : Array Value) : ¬ MF F b (.cells cs TRS (0, 0)) := fun hx => by
  have : TRS = TDK ∨ TRS = TBY ∨ TRS = TSE := hx.2
  revert this
  decide
theorem STx.blk2 {F : Nat → Prop} {w : World} {s d keep n : Nat} {Vs : List (List Pr)} (h : STx F w s d keep n Vs) : ∃ g v, Blk w d TDK #[v, .map (some g), .bool false, .int .i64 ((0 : Nat) : Int)] := by
  obtain ⟨vs, B, bl, h1, _⟩ := h
  exact h1.dk.blk
/-- A box of the reference's store is written. -/
theorem put2 {F : Nat → Prop} {w W : World} {s d keep n R : Nat} {Vs Vr : List (List Pr)} {A : Option Addr} {m c : Nat} {x y : Value} (hs : STx F W s d keep n Vs) (hr : RSv W (.agg #[.slice A m c, .int .i64 (keep : Int)]) Vr keep) (hb : Blk W R TRS #[x, y]) (hc : Chg (MF F) w W) (hw : w.heap.size ≤ R) :
    STx F ((W.setCell ⟨R, 0, none⟩ (.slice A m c)).setCell ⟨R, 1, none⟩ (.int .i64 (keep : Int))) s d keep n Vs ∧ RSv ((W.setCell ⟨R, 0, none⟩ (.slice A m c)).setCell ⟨R, 1, none⟩ (.int .i64 (keep : Int))) (.agg #[.slice A m c, .int .i64 (keep : Int)]) Vr keep ∧ Blk ((W.setCell ⟨R, 0, none⟩ (.slice A m c)).setCell ⟨R, 1, none⟩ (.int .i64 (keep : Int))) R TRS #[.slice A m c, .int .i64 (keep : Int)] ∧ Chg (MF F) w ((W.setCell ⟨R, 0, none⟩ (.slice A m c)).setCell ⟨R, 1, none⟩ (.int .i64 (keep : Int))) := by
  have h1 : Chg (fun b o => b = R ∧ ∃ cs, o = .cells cs TRS (0, 0)) W ((W.setCell ⟨R, 0, none⟩ (.slice A m c)).setCell ⟨R, 1, none⟩ (.int .i64 (keep : Int))) := (Chg.setB hb ⟨rfl, _, rfl⟩ 0 _).trans (Chg.setB (hb.set_ 0 _) ⟨rfl, _, rfl⟩ 1 _)
  have no : ∀ {T : TypeId}, T ≠ TRS → ∀ b cs, ¬ (b = R ∧ ∃ cs', Obj.cells cs T (0, 0) = .cells cs' TRS (0, 0)) := fun hT b cs ⟨_, cs', e⟩ => by
    injection e with _ e
    exact hT e
  refine ⟨hs.chg h1 (fun b o _ hM hX => ?_) (no (by decide)) (no (by decide)) (no (by decide)), hr.chg h1 (no (by decide)) (no (by decide)), (hb.set_ 0 _).set_ 1 _, chg_below hc ((Below.refl _ _).setCell (p := ⟨R, 0, none⟩) hw _ |>.setCell (p := ⟨R, 1, none⟩) hw _)⟩
  obtain ⟨_, cs, rfl⟩ := hX
  have : TRS = TDK ∨ TRS = TBY ∨ TRS = TSE := hM
  revert this
  decide
/-- What crashed answers. -/
def CrA (F : Nat → Prop) (w w' : World) (d keep n : Nat) (Vs : List (List Pr)) (L : List Pr) (e : Ending) : Prop :=
  ∃ s' rv' Vs', e = .returned (.tuple #[.pointer (some ⟨s', 0, none⟩), rv', .bool true]) ∧ (Vs' = Vs ∨ Vs' = Vs ++ [L]) ∧ STx F w' s' d keep n Vs' ∧ RSv w' rv' Vs' keep ∧ Chg (MF F) w w'
end Go.Proofs.Tb
