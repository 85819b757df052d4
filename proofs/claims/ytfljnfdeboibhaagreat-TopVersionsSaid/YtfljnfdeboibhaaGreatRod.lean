/- Contract of heads at a root block. -/
import Derived.Test.YtfljnfdeboibhaaGreatRoc
set_option linter.unusedVariables false
set_option linter.unusedSimpArgs false
namespace Go.Proofs.Tb
open Go.Maps Go.RowKit Go.Lib
attribute [local go_sem] cell_set_same neqMapL

theorem ScW.low {base : Nat} {w w' : World} {sp : Nat} {bs : List Nat} (h : ScW w sp bs) (hb : Below base w w') (hs : sp < base) : ScW w' sp bs := by
  obtain ⟨A, c, h1, h2, h3⟩ := h
  refine ⟨A, c, h1.low hb hs, ⟨h2.len, h2.le, h2.cap, fun hn => ?_⟩, h3⟩
  obtain ⟨b, o, e, hj⟩ := h2.at_ hn
  exact ⟨b, o, e, fun j u hu => (cell_same (hb.block b (by have := h3 b o e; omega))).trans (hj j u hu)⟩
/-- The scanner reads a number. -/
theorem rscan_be (sp k x : Nat) (rest : List Nat) (w : World) (h : ScW w sp (beB x k ++ rest)) (h1 : 1 ≤ k) (h8 : k ≤ 8) (hx : x < 256 ^ k) (hx2 : x < 4611686018427387904) (hl : rest.length ≤ 100) (hb : ∀ b ∈ rest, b < 256) :
    Calls Tryz.prog 86 #[.pointer (some ⟨sp, 0, none⟩), .int .i64 (k : Int)] w fun e w' => e = .returned (.int .i64 (x : Int)) ∧ ScP w w' sp rest := by
  have e1 : rdB ((beB x k ++ rest).take k) = x := by
    rw [List.take_append_of_le_length (by rw [beB_len]; exact Nat.le_refl _), List.take_of_length_le (by rw [beB_len]; exact Nat.le_refl _), rdB_be x k hx]
  have e2 : (beB x k ++ rest).drop k = rest := List.drop_left' (beB_len x k)
  have h2 := rscan_num sp k (beB x k ++ rest) w h h1 (by rw [List.length_append, beB_len]; omega) (by rw [List.length_append, beB_len]; omega) (fun b hb' => by
    rcases List.mem_append.1 hb' with hb' | hb'
    · exact beB_lt x k b hb'
    · exact hb b hb') (by rw [e1]; exact hx2)
  rw [e1, e2] at h2
  exact h2
/-- Where heads' loop stands. -/
structure HdS (w1 W : World) (σ H keep num j : Nat) (A : Option Addr) (c : Nat) (rs : List Nat) (rest : List Nat) : Prop where
  hd : Blk W H THD #[.int .i64 (keep : Int), .int .i64 (num : Int), .slice A j c]
  ow : W.ownsRow w1.heap.size TIN 1 (.slice A j c) j (ri rs)
  ln : rs.length = j
  ch : Chg (fun b _ => b = σ) w1 W
  sc : ScW W σ rest
  ge : w1.heap.size ≤ H
  sl : σ < w1.heap.size
theorem HdS.num {w1 W W' : World} {σ H keep num j c : Nat} {A : Option Addr} {rs rest rest' : List Nat} (h : HdS w1 W σ H keep num j A c rs rest) (hp : ScP W W' σ rest') : HdS w1 W' σ H keep num j A c rs rest' :=
  ⟨hp.ch.blk h.hd (fun e => by have := h.ge; have := h.sl; omega), hp.ch.own h.ow (fun b cs e e2 => by have := own_geE h.ow b e; have := h.sl; omega), h.ln, h.ch.trans hp.ch, hp.sc, h.ge, h.sl⟩
theorem HdS.ext {w1 W W' : World} {σ H keep num j c : Nat} {A : Option Addr} {rs rest : List Nat} (h : HdS w1 W σ H keep num j A c rs rest) (hx : Ext W W') : HdS w1 W' σ H keep num j A c rs rest :=
  ⟨h.hd.below hx, own_below h.ow hx, h.ln, h.ch.trans (Chg.ext hx), h.sc.ext hx, h.ge, h.sl⟩
theorem HdS.app {w1 W w6 : World} {σ H keep num j c c6 : Nat} {A A6 : Option Addr} {rs rest : List Nat} (h : HdS w1 W σ H keep num j A c rs rest) {y : Nat} (ho : w6.ownsRow w1.heap.size TIN 1 (.slice A6 (j + 1) c6) (j + 1) (ri rs ++ [.int .i64 (y : Int)]))
    (hg : W.grownBy w6 (Value.slice A j c).ownBlock) (hb : Below w1.heap.size W w6) : Blk w6 H THD #[.int .i64 (keep : Int), .int .i64 (num : Int), .slice A j c] ∧ HdS w1 (w6.setCell ⟨H, 2, none⟩ (.slice A6 (j + 1) c6)) σ H keep num (j + 1) A6 c6 (rs ++ [y]) rest := by
  have h1 : Blk w6 H THD #[.int .i64 (keep : Int), .int .i64 (num : Int), .slice A j c] := (hg.block H h.hd.lt (fun e => own_tag h.ow (show TIN ≠ THD by decide) H e.symm _ _ h.hd)).trans h.hd
  have hb2 : Below w1.heap.size W (w6.setCell ⟨H, 2, none⟩ (.slice A6 (j + 1) c6)) := hb.setCell (p := ⟨H, 2, none⟩) h.ge _
  have hs := h.ch.size
  refine ⟨h1, h1.set_ 2 _, ?_, by rw [List.length_append, h.ln]; rfl, ?_, h.sc.low hb2 h.sl, h.ge, h.sl⟩
  · rw [ri_app]
    exact own_far ho (p := ⟨H, 2, none⟩) h1 (by decide) _
  · exact ⟨hb2.os.trans h.ch.os, hb2.tape.trans h.ch.tape, hb2.output.trans h.ch.output, Nat.le_trans hs hb2.size, fun b o hbo hX => (hb2.block b (obj_lt hbo)).trans (h.ch.same b o hbo hX)⟩
theorem flat2_drop (roots : List Nat) {j : Nat} (hj : j < roots.length) : ((roots.drop j).map fun r => beB r 2).flatten = beB (roots.getD j 0) 2 ++ ((roots.drop (j + 1)).map fun r => beB r 2).flatten := by
  rw [drop_at roots hj, List.map_cons, List.flatten_cons, List.getD_eq_getElem?_getD, List.getElem?_eq_getElem hj]
  rfl
/-- What heads answers. -/
def hdV (keep num : Nat) (A : Option Addr) (m c : Nat) : Value := .agg #[.int .i64 (keep : Int), .int .i64 (num : Int), .slice A m c]
set_option maxHeartbeats 6400000 in
set_option maxRecDepth 100000 in
theorem rheads_ok (A : Option Addr) (c keep num m : Nat) (roots : List Nat) (w : World) (h : Rv w 1 A 64 c (bc (blkB (rootB keep num roots)))) (hk : keep ≤ 8) (hnum : num ≤ 1000000000) (hm : roots.length = m) (hm1 : 1 ≤ m) (hm2 : m ≤ keep + 1) (hm3 : m ≤ num + 1) (hr : ∀ r ∈ roots, r ≤ 4096) :
    Calls Tryz.prog 60 #[.slice A 64 c] w (Ret (fun z w' => ∃ A' c', z = .tuple #[hdV keep num A' m c', .bool true] ∧ w'.ownsRow w.heap.size TIN 1 (.slice A' m c') m (ri roots)) w) := by
  unfold hdV
  have hrl : (rootB keep num roots).length ≤ 60 := by rw [rootB_len]; omega
  obtain ⟨Z, hZ⟩ : ∃ Z, List.replicate (60 - (rootB keep num roots).length) 0 = Z := ⟨_, rfl⟩
  have hZl : Z.length ≤ 60 := by rw [← hZ, List.length_replicate]; omega
  have hZb : ∀ b ∈ Z, b < 256 := fun b hb => by rw [← hZ, List.mem_replicate] at hb; omega
  have hE : (endB (rootB keep num roots)).drop 1 = beB keep 1 ++ (beB num 8 ++ (beB m 1 ++ ((roots.map fun r => beB r 2).flatten ++ Z))) := by
    unfold endB
    rw [hZ]
    unfold rootB
    rw [hm]
    simp only [List.append_assoc, List.cons_append, List.nil_append, List.drop_succ_cons, List.drop_zero]
  have HO := Lib.hid (fun y (hy : Ext w y) => ropen_ok A c (rootB keep num roots) 114 y (h.below hy) hrl (by unfold rootB; simp) (rootB_lt keep num roots))
  rw [hE] at HO
  have hfb : ∀ j, ∀ b ∈ ((roots.drop j).map fun r => beB r 2).flatten ++ Z, b < 256 := fun j b hb => by
    rcases List.mem_append.1 hb with hb | hb
    · obtain ⟨l, hl, hbl⟩ := List.mem_flatten.1 hb
      obtain ⟨r, _, rfl⟩ := List.mem_map.1 hl
      exact beB_lt r 2 b hbl
    · exact hZb b hb
  have hfl : ∀ j, (((roots.drop j).map fun r => beB r 2).flatten ++ Z).length ≤ 80 := fun j => by
    rw [List.length_append, flat2_len, List.length_drop]
    omega
  have HFB := Lib.hid hfb
  have HFL := Lib.hid hfl
  have HR := Lib.hid hr
  have HM := Lib.hid hm
  clear h hE hZ hZl hZb hfb hfl hr hm hrl
  have hb0 := HFB.out 0
  have hl0 := HFL.out 0
  rw [List.drop_zero] at hb0 hl0
  have hbL : ∀ b ∈ beB m 1 ++ ((roots.map fun r => beB r 2).flatten ++ Z), b < 256 := fun b hb => by
    rcases List.mem_append.1 hb with hb | hb
    · exact beB_lt _ _ b hb
    · exact hb0 b hb
  have hbN : ∀ b ∈ beB num 8 ++ (beB m 1 ++ ((roots.map fun r => beB r 2).flatten ++ Z)), b < 256 := fun b hb => by
    rcases List.mem_append.1 hb with hb | hb
    · exact beB_lt _ _ b hb
    · exact hbL b hb
  have hlL : (beB m 1 ++ ((roots.map fun r => beB r 2).flatten ++ Z)).length ≤ 81 := by rw [List.length_append, beB_len]; omega
  have hlN : (beB num 8 ++ (beB m 1 ++ ((roots.map fun r => beB r 2).flatten ++ Z))).length ≤ 90 := by rw [List.length_append, beB_len]; omega
  have HB := Lib.hid (And.intro (And.intro hb0 hl0) (And.intro (And.intro hbL hlL) (And.intro hbN hlN)))
  clear hb0 hl0 hbL hlL hbN hlN
  go_enter Tryz.func60, Tryz.ntmps60
  go_wp2_with fail
  have xa : Ext w (w.alloc (.cells #[.int .i64 0, .int .i64 0, .slice none 0 0] THD)) := Ext.allocR _ _
  refine (HO.out _ xa).mono ?_
  rintro e w1 ⟨z1, rfl, ⟨σ, rfl, sc1, hσ⟩, b1⟩
  have hbr := (Blk.new_ (w := w) THD #[.int .i64 0, .int .i64 0, .slice none 0 0] rfl).below b1
  have hσr : w.heap.size ≠ σ := by have : (w.alloc (.cells #[.int .i64 0, .int .i64 0, .slice none 0 0] THD)).heap.size ≤ σ := hσ; simp at this; omega
  have hσw : w.heap.size ≤ σ := by have : (w.alloc (.cells #[.int .i64 0, .int .i64 0, .slice none 0 0] THD)).heap.size ≤ σ := hσ; simp at this; omega
  have X1 := Lib.hid (show Ext w w1 from bt xa b1)
  have HBR := Lib.hid hbr
  have S1 := Lib.hid sc1
  have HS := Lib.hid (And.intro hσr hσw)
  clear xa b1 hbr sc1 hσ hσr hσw
  go_wp2_with fail
  refine (rscan_be σ 1 keep _ w1 S1.out (by omega) (by omega) (by omega) (by omega) (by have := HB.out.2.2.2; omega) HB.out.2.2.1).mono ?_
  rintro e w2 ⟨rfl, p2⟩
  have C2 := Lib.hid p2.ch
  have S2 := Lib.hid p2.sc
  clear p2 S1
  go_wp2_with fail
  refine (rscan_be σ 8 num _ w2 S2.out (by omega) (by omega) (by show num < 18446744073709551616; omega) (by omega) (by have := HB.out.2.1.2; omega) HB.out.2.1.1).mono ?_
  rintro e w3 ⟨rfl, p3⟩
  have C3 := Lib.hid (C2.out.trans p3.ch)
  have S3 := Lib.hid p3.sc
  clear p3 S2 C2
  go_upto_region 5 with fail
  have hσ3 : σ < w3.heap.size := by obtain ⟨_, _, hk3, _⟩ := S3.out; exact hk3.lt
  refine wp_world (fun W => HdS w3 W σ w3.heap.size keep num 0 none 0 [] (beB m 1 ++ ((roots.map fun r => beB r 2).flatten ++ Z))) ⟨Blk.new_ _ _ rfl, World.ownsRow_nil _ _ _ _, rfl, Chg.ext (Ext.allocR _ _), S3.out.ext (Ext.allocR _ _), Nat.le_refl _, hσ3⟩ ?_
  rintro W4 h4
  obtain ⟨H, hH⟩ : ∃ H, w3.heap.size = H := ⟨_, rfl⟩
  rw [hH] at h4 hσ3 ⊢
  have H4 := Lib.hid h4
  clear h4 S3
  go_wp2_with fail
  refine (rscan_be σ 1 m _ W4 H4.out.sc (by omega) (by omega) (by omega) (by omega) (by have := HB.out.1.2; omega) HB.out.1.1).mono ?_
  rintro e w5 ⟨rfl, p5⟩
  have H5 := Lib.hid (H4.out.num p5)
  have k5 := H5.out.hd.cells
  simp only [cellsAre, Nat.zero_add, Nat.reduceAdd, and_true] at k5
  clear p5 H4
  have p1 : ¬ (8 : Int) < (keep : Int) := by omega
  have p2 : ¬ (m : Int) < 1 := by omega
  have p3 : ¬ (keep : Int) + 1 < (m : Int) := by omega
  have p4 : ¬ (num : Int) < (m : Int) - 1 := by omega
  go_upto_region 8 with fail
  clear p1 p2 p3 p4 k5
  go_wp2_with fail
  go_loopw [46] (fun i wr => ∃ (j : Nat) (A5 : Option Addr) (c5 : Nat), j ≤ m ∧ i = .int .i64 (j : Int) ∧ HdS w3 wr σ H keep num j A5 c5 (roots.take j) (((roots.drop j).map fun r => beB r 2).flatten ++ Z)) (fun i _ => m - (intOf i).toNat)
  case atStart => exact ⟨0, none, 0, by omega, rfl, H5.out⟩
  case round =>
    clear H5
    obtain ⟨j, A5, c5, hj, rfl, hw⟩ := hrel
    have HW := Lib.hid hw
    clear hw
    by_cases hjm : j < m
    · have pj : (j : Int) < (m : Int) := by omega
      have hjr : j < roots.length := by rw [HM.out]; exact hjm
      have HN := Lib.hid (show roots.take (j + 1) = roots.take j ++ [roots.getD j 0] by
        rw [List.take_succ_eq_append_getElem hjr, List.getD_eq_getElem?_getD, List.getElem?_eq_getElem hjr]
        rfl)
      have hr2 : roots.getD j 0 ≤ 4096 := HR.out _ (by rw [List.getD_eq_getElem?_getD, List.getElem?_eq_getElem hjr]; exact List.getElem_mem hjr)
      have HW2 := Lib.hid (show HdS w3 wr σ H keep num j A5 c5 (roots.take j) (beB (roots.getD j 0) 2 ++ (((roots.drop (j + 1)).map fun r => beB r 2).flatten ++ Z)) by
        have := HW.out
        rw [flat2_drop roots hjr, List.append_assoc] at this
        exact this)
      obtain ⟨y, hy⟩ : ∃ y, roots.getD j 0 = y := ⟨_, rfl⟩
      rw [hy] at HN HW2 hr2
      clear HW hy hjr
      go_upto_region 10 with fail
      refine wp_region_brn (S := (fun _ => True)) (by kernel_rfl) (by kernel_rfl) (fun _ _ _ _ _ => ⟨fun h => h, fun h => h⟩) ?_
      intro hsel_ hQ_
      obtain ⟨wd, hwd⟩ : ∃ wd, wr.drew = wd := ⟨_, rfl⟩
      have HD := Lib.hid (HW2.out.ext (show Ext wr wd by rw [← hwd]; exact Ext.drew _))
      rw [hwd]
      clear hwd HW2
      have kd := HD.out.hd.cells
      simp only [cellsAre, Nat.zero_add, Nat.reduceAdd, and_true] at kd
      refine wpB_chunk (f := 6) (L' := #[true, false, true, false, false, false, false, false]) hsel_ hQ_ [(0, true, some 48, none), (2, true, some 50, none)] _ _ _ (by kernel_rfl) trivial ?_
      repeat (first | (refine wpSeqB_pure (v := ?_) rfl ?_ ?_; rotate_left 1; (focus (intro wq_ hSq_; (try dsimp only at hSq_); go_simp; (try with_reducible rfl); done)); (try simp only [Act.put, List.setIfInBounds_toArray, List.set_cons_zero, List.set_cons_succ])) | (refine wpSeqB_pureG (v := ?_) rfl rfl ?_ ?_; rotate_left 1; (focus (intro wq_ hSq_; (try dsimp only at hSq_); go_simp; (try with_reducible rfl); done)); (try simp only [Act.put, List.setIfInBounds_toArray, List.set_cons_zero, List.set_cons_succ])) | (refine wpSeqB_off rfl rfl ?_; (try simp only [Act.put, List.setIfInBounds_toArray, List.set_cons_zero, List.set_cons_succ])) | (refine wpSeqB_offU rfl ?_; (try simp only [Act.put, List.setIfInBounds_toArray, List.set_cons_zero, List.set_cons_succ])))
      intro s0
      clear s0
      have HNU := Lib.hid (rscan_be σ 2 y _ wd HD.out.sc (by omega) (by omega) (by show y < 65536; omega) (by omega) (by have := HFL.out (j + 1); omega) (HFB.out (j + 1)))
      refine wpB_two 1 3 (by kernel_rfl) rfl rfl rfl rfl ?_ ?_
      · intro K hK
        go_simp
        refine hK.out _ _ trivial ?_
        clear hK K kd
        (try simp only [List.getElem_toArray, List.getElem_cons_succ, List.getElem_cons_zero, Act.put, List.setIfInBounds_toArray, List.set_cons_zero, List.set_cons_succ])
        refine wpB_chunk (f := 0) (L' := #[true, true, true, true, true, true, true, true]) hsel_ hQ_ [(3, false, some 51, none), (4, false, some 52, none), (5, false, some 53, none), (6, true, some 54, none), (7, false, none, none)] _ _ _ (by kernel_rfl) trivial ?_
        repeat (first | (refine wpSeqB_pure (v := ?_) rfl ?_ ?_; rotate_left 1; (focus (intro wq_ hSq_; (try dsimp only at hSq_); go_simp; (try with_reducible rfl); done)); (try simp only [Act.put, List.setIfInBounds_toArray, List.set_cons_zero, List.set_cons_succ])) | (refine wpSeqB_pureG (v := ?_) rfl rfl ?_ ?_; rotate_left 1; (focus (intro wq_ hSq_; (try dsimp only at hSq_); go_simp; (try with_reducible rfl); done)); (try simp only [Act.put, List.setIfInBounds_toArray, List.set_cons_zero, List.set_cons_succ])) | (refine wpSeqB_off rfl rfl ?_; (try simp only [Act.put, List.setIfInBounds_toArray, List.set_cons_zero, List.set_cons_succ])) | (refine wpSeqB_offU rfl ?_; (try simp only [Act.put, List.setIfInBounds_toArray, List.set_cons_zero, List.set_cons_succ])))
        first | refine wpSeqB_call rfl (fun K hK => ?_) | refine wpSeqB_callG rfl rfl (fun K hK => ?_)
        go_simp
        refine HNU.out.mono ?_
        rintro e wy ⟨rfl, py⟩
        have HY := Lib.hid (HD.out.num py)
        clear py
        go_wp2_with fail
        refine hK.out _ _ trivial ?_
        clear hK K
        (try simp only [List.getElem_toArray, List.getElem_cons_succ, List.getElem_cons_zero, Act.put, List.setIfInBounds_toArray, List.set_cons_zero, List.set_cons_succ])
        repeat (first | (refine wpSeqB_pure (v := ?_) rfl ?_ ?_; rotate_left 1; (focus (intro wq_ hSq_; (try dsimp only at hSq_); go_simp; (try with_reducible rfl); done)); (try simp only [Act.put, List.setIfInBounds_toArray, List.set_cons_zero, List.set_cons_succ])) | (refine wpSeqB_pureG (v := ?_) rfl rfl ?_ ?_; rotate_left 1; (focus (intro wq_ hSq_; (try dsimp only at hSq_); go_simp; (try with_reducible rfl); done)); (try simp only [Act.put, List.setIfInBounds_toArray, List.set_cons_zero, List.set_cons_succ])) | (refine wpSeqB_off rfl rfl ?_; (try simp only [Act.put, List.setIfInBounds_toArray, List.set_cons_zero, List.set_cons_succ])) | (refine wpSeqB_offU rfl ?_; (try simp only [Act.put, List.setIfInBounds_toArray, List.set_cons_zero, List.set_cons_succ])))
        first | refine wpSeqB_call rfl (fun K hK => ?_) | refine wpSeqB_callG rfl rfl (fun K hK => ?_)
        go_simp
        refine hK.out _ _ trivial ?_
        clear hK K
        (try simp only [List.getElem_toArray, List.getElem_cons_succ, List.getElem_cons_zero, Act.put, List.setIfInBounds_toArray, List.set_cons_zero, List.set_cons_succ])
        first | refine wpSeqB_call rfl (fun K hK => ?_) | refine wpSeqB_callG rfl rfl (fun K hK => ?_)
        refine wp_appR TIS TIN (.int .i64 0) 1 8 in_info Tryz.underlying115 rfl (by omega) (by omega) _ _ (by rfl) w3.heap.size (.slice A5 j c5) j (ri (roots.take j)) (by rfl) (HY.out.ext (Ext.allocR wy (.cells #[.int .i64 (y : Int)] TIN))).ow (some ⟨wy.heap.size, 0, none⟩) 1 1 [.int .i64 (y : Int)] (by rfl) (rv_lit TIN 1 #[.int .i64 (y : Int)] 1 (by omega) rfl) (fun u hu => by rw [List.mem_singleton.1 hu]; rfl) (by omega) (by omega) (by have := HY.out.ch.size; simp; omega) ?_
        intro v6 w6 o6 g6 b6
        obtain ⟨A6, c6, ev, _⟩ := own_rv o6
        subst ev
        have hap := (HY.out.ext (Ext.allocR wy (.cells #[.int .i64 (y : Int)] TIN))).app o6 g6 b6
        have k6 := hap.1.cells
        have f6 := hap.1.free 2
        have HAP := Lib.hid hap.2
        simp only [cellsAre, Nat.zero_add, Nat.reduceAdd, and_true] at k6
        refine hK.out _ _ trivial ?_
        clear hK K o6 g6 b6 hap
        (try simp only [List.getElem_toArray, List.getElem_cons_succ, List.getElem_cons_zero, Act.put, List.setIfInBounds_toArray, List.set_cons_zero, List.set_cons_succ])
        repeat (first | (refine wpSeqB_pure (v := ?_) rfl ?_ ?_; rotate_left 1; (focus (intro wq_ hSq_; (try dsimp only at hSq_); go_simp; (try with_reducible rfl); done)); (try simp only [Act.put, List.setIfInBounds_toArray, List.set_cons_zero, List.set_cons_succ])) | (refine wpSeqB_pureG (v := ?_) rfl rfl ?_ ?_; rotate_left 1; (focus (intro wq_ hSq_; (try dsimp only at hSq_); go_simp; (try with_reducible rfl); done)); (try simp only [Act.put, List.setIfInBounds_toArray, List.set_cons_zero, List.set_cons_succ])) | (refine wpSeqB_off rfl rfl ?_; (try simp only [Act.put, List.setIfInBounds_toArray, List.set_cons_zero, List.set_cons_succ])) | (refine wpSeqB_offU rfl ?_; (try simp only [Act.put, List.setIfInBounds_toArray, List.set_cons_zero, List.set_cons_succ])))
        first | refine wpSeqB_call rfl (fun K hK => ?_) | refine wpSeqB_callG rfl rfl (fun K hK => ?_)
        go_simp
        refine hK.out _ _ trivial ?_
        clear hK K
        (try simp only [List.getElem_toArray, List.getElem_cons_succ, List.getElem_cons_zero, Act.put, List.setIfInBounds_toArray, List.set_cons_zero, List.set_cons_succ])
        intro s_
        refine wpB_end (by kernel_rfl) ?_
        clear s_
        go_wp2
        go_roundw
        case rel => exact ⟨j + 1, A6, c6, by omega, by go_num, by rw [HN.out]; exact HAP.out⟩
        case measure => simp [intOf]; omega
      · intro K hK
        go_simp
        refine HNU.out.mono ?_
        rintro e wy ⟨rfl, py⟩
        have HY := Lib.hid (HD.out.num py)
        clear py
        go_wp2_with fail
        refine hK.out _ _ trivial ?_
        clear hK K kd
        (try simp only [List.getElem_toArray, List.getElem_cons_succ, List.getElem_cons_zero, Act.put, List.setIfInBounds_toArray, List.set_cons_zero, List.set_cons_succ])
        have kd := HY.out.hd.cells
        simp only [cellsAre, Nat.zero_add, Nat.reduceAdd, and_true] at kd
        refine wpB_two 1 4 (by kernel_rfl) rfl rfl rfl rfl ?_ ?_
        · intro K hK
          go_simp
          refine hK.out _ _ trivial ?_
          clear hK K kd
          (try simp only [List.getElem_toArray, List.getElem_cons_succ, List.getElem_cons_zero, Act.put, List.setIfInBounds_toArray, List.set_cons_zero, List.set_cons_succ])
          refine wpB_chunk (f := 0) (L' := #[true, true, true, true, true, true, true, true]) hsel_ hQ_ [(4, false, some 52, none), (5, false, some 53, none), (6, true, some 54, none), (7, false, none, none)] _ _ _ (by kernel_rfl) trivial ?_
          repeat (first | (refine wpSeqB_pure (v := ?_) rfl ?_ ?_; rotate_left 1; (focus (intro wq_ hSq_; (try dsimp only at hSq_); go_simp; (try with_reducible rfl); done)); (try simp only [Act.put, List.setIfInBounds_toArray, List.set_cons_zero, List.set_cons_succ])) | (refine wpSeqB_pureG (v := ?_) rfl rfl ?_ ?_; rotate_left 1; (focus (intro wq_ hSq_; (try dsimp only at hSq_); go_simp; (try with_reducible rfl); done)); (try simp only [Act.put, List.setIfInBounds_toArray, List.set_cons_zero, List.set_cons_succ])) | (refine wpSeqB_off rfl rfl ?_; (try simp only [Act.put, List.setIfInBounds_toArray, List.set_cons_zero, List.set_cons_succ])) | (refine wpSeqB_offU rfl ?_; (try simp only [Act.put, List.setIfInBounds_toArray, List.set_cons_zero, List.set_cons_succ])))
          first | refine wpSeqB_call rfl (fun K hK => ?_) | refine wpSeqB_callG rfl rfl (fun K hK => ?_)
          go_simp
          refine hK.out _ _ trivial ?_
          clear hK K
          (try simp only [List.getElem_toArray, List.getElem_cons_succ, List.getElem_cons_zero, Act.put, List.setIfInBounds_toArray, List.set_cons_zero, List.set_cons_succ])
          first | refine wpSeqB_call rfl (fun K hK => ?_) | refine wpSeqB_callG rfl rfl (fun K hK => ?_)
          refine wp_appR TIS TIN (.int .i64 0) 1 8 in_info Tryz.underlying115 rfl (by omega) (by omega) _ _ (by rfl) w3.heap.size (.slice A5 j c5) j (ri (roots.take j)) (by rfl) (HY.out.ext (Ext.allocR wy (.cells #[.int .i64 (y : Int)] TIN))).ow (some ⟨wy.heap.size, 0, none⟩) 1 1 [.int .i64 (y : Int)] (by rfl) (rv_lit TIN 1 #[.int .i64 (y : Int)] 1 (by omega) rfl) (fun u hu => by rw [List.mem_singleton.1 hu]; rfl) (by omega) (by omega) (by have := HY.out.ch.size; simp; omega) ?_
          intro v6 w6 o6 g6 b6
          obtain ⟨A6, c6, ev, _⟩ := own_rv o6
          subst ev
          have hap := (HY.out.ext (Ext.allocR wy (.cells #[.int .i64 (y : Int)] TIN))).app o6 g6 b6
          have k6 := hap.1.cells
          have f6 := hap.1.free 2
          have HAP := Lib.hid hap.2
          simp only [cellsAre, Nat.zero_add, Nat.reduceAdd, and_true] at k6
          refine hK.out _ _ trivial ?_
          clear hK K o6 g6 b6 hap
          (try simp only [List.getElem_toArray, List.getElem_cons_succ, List.getElem_cons_zero, Act.put, List.setIfInBounds_toArray, List.set_cons_zero, List.set_cons_succ])
          repeat (first | (refine wpSeqB_pure (v := ?_) rfl ?_ ?_; rotate_left 1; (focus (intro wq_ hSq_; (try dsimp only at hSq_); go_simp; (try with_reducible rfl); done)); (try simp only [Act.put, List.setIfInBounds_toArray, List.set_cons_zero, List.set_cons_succ])) | (refine wpSeqB_pureG (v := ?_) rfl rfl ?_ ?_; rotate_left 1; (focus (intro wq_ hSq_; (try dsimp only at hSq_); go_simp; (try with_reducible rfl); done)); (try simp only [Act.put, List.setIfInBounds_toArray, List.set_cons_zero, List.set_cons_succ])) | (refine wpSeqB_off rfl rfl ?_; (try simp only [Act.put, List.setIfInBounds_toArray, List.set_cons_zero, List.set_cons_succ])) | (refine wpSeqB_offU rfl ?_; (try simp only [Act.put, List.setIfInBounds_toArray, List.set_cons_zero, List.set_cons_succ])))
          first | refine wpSeqB_call rfl (fun K hK => ?_) | refine wpSeqB_callG rfl rfl (fun K hK => ?_)
          go_simp
          refine hK.out _ _ trivial ?_
          clear hK K
          (try simp only [List.getElem_toArray, List.getElem_cons_succ, List.getElem_cons_zero, Act.put, List.setIfInBounds_toArray, List.set_cons_zero, List.set_cons_succ])
          intro s_
          refine wpB_end (by kernel_rfl) ?_
          clear s_
          go_wp2
          go_roundw
          case rel => exact ⟨j + 1, A6, c6, by omega, by go_num, by rw [HN.out]; exact HAP.out⟩
          case measure => simp [intOf]; omega
        · intro K hK
          go_simp
          refine hK.out _ _ trivial ?_
          clear hK K kd
          (try simp only [List.getElem_toArray, List.getElem_cons_succ, List.getElem_cons_zero, Act.put, List.setIfInBounds_toArray, List.set_cons_zero, List.set_cons_succ])
          have kd := (HY.out.ext (Ext.allocR wy (.cells #[.int .i64 (y : Int)] TIN))).hd.cells
          simp only [cellsAre, Nat.zero_add, Nat.reduceAdd, and_true] at kd
          refine wpB_chunk (f := 0) (L' := #[true, true, true, true, true, true, true, true]) hsel_ hQ_ [(1, false, some 49, none), (5, false, some 53, none), (6, true, some 54, none), (7, false, none, none)] _ _ _ (by kernel_rfl) trivial ?_
          repeat (first | (refine wpSeqB_pure (v := ?_) rfl ?_ ?_; rotate_left 1; (focus (intro wq_ hSq_; (try dsimp only at hSq_); go_simp; (try with_reducible rfl); done)); (try simp only [Act.put, List.setIfInBounds_toArray, List.set_cons_zero, List.set_cons_succ])) | (refine wpSeqB_pureG (v := ?_) rfl rfl ?_ ?_; rotate_left 1; (focus (intro wq_ hSq_; (try dsimp only at hSq_); go_simp; (try with_reducible rfl); done)); (try simp only [Act.put, List.setIfInBounds_toArray, List.set_cons_zero, List.set_cons_succ])) | (refine wpSeqB_off rfl rfl ?_; (try simp only [Act.put, List.setIfInBounds_toArray, List.set_cons_zero, List.set_cons_succ])) | (refine wpSeqB_offU rfl ?_; (try simp only [Act.put, List.setIfInBounds_toArray, List.set_cons_zero, List.set_cons_succ])))
          first | refine wpSeqB_call rfl (fun K hK => ?_) | refine wpSeqB_callG rfl rfl (fun K hK => ?_)
          go_simp
          refine hK.out _ _ trivial ?_
          clear hK K kd
          (try simp only [List.getElem_toArray, List.getElem_cons_succ, List.getElem_cons_zero, Act.put, List.setIfInBounds_toArray, List.set_cons_zero, List.set_cons_succ])
          first | refine wpSeqB_call rfl (fun K hK => ?_) | refine wpSeqB_callG rfl rfl (fun K hK => ?_)
          refine wp_appR TIS TIN (.int .i64 0) 1 8 in_info Tryz.underlying115 rfl (by omega) (by omega) _ _ (by rfl) w3.heap.size (.slice A5 j c5) j (ri (roots.take j)) (by rfl) (HY.out.ext (Ext.allocR wy (.cells #[.int .i64 (y : Int)] TIN))).ow (some ⟨wy.heap.size, 0, none⟩) 1 1 [.int .i64 (y : Int)] (by rfl) (rv_lit TIN 1 #[.int .i64 (y : Int)] 1 (by omega) rfl) (fun u hu => by rw [List.mem_singleton.1 hu]; rfl) (by omega) (by omega) (by have := HY.out.ch.size; simp; omega) ?_
          intro v6 w6 o6 g6 b6
          obtain ⟨A6, c6, ev, _⟩ := own_rv o6
          subst ev
          have hap := (HY.out.ext (Ext.allocR wy (.cells #[.int .i64 (y : Int)] TIN))).app o6 g6 b6
          have k6 := hap.1.cells
          have f6 := hap.1.free 2
          have HAP := Lib.hid hap.2
          simp only [cellsAre, Nat.zero_add, Nat.reduceAdd, and_true] at k6
          refine hK.out _ _ trivial ?_
          clear hK K o6 g6 b6 hap
          (try simp only [List.getElem_toArray, List.getElem_cons_succ, List.getElem_cons_zero, Act.put, List.setIfInBounds_toArray, List.set_cons_zero, List.set_cons_succ])
          repeat (first | (refine wpSeqB_pure (v := ?_) rfl ?_ ?_; rotate_left 1; (focus (intro wq_ hSq_; (try dsimp only at hSq_); go_simp; (try with_reducible rfl); done)); (try simp only [Act.put, List.setIfInBounds_toArray, List.set_cons_zero, List.set_cons_succ])) | (refine wpSeqB_pureG (v := ?_) rfl rfl ?_ ?_; rotate_left 1; (focus (intro wq_ hSq_; (try dsimp only at hSq_); go_simp; (try with_reducible rfl); done)); (try simp only [Act.put, List.setIfInBounds_toArray, List.set_cons_zero, List.set_cons_succ])) | (refine wpSeqB_off rfl rfl ?_; (try simp only [Act.put, List.setIfInBounds_toArray, List.set_cons_zero, List.set_cons_succ])) | (refine wpSeqB_offU rfl ?_; (try simp only [Act.put, List.setIfInBounds_toArray, List.set_cons_zero, List.set_cons_succ])))
          first | refine wpSeqB_call rfl (fun K hK => ?_) | refine wpSeqB_callG rfl rfl (fun K hK => ?_)
          go_simp
          refine hK.out _ _ trivial ?_
          clear hK K
          (try simp only [List.getElem_toArray, List.getElem_cons_succ, List.getElem_cons_zero, Act.put, List.setIfInBounds_toArray, List.set_cons_zero, List.set_cons_succ])
          intro s_
          refine wpB_end (by kernel_rfl) ?_
          clear s_
          go_wp2
          go_roundw
          case rel => exact ⟨j + 1, A6, c6, by omega, by go_num, by rw [HN.out]; exact HAP.out⟩
          case measure => simp [intOf]; omega
    · obtain rfl : j = m := by omega
      have hxr : Ext w wr := chg_ext X1.out (C3.out.trans HW.out.ch) HS.out.2
      have hbr : Blk wr w.heap.size THD #[.int .i64 0, .int .i64 0, .slice none 0 0] := (C3.out.trans HW.out.ch).blk HBR.out (fun e => HS.out.1 e)
      have hor : wr.ownsRow w3.heap.size TIN 1 (.slice A5 j c5) j (ri roots) := by
        have := HW.out.ow
        rw [List.take_of_length_le (by rw [HM.out]; exact Nat.le_refl _)] at this
        exact this
      have hle3 : w.heap.size ≤ w3.heap.size := Nat.le_trans X1.out.size C3.out.size
      have b9 : Blk (((wr.setCell ⟨w.heap.size, 0, none⟩ (.int .i64 (keep : Int))).setCell ⟨w.heap.size, 1, none⟩ (.int .i64 (num : Int))).setCell ⟨w.heap.size, 2, none⟩ (.slice A5 j c5)) w.heap.size THD #[.int .i64 (keep : Int), .int .i64 (num : Int), .slice A5 j c5] := ((hbr.set_ 0 _).set_ 1 _).set_ 2 _
      have x9 : Ext w (((wr.setCell ⟨w.heap.size, 0, none⟩ (.int .i64 (keep : Int))).setCell ⟨w.heap.size, 1, none⟩ (.int .i64 (num : Int))).setCell ⟨w.heap.size, 2, none⟩ (.slice A5 j c5)) := ((hxr.setCell (p := ⟨w.heap.size, 0, none⟩) (Nat.le_refl _) _).setCell (p := ⟨w.heap.size, 1, none⟩) (Nat.le_refl _) _).setCell (p := ⟨w.heap.size, 2, none⟩) (Nat.le_refl _) _
      have o9 : (((wr.setCell ⟨w.heap.size, 0, none⟩ (.int .i64 (keep : Int))).setCell ⟨w.heap.size, 1, none⟩ (.int .i64 (num : Int))).setCell ⟨w.heap.size, 2, none⟩ (.slice A5 j c5)).ownsRow w.heap.size TIN 1 (.slice A5 j c5) j (ri roots) := own_lower (own_far (own_far (own_far hor (p := ⟨w.heap.size, 0, none⟩) hbr (by decide) _) (p := ⟨w.heap.size, 1, none⟩) (hbr.set_ 0 _) (by decide) _) (p := ⟨w.heap.size, 2, none⟩) ((hbr.set_ 0 _).set_ 1 _) (by decide) _) hle3
      have kh := HW.out.hd.cells
      have kb := hbr.cells
      have fb := hbr.free
      simp only [cellsAre, Nat.zero_add, Nat.reduceAdd, and_true] at kh kb
      have H9 := Lib.hid (And.intro b9 (And.intro x9 o9))
      clear hxr hbr hor hle3 b9 x9 o9 HW
      go_wp2_with fail
      obtain ⟨w9, hw9⟩ : ∃ w9, ((wr.setCell ⟨w.heap.size, 0, none⟩ (.int .i64 (keep : Int))).setCell ⟨w.heap.size, 1, none⟩ (.int .i64 (num : Int))).setCell ⟨w.heap.size, 2, none⟩ (.slice A5 j c5) = w9 := ⟨_, rfl⟩
      rw [hw9] at H9 ⊢
      have k9 := H9.out.1.cells
      simp only [cellsAre, Nat.zero_add, Nat.reduceAdd, and_true] at k9
      clear hw9 kb fb kh
      (try simp only [Exit.inBlock, Exit.then])
      refine bodyPost_ret (v := (.tuple #[.agg #[.int .i64 (keep : Int), .int .i64 (num : Int), .slice A5 j c5], .bool true])) (by simp [results, Tryz.results60, go_sem, *]) rfl ?_
      exact ⟨_, rfl, ⟨_, _, rfl, H9.out.2.2⟩, H9.out.2.1⟩
end Go.Proofs.Tb
