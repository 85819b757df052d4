/- The reference's disk: NewDisk. -/
import Derived.Test.YtfljnfdeboibhaaRqj
set_option linter.unusedVariables false
set_option linter.unusedSimpArgs false
namespace Go.Proofs.Tb
open Go.Maps Go.RowKit Go.Lib
attribute [local go_sem] cell_set_same neqMapL

theorem sb_z64 : strOfNums (List.replicate 64 0) = sb z64 := by
  unfold sb z64
  rw [List.map_replicate]
  rfl
theorem NxW.put {base : Nat} {w W : World} {H1 H2 : Nat} {cs rs : Array Value} {v : Value} {bl : List (List (List Nat))} (h : NxW base w W H1 H2 cs rs v bl) (hne : H1 ≠ H2) (hw : w.heap.size ≤ H2) (i : Nat) (u : Value) : NxW base w (W.setCell ⟨H2, i, none⟩ u) H1 H2 cs (rs.setIfInBounds i u) v bl :=
  ⟨h.ex.setCell (p := ⟨H2, i, none⟩) hw u, h.bd.far (p := ⟨H2, i, none⟩) hne u, h.br.set_ i u, h.ow.setD h.br i u, Nat.le_trans h.lo (Nat.le_of_eq (by simp)), h.hi⟩
theorem newB_succ (j : Nat) : newB (j + 1) = newB j ++ [[z64]] := List.replicate_succ'
def S2 (w : World) (H1 H2 : Nat) (cs rs : Array Value) (W : World) : Prop := Ext w W ∧ Blk W H1 TRD cs ∧ Blk W H2 TRD rs
theorem NxW.s2 {base : Nat} {w W : World} {H1 H2 : Nat} {cs rs : Array Value} {v : Value} {bl : List (List (List Nat))} (h : NxW base w W H1 H2 cs rs v bl) : S2 w H1 H2 cs rs W := ⟨h.ex, h.bd, h.br⟩
set_option maxHeartbeats 3200000 in
set_option maxRecDepth 100000 in
theorem znewdisk_any (n : Nat) (hn : n ≤ 1000) (w : World) : Calls Try.prog 33 #[.int .i64 (n : Int)] w (Ret (fun z w' => RdV w' z (newB n) false 0) w) := by
  go_enter Try.func33, Try.ntmps33
  go_upto_region 2 with fail
  obtain ⟨H, hH⟩ : ∃ H, w.heap.size = H := ⟨_, rfl⟩
  refine wp_world (fun W => NxW w.heap.size w W H (H + 1) #[.slice none 0 0, .bool false, .bool false, .int .i64 0] #[.slice none 0 0, .bool false, .bool false, .int .i64 0] (.slice none 0 0) (newB 0)) ⟨bt (Ext.allocR _ _) (Ext.allocR _ _), (Blk.new_ _ _ hH).alloc _, Blk.new_ _ _ (by simp [hH]), OwTe.zero _ _, by simp; omega, Nat.le_refl _⟩ ?_
  rw [hH]
  rintro W2 n0
  have hHw : w.heap.size ≤ H := Nat.le_of_eq hH
  have hHw2 : w.heap.size ≤ H + 1 := by omega
  have N0 := Lib.hid n0
  clear n0 hH
  go_wp2_with fail
  go_loopw [4] (fun i wr => ∃ (j : Nat) (A5 : Option Addr) (c5 : Nat), j ≤ n ∧ i = .int .i64 (j : Int) ∧ NxW H w wr H (H + 1) #[.slice none 0 0, .bool false, .bool false, .int .i64 0] #[.slice A5 j c5, .bool false, .bool false, .int .i64 0] (.slice A5 j c5) (newB j)) (fun i _ => n - (intOf i).toNat)
  case atStart => exact ⟨0, _, 0, by omega, rfl, N0.out⟩
  case round =>
    clear N0
    obtain ⟨j, A5, c5, hj, rfl, hz⟩ := hrel
    obtain ⟨W4, rfl⟩ : ∃ W4, W4 = wr := ⟨_, rfl⟩
    have HZ := Lib.hid hz
    clear hz
    by_cases hjn : j < n
    · have pj : (j : Int) < (n : Int) := by omega
      have wj : IntKind.i64.wrap ((j : Int) + 1) = ((j + 1 : Nat) : Int) := by rw [IntWalk.i64_in _ (by omega)]; rfl
      go_upto_region 5 with fail
      refine wp_region_brn (S := (fun _ => True)) (by kernel_rfl) (by kernel_rfl) (fun _ _ _ _ _ => ⟨fun h => h, fun h => h⟩) ?_
      intro hsel_ hQ_
      have n5 := HZ.out.ext (Ext.drew W4)
      obtain ⟨wd, hwd⟩ : ∃ wd, W4.drew = wd := ⟨_, rfl⟩
      rw [hwd] at n5 ⊢
      have kb := fun w' (hh : Ext wd w') => (n5.ext hh).s2.2.2.cells
      simp only [cellsAre, Nat.zero_add, Nat.reduceAdd, and_true] at kb
      have N5 := Lib.hid n5
      clear hwd n5
      refine wpB_chunk (f := 7) (L' := #[true, false, false, false, false, false, false, false]) hsel_ hQ_ [(0, true, some 11, none)] _ _ _ (by kernel_rfl) trivial ?_
      repeat (first | (refine wpSeqB_pure (v := ?_) rfl ?_ ?_; rotate_left 1; (focus (intro wq_ hSq_; (try dsimp only at hSq_); go_simp; (try with_reducible rfl); done)); (try simp only [Act.put, List.setIfInBounds_toArray, List.set_cons_zero, List.set_cons_succ])) | (refine wpSeqB_pureG (v := ?_) rfl rfl ?_ ?_; rotate_left 1; (focus (intro wq_ hSq_; (try dsimp only at hSq_); go_simp; (try with_reducible rfl); done)); (try simp only [Act.put, List.setIfInBounds_toArray, List.set_cons_zero, List.set_cons_succ])) | (refine wpSeqB_off rfl rfl ?_; (try simp only [Act.put, List.setIfInBounds_toArray, List.set_cons_zero, List.set_cons_succ])) | (refine wpSeqB_offU rfl ?_; (try simp only [Act.put, List.setIfInBounds_toArray, List.set_cons_zero, List.set_cons_succ])))
      intro s0
      clear s0
      refine wpB_two 1 2 (by kernel_rfl) rfl rfl rfl rfl ?_ ?_
      · intro K hK
        have k0 := kb wd (Ext.refl _)
        go_simp
        clear k0
        refine hK.out _ _ trivial ?_
        clear hK K
        (try simp only [List.getElem_toArray, List.getElem_cons_succ, List.getElem_cons_zero, Act.put, List.setIfInBounds_toArray, List.set_cons_zero, List.set_cons_succ])
        refine wpB_chunk (f := 0) (L' := #[true, true, true, true, true, true, true, true]) hsel_ hQ_ [(2, false, some 13, none), (3, false, some 14, none), (4, false, some 15, none), (5, false, some 16, none), (6, true, some 17, none), (7, false, none, none)] _ _ _ (by kernel_rfl) trivial ?_
        repeat (first | (refine wpSeqB_pure (v := ?_) rfl ?_ ?_; rotate_left 1; (focus (intro wq_ hSq_; (try dsimp only at hSq_); go_simp; (try with_reducible rfl); done)); (try simp only [Act.put, List.setIfInBounds_toArray, List.set_cons_zero, List.set_cons_succ])) | (refine wpSeqB_pureG (v := ?_) rfl rfl ?_ ?_; rotate_left 1; (focus (intro wq_ hSq_; (try dsimp only at hSq_); go_simp; (try with_reducible rfl); done)); (try simp only [Act.put, List.setIfInBounds_toArray, List.set_cons_zero, List.set_cons_succ])) | (refine wpSeqB_off rfl rfl ?_; (try simp only [Act.put, List.setIfInBounds_toArray, List.set_cons_zero, List.set_cons_succ])) | (refine wpSeqB_offU rfl ?_; (try simp only [Act.put, List.setIfInBounds_toArray, List.set_cons_zero, List.set_cons_succ])))
        first | refine wpSeqB_call rfl (fun K hK => ?_) | refine wpSeqB_callG rfl rfl (fun K hK => ?_)
        go_simp
        refine (zzeros_any wd).mono ?_
        rintro e y1 ⟨z1, rfl, rfl, b1⟩
        rw [sb_z64]
        have N6 := Lib.hid (N5.out.ext b1)
        have X1 := Lib.hid (show Ext wd y1 from b1)
        clear b1
        refine hK.out _ _ trivial ?_
        clear hK K
        (try simp only [List.getElem_toArray, List.getElem_cons_succ, List.getElem_cons_zero, Act.put, List.setIfInBounds_toArray, List.set_cons_zero, List.set_cons_succ])
        repeat (first | (refine wpSeqB_pure (v := ?_) rfl ?_ ?_; rotate_left 1; (focus (intro wq_ hSq_; (try dsimp only at hSq_); go_simp; (try with_reducible rfl); done)); (try simp only [Act.put, List.setIfInBounds_toArray, List.set_cons_zero, List.set_cons_succ])) | (refine wpSeqB_pureG (v := ?_) rfl rfl ?_ ?_; rotate_left 1; (focus (intro wq_ hSq_; (try dsimp only at hSq_); go_simp; (try with_reducible rfl); done)); (try simp only [Act.put, List.setIfInBounds_toArray, List.set_cons_zero, List.set_cons_succ])) | (refine wpSeqB_off rfl rfl ?_; (try simp only [Act.put, List.setIfInBounds_toArray, List.set_cons_zero, List.set_cons_succ])) | (refine wpSeqB_offU rfl ?_; (try simp only [Act.put, List.setIfInBounds_toArray, List.set_cons_zero, List.set_cons_succ])))
        obtain ⟨zs, p1, p2, p3, p4⟩ := N6.out.app z64 (by unfold newB; rw [List.length_replicate])
        have HP := Lib.hid (And.intro p1 (And.intro p2 (And.intro p3 p4)))
        have X2 := Lib.hid (bt X1.out (Ext.allocR y1 (.cells #[.string (sb z64)] TST)))
        have X3 := Lib.hid (bt X2.out (Ext.allocR (y1.alloc (.cells #[.string (sb z64)] TST)) (.cells #[.slice (some ⟨y1.heap.size, 0, none⟩) 1 1] TSL)))
        clear p1 p2 p3 p4
        first | refine wpSeqB_call rfl (fun K hK => ?_) | refine wpSeqB_callG rfl rfl (fun K hK => ?_)
        go_simp
        refine hK.out _ _ trivial ?_
        clear hK K
        (try simp only [List.getElem_toArray, List.getElem_cons_succ, List.getElem_cons_zero, Act.put, List.setIfInBounds_toArray, List.set_cons_zero, List.set_cons_succ])
        repeat (first | (refine wpSeqB_pure (v := ?_) rfl ?_ ?_; rotate_left 1; (focus (intro wq_ hSq_; (try dsimp only at hSq_); go_simp; (try with_reducible rfl); done)); (try simp only [Act.put, List.setIfInBounds_toArray, List.set_cons_zero, List.set_cons_succ])) | (refine wpSeqB_pureG (v := ?_) rfl rfl ?_ ?_; rotate_left 1; (focus (intro wq_ hSq_; (try dsimp only at hSq_); go_simp; (try with_reducible rfl); done)); (try simp only [Act.put, List.setIfInBounds_toArray, List.set_cons_zero, List.set_cons_succ])) | (refine wpSeqB_off rfl rfl ?_; (try simp only [Act.put, List.setIfInBounds_toArray, List.set_cons_zero, List.set_cons_succ])) | (refine wpSeqB_offU rfl ?_; (try simp only [Act.put, List.setIfInBounds_toArray, List.set_cons_zero, List.set_cons_succ])))
        first | refine wpSeqB_call rfl (fun K hK => ?_) | refine wpSeqB_callG rfl rfl (fun K hK => ?_)
        go_simp
        refine hK.out _ _ trivial ?_
        clear hK K
        (try simp only [List.getElem_toArray, List.getElem_cons_succ, List.getElem_cons_zero, Act.put, List.setIfInBounds_toArray, List.set_cons_zero, List.set_cons_succ])
        repeat (first | (refine wpSeqB_pure (v := ?_) rfl ?_ ?_; rotate_left 1; (focus (intro wq_ hSq_; (try dsimp only at hSq_); go_simp; (try with_reducible rfl); done)); (try simp only [Act.put, List.setIfInBounds_toArray, List.set_cons_zero, List.set_cons_succ])) | (refine wpSeqB_pureG (v := ?_) rfl rfl ?_ ?_; rotate_left 1; (focus (intro wq_ hSq_; (try dsimp only at hSq_); go_simp; (try with_reducible rfl); done)); (try simp only [Act.put, List.setIfInBounds_toArray, List.set_cons_zero, List.set_cons_succ])) | (refine wpSeqB_off rfl rfl ?_; (try simp only [Act.put, List.setIfInBounds_toArray, List.set_cons_zero, List.set_cons_succ])) | (refine wpSeqB_offU rfl ?_; (try simp only [Act.put, List.setIfInBounds_toArray, List.set_cons_zero, List.set_cons_succ])))
        first | refine wpSeqB_call rfl (fun K hK => ?_) | refine wpSeqB_callG rfl rfl (fun K hK => ?_)
        refine wp_appR TSV TSL (.slice none 0 0) 1 24 sli_info Try.underlying73 rfl (by omega) (by omega) _ _ (by rfl) H (.slice A5 j c5) j zs (by rfl) HP.out.1 (some ⟨y1.heap.size + 1, 0, none⟩) 1 1 [.slice (some ⟨y1.heap.size, 0, none⟩) 1 1] (by rfl) HP.out.2.1 (slc_one1 _ _ _) (by omega) (by omega) HP.out.2.2.1 ?_
        intro v6 w6 o6 g6 b6
        obtain ⟨A6, c6, rfl, n6⟩ := HP.out.2.2.2 _ _ o6 g6 b6
        rw [← newB_succ] at n6
        have N8 := Lib.hid (n6.put (by omega) hHw2 0 (.slice A6 (j + 1) c6))
        have f6 := n6.br.free
        have k6 := n6.br.cells
        simp only [cellsAre, Nat.zero_add, Nat.reduceAdd, and_true] at k6
        clear o6 g6 b6 n6
        refine hK.out _ _ trivial ?_
        clear hK K
        (try simp only [List.getElem_toArray, List.getElem_cons_succ, List.getElem_cons_zero, Act.put, List.setIfInBounds_toArray, List.set_cons_zero, List.set_cons_succ])
        repeat (first | (refine wpSeqB_pure (v := ?_) rfl ?_ ?_; rotate_left 1; (focus (intro wq_ hSq_; (try dsimp only at hSq_); go_simp; (try with_reducible rfl); done)); (try simp only [Act.put, List.setIfInBounds_toArray, List.set_cons_zero, List.set_cons_succ])) | (refine wpSeqB_pureG (v := ?_) rfl rfl ?_ ?_; rotate_left 1; (focus (intro wq_ hSq_; (try dsimp only at hSq_); go_simp; (try with_reducible rfl); done)); (try simp only [Act.put, List.setIfInBounds_toArray, List.set_cons_zero, List.set_cons_succ])) | (refine wpSeqB_off rfl rfl ?_; (try simp only [Act.put, List.setIfInBounds_toArray, List.set_cons_zero, List.set_cons_succ])) | (refine wpSeqB_offU rfl ?_; (try simp only [Act.put, List.setIfInBounds_toArray, List.set_cons_zero, List.set_cons_succ])))
        first | refine wpSeqB_call rfl (fun K hK => ?_) | refine wpSeqB_callG rfl rfl (fun K hK => ?_)
        go_simp
        refine hK.out _ _ trivial ?_
        clear hK K f6 k6 kb
        intro s_
        clear s_
        refine wpB_end (by kernel_rfl) ?_
        go_wp2_with fail
        exact ⟨⟨j + 1, A6, c6, by omega, by go_num, N8.out⟩, by simp [intOf]; omega⟩
      · intro K hK
        go_simp
        refine (zzeros_any wd).mono ?_
        rintro e y1 ⟨z1, rfl, rfl, b1⟩
        rw [sb_z64]
        have N6 := Lib.hid (N5.out.ext b1)
        have X1 := Lib.hid (show Ext wd y1 from b1)
        clear b1
        refine hK.out _ _ trivial ?_
        clear hK K
        (try simp only [List.getElem_toArray, List.getElem_cons_succ, List.getElem_cons_zero, Act.put, List.setIfInBounds_toArray, List.set_cons_zero, List.set_cons_succ])
        obtain ⟨zs, p1, p2, p3, p4⟩ := N6.out.app z64 (by unfold newB; rw [List.length_replicate])
        have HP := Lib.hid (And.intro p1 (And.intro p2 (And.intro p3 p4)))
        have X2 := Lib.hid (bt X1.out (Ext.allocR y1 (.cells #[.string (sb z64)] TST)))
        have X3 := Lib.hid (bt X2.out (Ext.allocR (y1.alloc (.cells #[.string (sb z64)] TST)) (.cells #[.slice (some ⟨y1.heap.size, 0, none⟩) 1 1] TSL)))
        clear p1 p2 p3 p4
        refine wpB_two 1 3 (by kernel_rfl) rfl rfl rfl rfl ?_ ?_
        · intro K hK
          have k0 := kb y1 X1.out
          go_simp
          clear k0
          refine hK.out _ _ trivial ?_
          clear hK K
          (try simp only [List.getElem_toArray, List.getElem_cons_succ, List.getElem_cons_zero, Act.put, List.setIfInBounds_toArray, List.set_cons_zero, List.set_cons_succ])
          refine wpB_chunk (f := 0) (L' := #[true, true, true, true, true, true, true, true]) hsel_ hQ_ [(3, false, some 14, none), (4, false, some 15, none), (5, false, some 16, none), (6, true, some 17, none), (7, false, none, none)] _ _ _ (by kernel_rfl) trivial ?_
          repeat (first | (refine wpSeqB_pure (v := ?_) rfl ?_ ?_; rotate_left 1; (focus (intro wq_ hSq_; (try dsimp only at hSq_); go_simp; (try with_reducible rfl); done)); (try simp only [Act.put, List.setIfInBounds_toArray, List.set_cons_zero, List.set_cons_succ])) | (refine wpSeqB_pureG (v := ?_) rfl rfl ?_ ?_; rotate_left 1; (focus (intro wq_ hSq_; (try dsimp only at hSq_); go_simp; (try with_reducible rfl); done)); (try simp only [Act.put, List.setIfInBounds_toArray, List.set_cons_zero, List.set_cons_succ])) | (refine wpSeqB_off rfl rfl ?_; (try simp only [Act.put, List.setIfInBounds_toArray, List.set_cons_zero, List.set_cons_succ])) | (refine wpSeqB_offU rfl ?_; (try simp only [Act.put, List.setIfInBounds_toArray, List.set_cons_zero, List.set_cons_succ])))
          first | refine wpSeqB_call rfl (fun K hK => ?_) | refine wpSeqB_callG rfl rfl (fun K hK => ?_)
          go_simp
          refine hK.out _ _ trivial ?_
          clear hK K
          (try simp only [List.getElem_toArray, List.getElem_cons_succ, List.getElem_cons_zero, Act.put, List.setIfInBounds_toArray, List.set_cons_zero, List.set_cons_succ])
          repeat (first | (refine wpSeqB_pure (v := ?_) rfl ?_ ?_; rotate_left 1; (focus (intro wq_ hSq_; (try dsimp only at hSq_); go_simp; (try with_reducible rfl); done)); (try simp only [Act.put, List.setIfInBounds_toArray, List.set_cons_zero, List.set_cons_succ])) | (refine wpSeqB_pureG (v := ?_) rfl rfl ?_ ?_; rotate_left 1; (focus (intro wq_ hSq_; (try dsimp only at hSq_); go_simp; (try with_reducible rfl); done)); (try simp only [Act.put, List.setIfInBounds_toArray, List.set_cons_zero, List.set_cons_succ])) | (refine wpSeqB_off rfl rfl ?_; (try simp only [Act.put, List.setIfInBounds_toArray, List.set_cons_zero, List.set_cons_succ])) | (refine wpSeqB_offU rfl ?_; (try simp only [Act.put, List.setIfInBounds_toArray, List.set_cons_zero, List.set_cons_succ])))
          first | refine wpSeqB_call rfl (fun K hK => ?_) | refine wpSeqB_callG rfl rfl (fun K hK => ?_)
          go_simp
          refine hK.out _ _ trivial ?_
          clear hK K
          (try simp only [List.getElem_toArray, List.getElem_cons_succ, List.getElem_cons_zero, Act.put, List.setIfInBounds_toArray, List.set_cons_zero, List.set_cons_succ])
          repeat (first | (refine wpSeqB_pure (v := ?_) rfl ?_ ?_; rotate_left 1; (focus (intro wq_ hSq_; (try dsimp only at hSq_); go_simp; (try with_reducible rfl); done)); (try simp only [Act.put, List.setIfInBounds_toArray, List.set_cons_zero, List.set_cons_succ])) | (refine wpSeqB_pureG (v := ?_) rfl rfl ?_ ?_; rotate_left 1; (focus (intro wq_ hSq_; (try dsimp only at hSq_); go_simp; (try with_reducible rfl); done)); (try simp only [Act.put, List.setIfInBounds_toArray, List.set_cons_zero, List.set_cons_succ])) | (refine wpSeqB_off rfl rfl ?_; (try simp only [Act.put, List.setIfInBounds_toArray, List.set_cons_zero, List.set_cons_succ])) | (refine wpSeqB_offU rfl ?_; (try simp only [Act.put, List.setIfInBounds_toArray, List.set_cons_zero, List.set_cons_succ])))
          first | refine wpSeqB_call rfl (fun K hK => ?_) | refine wpSeqB_callG rfl rfl (fun K hK => ?_)
          refine wp_appR TSV TSL (.slice none 0 0) 1 24 sli_info Try.underlying73 rfl (by omega) (by omega) _ _ (by rfl) H (.slice A5 j c5) j zs (by rfl) HP.out.1 (some ⟨y1.heap.size + 1, 0, none⟩) 1 1 [.slice (some ⟨y1.heap.size, 0, none⟩) 1 1] (by rfl) HP.out.2.1 (slc_one1 _ _ _) (by omega) (by omega) HP.out.2.2.1 ?_
          intro v6 w6 o6 g6 b6
          obtain ⟨A6, c6, rfl, n6⟩ := HP.out.2.2.2 _ _ o6 g6 b6
          rw [← newB_succ] at n6
          have N8 := Lib.hid (n6.put (by omega) hHw2 0 (.slice A6 (j + 1) c6))
          have f6 := n6.br.free
          have k6 := n6.br.cells
          simp only [cellsAre, Nat.zero_add, Nat.reduceAdd, and_true] at k6
          clear o6 g6 b6 n6
          refine hK.out _ _ trivial ?_
          clear hK K
          (try simp only [List.getElem_toArray, List.getElem_cons_succ, List.getElem_cons_zero, Act.put, List.setIfInBounds_toArray, List.set_cons_zero, List.set_cons_succ])
          repeat (first | (refine wpSeqB_pure (v := ?_) rfl ?_ ?_; rotate_left 1; (focus (intro wq_ hSq_; (try dsimp only at hSq_); go_simp; (try with_reducible rfl); done)); (try simp only [Act.put, List.setIfInBounds_toArray, List.set_cons_zero, List.set_cons_succ])) | (refine wpSeqB_pureG (v := ?_) rfl rfl ?_ ?_; rotate_left 1; (focus (intro wq_ hSq_; (try dsimp only at hSq_); go_simp; (try with_reducible rfl); done)); (try simp only [Act.put, List.setIfInBounds_toArray, List.set_cons_zero, List.set_cons_succ])) | (refine wpSeqB_off rfl rfl ?_; (try simp only [Act.put, List.setIfInBounds_toArray, List.set_cons_zero, List.set_cons_succ])) | (refine wpSeqB_offU rfl ?_; (try simp only [Act.put, List.setIfInBounds_toArray, List.set_cons_zero, List.set_cons_succ])))
          first | refine wpSeqB_call rfl (fun K hK => ?_) | refine wpSeqB_callG rfl rfl (fun K hK => ?_)
          go_simp
          refine hK.out _ _ trivial ?_
          clear hK K f6 k6 kb
          intro s_
          clear s_
          refine wpB_end (by kernel_rfl) ?_
          go_wp2_with fail
          exact ⟨⟨j + 1, A6, c6, by omega, by go_num, N8.out⟩, by simp [intOf]; omega⟩
        · intro K hK
          go_simp
          refine hK.out _ _ trivial ?_
          clear hK K
          (try simp only [List.getElem_toArray, List.getElem_cons_succ, List.getElem_cons_zero, Act.put, List.setIfInBounds_toArray, List.set_cons_zero, List.set_cons_succ])
          refine wpB_two 1 4 (by kernel_rfl) rfl rfl rfl rfl ?_ ?_
          · intro K hK
            have k0 := kb _ X2.out
            go_simp
            clear k0
            refine hK.out _ _ trivial ?_
            clear hK K
            (try simp only [List.getElem_toArray, List.getElem_cons_succ, List.getElem_cons_zero, Act.put, List.setIfInBounds_toArray, List.set_cons_zero, List.set_cons_succ])
            refine wpB_chunk (f := 0) (L' := #[true, true, true, true, true, true, true, true]) hsel_ hQ_ [(4, false, some 15, none), (5, false, some 16, none), (6, true, some 17, none), (7, false, none, none)] _ _ _ (by kernel_rfl) trivial ?_
            repeat (first | (refine wpSeqB_pure (v := ?_) rfl ?_ ?_; rotate_left 1; (focus (intro wq_ hSq_; (try dsimp only at hSq_); go_simp; (try with_reducible rfl); done)); (try simp only [Act.put, List.setIfInBounds_toArray, List.set_cons_zero, List.set_cons_succ])) | (refine wpSeqB_pureG (v := ?_) rfl rfl ?_ ?_; rotate_left 1; (focus (intro wq_ hSq_; (try dsimp only at hSq_); go_simp; (try with_reducible rfl); done)); (try simp only [Act.put, List.setIfInBounds_toArray, List.set_cons_zero, List.set_cons_succ])) | (refine wpSeqB_off rfl rfl ?_; (try simp only [Act.put, List.setIfInBounds_toArray, List.set_cons_zero, List.set_cons_succ])) | (refine wpSeqB_offU rfl ?_; (try simp only [Act.put, List.setIfInBounds_toArray, List.set_cons_zero, List.set_cons_succ])))
            first | refine wpSeqB_call rfl (fun K hK => ?_) | refine wpSeqB_callG rfl rfl (fun K hK => ?_)
            go_simp
            refine hK.out _ _ trivial ?_
            clear hK K
            (try simp only [List.getElem_toArray, List.getElem_cons_succ, List.getElem_cons_zero, Act.put, List.setIfInBounds_toArray, List.set_cons_zero, List.set_cons_succ])
            repeat (first | (refine wpSeqB_pure (v := ?_) rfl ?_ ?_; rotate_left 1; (focus (intro wq_ hSq_; (try dsimp only at hSq_); go_simp; (try with_reducible rfl); done)); (try simp only [Act.put, List.setIfInBounds_toArray, List.set_cons_zero, List.set_cons_succ])) | (refine wpSeqB_pureG (v := ?_) rfl rfl ?_ ?_; rotate_left 1; (focus (intro wq_ hSq_; (try dsimp only at hSq_); go_simp; (try with_reducible rfl); done)); (try simp only [Act.put, List.setIfInBounds_toArray, List.set_cons_zero, List.set_cons_succ])) | (refine wpSeqB_off rfl rfl ?_; (try simp only [Act.put, List.setIfInBounds_toArray, List.set_cons_zero, List.set_cons_succ])) | (refine wpSeqB_offU rfl ?_; (try simp only [Act.put, List.setIfInBounds_toArray, List.set_cons_zero, List.set_cons_succ])))
            first | refine wpSeqB_call rfl (fun K hK => ?_) | refine wpSeqB_callG rfl rfl (fun K hK => ?_)
            refine wp_appR TSV TSL (.slice none 0 0) 1 24 sli_info Try.underlying73 rfl (by omega) (by omega) _ _ (by rfl) H (.slice A5 j c5) j zs (by rfl) HP.out.1 (some ⟨y1.heap.size + 1, 0, none⟩) 1 1 [.slice (some ⟨y1.heap.size, 0, none⟩) 1 1] (by rfl) HP.out.2.1 (slc_one1 _ _ _) (by omega) (by omega) HP.out.2.2.1 ?_
            intro v6 w6 o6 g6 b6
            obtain ⟨A6, c6, rfl, n6⟩ := HP.out.2.2.2 _ _ o6 g6 b6
            rw [← newB_succ] at n6
            have N8 := Lib.hid (n6.put (by omega) hHw2 0 (.slice A6 (j + 1) c6))
            have f6 := n6.br.free
            have k6 := n6.br.cells
            simp only [cellsAre, Nat.zero_add, Nat.reduceAdd, and_true] at k6
            clear o6 g6 b6 n6
            refine hK.out _ _ trivial ?_
            clear hK K
            (try simp only [List.getElem_toArray, List.getElem_cons_succ, List.getElem_cons_zero, Act.put, List.setIfInBounds_toArray, List.set_cons_zero, List.set_cons_succ])
            repeat (first | (refine wpSeqB_pure (v := ?_) rfl ?_ ?_; rotate_left 1; (focus (intro wq_ hSq_; (try dsimp only at hSq_); go_simp; (try with_reducible rfl); done)); (try simp only [Act.put, List.setIfInBounds_toArray, List.set_cons_zero, List.set_cons_succ])) | (refine wpSeqB_pureG (v := ?_) rfl rfl ?_ ?_; rotate_left 1; (focus (intro wq_ hSq_; (try dsimp only at hSq_); go_simp; (try with_reducible rfl); done)); (try simp only [Act.put, List.setIfInBounds_toArray, List.set_cons_zero, List.set_cons_succ])) | (refine wpSeqB_off rfl rfl ?_; (try simp only [Act.put, List.setIfInBounds_toArray, List.set_cons_zero, List.set_cons_succ])) | (refine wpSeqB_offU rfl ?_; (try simp only [Act.put, List.setIfInBounds_toArray, List.set_cons_zero, List.set_cons_succ])))
            first | refine wpSeqB_call rfl (fun K hK => ?_) | refine wpSeqB_callG rfl rfl (fun K hK => ?_)
            go_simp
            refine hK.out _ _ trivial ?_
            clear hK K f6 k6 kb
            intro s_
            clear s_
            refine wpB_end (by kernel_rfl) ?_
            go_wp2_with fail
            exact ⟨⟨j + 1, A6, c6, by omega, by go_num, N8.out⟩, by simp [intOf]; omega⟩
          · intro K hK
            go_simp
            refine hK.out _ _ trivial ?_
            clear hK K
            (try simp only [List.getElem_toArray, List.getElem_cons_succ, List.getElem_cons_zero, Act.put, List.setIfInBounds_toArray, List.set_cons_zero, List.set_cons_succ])
            refine wpB_chunk (f := 0) (L' := #[true, true, true, true, true, true, true, true]) hsel_ hQ_ [(1, false, some 12, none), (5, false, some 16, none), (6, true, some 17, none), (7, false, none, none)] _ _ _ (by kernel_rfl) trivial ?_
            repeat (first | (refine wpSeqB_pure (v := ?_) rfl ?_ ?_; rotate_left 1; (focus (intro wq_ hSq_; (try dsimp only at hSq_); go_simp; (try with_reducible rfl); done)); (try simp only [Act.put, List.setIfInBounds_toArray, List.set_cons_zero, List.set_cons_succ])) | (refine wpSeqB_pureG (v := ?_) rfl rfl ?_ ?_; rotate_left 1; (focus (intro wq_ hSq_; (try dsimp only at hSq_); go_simp; (try with_reducible rfl); done)); (try simp only [Act.put, List.setIfInBounds_toArray, List.set_cons_zero, List.set_cons_succ])) | (refine wpSeqB_off rfl rfl ?_; (try simp only [Act.put, List.setIfInBounds_toArray, List.set_cons_zero, List.set_cons_succ])) | (refine wpSeqB_offU rfl ?_; (try simp only [Act.put, List.setIfInBounds_toArray, List.set_cons_zero, List.set_cons_succ])))
            have k0 := kb _ X3.out
            first | refine wpSeqB_call rfl (fun K hK => ?_) | refine wpSeqB_callG rfl rfl (fun K hK => ?_)
            go_simp
            clear k0
            refine hK.out _ _ trivial ?_
            clear hK K
            (try simp only [List.getElem_toArray, List.getElem_cons_succ, List.getElem_cons_zero, Act.put, List.setIfInBounds_toArray, List.set_cons_zero, List.set_cons_succ])
            repeat (first | (refine wpSeqB_pure (v := ?_) rfl ?_ ?_; rotate_left 1; (focus (intro wq_ hSq_; (try dsimp only at hSq_); go_simp; (try with_reducible rfl); done)); (try simp only [Act.put, List.setIfInBounds_toArray, List.set_cons_zero, List.set_cons_succ])) | (refine wpSeqB_pureG (v := ?_) rfl rfl ?_ ?_; rotate_left 1; (focus (intro wq_ hSq_; (try dsimp only at hSq_); go_simp; (try with_reducible rfl); done)); (try simp only [Act.put, List.setIfInBounds_toArray, List.set_cons_zero, List.set_cons_succ])) | (refine wpSeqB_off rfl rfl ?_; (try simp only [Act.put, List.setIfInBounds_toArray, List.set_cons_zero, List.set_cons_succ])) | (refine wpSeqB_offU rfl ?_; (try simp only [Act.put, List.setIfInBounds_toArray, List.set_cons_zero, List.set_cons_succ])))
            first | refine wpSeqB_call rfl (fun K hK => ?_) | refine wpSeqB_callG rfl rfl (fun K hK => ?_)
            refine wp_appR TSV TSL (.slice none 0 0) 1 24 sli_info Try.underlying73 rfl (by omega) (by omega) _ _ (by rfl) H (.slice A5 j c5) j zs (by rfl) HP.out.1 (some ⟨y1.heap.size + 1, 0, none⟩) 1 1 [.slice (some ⟨y1.heap.size, 0, none⟩) 1 1] (by rfl) HP.out.2.1 (slc_one1 _ _ _) (by omega) (by omega) HP.out.2.2.1 ?_
            intro v6 w6 o6 g6 b6
            obtain ⟨A6, c6, rfl, n6⟩ := HP.out.2.2.2 _ _ o6 g6 b6
            rw [← newB_succ] at n6
            have N8 := Lib.hid (n6.put (by omega) hHw2 0 (.slice A6 (j + 1) c6))
            have f6 := n6.br.free
            have k6 := n6.br.cells
            simp only [cellsAre, Nat.zero_add, Nat.reduceAdd, and_true] at k6
            clear o6 g6 b6 n6
            refine hK.out _ _ trivial ?_
            clear hK K
            (try simp only [List.getElem_toArray, List.getElem_cons_succ, List.getElem_cons_zero, Act.put, List.setIfInBounds_toArray, List.set_cons_zero, List.set_cons_succ])
            repeat (first | (refine wpSeqB_pure (v := ?_) rfl ?_ ?_; rotate_left 1; (focus (intro wq_ hSq_; (try dsimp only at hSq_); go_simp; (try with_reducible rfl); done)); (try simp only [Act.put, List.setIfInBounds_toArray, List.set_cons_zero, List.set_cons_succ])) | (refine wpSeqB_pureG (v := ?_) rfl rfl ?_ ?_; rotate_left 1; (focus (intro wq_ hSq_; (try dsimp only at hSq_); go_simp; (try with_reducible rfl); done)); (try simp only [Act.put, List.setIfInBounds_toArray, List.set_cons_zero, List.set_cons_succ])) | (refine wpSeqB_off rfl rfl ?_; (try simp only [Act.put, List.setIfInBounds_toArray, List.set_cons_zero, List.set_cons_succ])) | (refine wpSeqB_offU rfl ?_; (try simp only [Act.put, List.setIfInBounds_toArray, List.set_cons_zero, List.set_cons_succ])))
            first | refine wpSeqB_call rfl (fun K hK => ?_) | refine wpSeqB_callG rfl rfl (fun K hK => ?_)
            go_simp
            refine hK.out _ _ trivial ?_
            clear hK K f6 k6 kb
            intro s_
            clear s_
            refine wpB_end (by kernel_rfl) ?_
            go_wp2_with fail
            exact ⟨⟨j + 1, A6, c6, by omega, by go_num, N8.out⟩, by simp [intOf]; omega⟩
    · obtain rfl : j = n := by omega
      have kr := HZ.out.br.cells
      have kd := HZ.out.bd.cells
      have kf := HZ.out.bd.free
      simp only [cellsAre, Nat.zero_add, Nat.reduceAdd, and_true] at kr kd
      go_wp2_with fail
      (try simp only [Exit.inBlock, Exit.then])
      refine bodyPost_ret (v := (.agg #[.slice A5 j c5, .bool false, .bool false, .int .i64 0])) (by simp [results, Try.results33, go_sem, *]) rfl ?_
      have hn := HZ.out
      have E9 := (((hn.ex.setCell (p := ⟨H, 0, none⟩) hHw (.slice A5 j c5)).setCell (p := ⟨H, 1, none⟩) hHw (.bool false)).setCell (p := ⟨H, 2, none⟩) hHw (.bool false)).setCell (p := ⟨H, 3, none⟩) hHw (.int .i64 0)
      have r2 := hn.bd.set_ 0 (.slice A5 j c5)
      have r3 := r2.set_ 1 (.bool false)
      have r4 := r3.set_ 2 (.bool false)
      have d5 := (((hn.ow.td.setD hn.bd 0 (.slice A5 j c5)).setD r2 1 (.bool false)).setD r3 2 (.bool false)).setD r4 3 (.int .i64 0)
      exact ⟨_, rfl, ⟨A5, j, c5, false, 0, rfl, d5, fun _ => ⟨rfl, fun h => absurd h (by omega)⟩⟩, E9⟩
end Go.Proofs.Tb
