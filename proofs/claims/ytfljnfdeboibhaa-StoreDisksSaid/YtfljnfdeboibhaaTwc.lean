/- Contracts of open and heads at blocks of another kind. (With what follows it, in one text.) -/
import Derived.Test.YtfljnfdeboibhaaTwb
import Derived.Test.YtfljnfdeboibhaaRob
import Derived.Laws.BytesArg
set_option linter.unusedVariables false
set_option linter.unusedSimpArgs false
/- Contracts of open and heads at blocks of another kind. -/
namespace Go.Proofs.Tb
open Go.Maps Go.RowKit Go.Lib
attribute [local go_sem] cell_set_same neqMapL

section
variable {P : Program} {ops : Array Oper} {Q : Exit → Act → World → Prop} {md : Region.Mode} {S : World → Prop}
/-- Two operations may come up, the second one of them guarded off. -/
theorem wpB_twoOff {K : Act → World → Prop} {f : Nat} {listed : Array Bool} {a : Act} {w : World} {oi oj : Oper} (i j : Nat) {t : Tmp} {b : Bool} {g : Value} (hr : decide (Region.ready md ops listed = [i, j]) = true) (hi : ops[i]? = some oi) (hj : ops[j]? = some oj) (gi : oi.guard = none) (gj : grdOk ops oj (some (t, b)) = true) (hgv : a.tmps[t]? = some g) (hn : g ≠ .bool b) (hS : S w)
    (h1 : ∀ K' : Act → World → Prop, Shut (∀ a' w', S w' → wpB P md ops Q S K f (listed.setIfInBounds i true) a' w' → K' a' w') → Oper.wp P oi a w K' Q)
    (h2 : wpB P md ops Q S K f (listed.setIfInBounds j true) (a.put oj.dst undef) w) :
    wpB P md ops Q S K (f + 1) listed a w := by
  have hr' : Region.ready md ops listed = [i, j] := by simpa using hr
  refine ⟨fun h0 => (not_ready_all h0 (md := md) (i := i) (by rw [hr']; simp)).elim, fun k hk => ?_⟩
  rw [hr'] at hk
  rcases List.mem_cons.1 hk with rfl | hk
  · exact wpOp_on hi (wanted_none gi _) fun K' hK => h1 K' fun a' w' hs h => hK a' w' ⟨hs, h⟩
  · obtain rfl : k = j := by simpa using hk
    exact wpOp_off hj (wanted_no gj hgv hn) ⟨hS, h2⟩
end
abbrev TSC : TypeId := 168
set_option maxHeartbeats 3200000 in
set_option maxRecDepth 100000 in
theorem ropen_no (A : Option Addr) (c : Nat) (bs : List Nat) (x tag : Nat) (w : World) (h : Rv w 1 A 64 c (bc bs)) (h0 : bs[0]? = some x) (hx : x ≠ tag) :
    Calls Try.prog 89 #[.slice A 64 c, .int .u8 (tag : Int)] w (Ret (fun z _ => ∃ p, z = .tuple #[.pointer p, .bool false]) w) := by
  have hle := h.le
  have hcp := h.cap
  obtain ⟨b, o, rfl, hc⟩ := h.at_ (by omega)
  have k0 := hc 0 (.int .u8 (x : Int)) (by unfold bc; rw [List.getElem?_map, h0]; rfl)
  rw [Nat.add_zero] at k0
  have kk := fun w' (hh : Ext w w') => ext_cell hh k0
  have q1 : ¬ c = 1 := by omega
  have q2 : 60 ≤ c := by omega
  have q3 : 1 < c := by omega
  have q4 : (60 : Int) ≤ (c : Int) := by omega
  have hne : ((x : Int) == (tag : Int)) = false := by rw [beq_eq_false_iff_ne]; omega
  have hne' : ¬ (x : Int) = (tag : Int) := by omega
  clear h hc k0 h0 hx
  go_enter Try.func89, Try.ntmps89
  go_upto_region 2 with fail
  refine wp_world (fun W => Ext w W) (Ext.allocR _ _) ?_
  rintro W1 hx1
  have hst : Ext w W1.drew := bt hx1 (Ext.drew _)
  refine wp_region_brn (S := (Ext w)) (by kernel_rfl) (by kernel_rfl) (fun _ _ _ _ _ => ⟨fun h => h, fun h => h⟩) ?_
  intro hsel_ hQ_
  refine wpB_chunk (f := 7) (L' := #[true, true, true, false, true, true, true, true, true, true, true, false, true, true, false, false, false, false, false]) hsel_ hQ_ [(0, true, some 11, none), (1, true, some 12, none), (2, true, some 13, none), (4, true, some 15, none), (5, true, some 16, none), (6, true, some 17, none), (7, true, some 18, none), (8, true, some 19, none), (9, true, some 20, none), (10, true, some 21, some (20, true)), (12, true, some 23, some (20, true)), (13, true, some 24, some (20, true))] _ _ _ (by kernel_rfl) hst ?_
  repeat (first | (refine wpSeqB_pure (v := ?_) rfl ?_ ?_; rotate_left 1; (focus (intro wq_ hSq_; (try dsimp only at hSq_); go_simp; (try with_reducible rfl); done)); (try simp only [Act.put, List.setIfInBounds_toArray, List.set_cons_zero, List.set_cons_succ])) | (refine wpSeqB_pureG (v := ?_) rfl rfl ?_ ?_; rotate_left 1; (focus (intro wq_ hSq_; (try dsimp only at hSq_); go_simp; (try with_reducible rfl); done)); (try simp only [Act.put, List.setIfInBounds_toArray, List.set_cons_zero, List.set_cons_succ])) | (refine wpSeqB_off rfl rfl ?_; (try simp only [Act.put, List.setIfInBounds_toArray, List.set_cons_zero, List.set_cons_succ])) | (refine wpSeqB_offU rfl ?_; (try simp only [Act.put, List.setIfInBounds_toArray, List.set_cons_zero, List.set_cons_succ])))
  intro s0
  clear s0
  refine wpB_twoOff 3 11 (t := 20) (b := true) (g := .bool false) (by kernel_rfl) rfl rfl rfl (by kernel_rfl) rfl (by simp) hst ?_ ?_
  · intro K hK
    go_simp
    have s1 : Ext w (W1.drew.alloc (.cells #[.slice (some ⟨b, o + 1, none⟩) 59 (c - 1)] TSC)) := bt hst (Ext.allocR _ _)
    refine hK.out _ _ s1 ?_
    clear hK K
    (try simp only [List.getElem_toArray, List.getElem_cons_succ, List.getElem_cons_zero, Act.put, List.setIfInBounds_toArray, List.set_cons_zero, List.set_cons_succ])
    refine wpB_chunk (f := 0) (L' := #[true, true, true, true, true, true, true, true, true, true, true, true, true, true, true, true, true, true, true]) hsel_ hQ_ [(11, false, some 22, some (20, true)), (14, false, some 25, some (20, true)), (15, true, some 26, some (20, true)), (16, true, some 27, none), (17, false, some 4, none), (18, false, some 5, none)] _ _ _ (by kernel_rfl) s1 ?_
    repeat (first | (refine wpSeqB_pure (v := ?_) rfl ?_ ?_; rotate_left 1; (focus (intro wq_ hSq_; (try dsimp only at hSq_); go_simp; (try with_reducible rfl); done)); (try simp only [Act.put, List.setIfInBounds_toArray, List.set_cons_zero, List.set_cons_succ])) | (refine wpSeqB_pureG (v := ?_) rfl rfl ?_ ?_; rotate_left 1; (focus (intro wq_ hSq_; (try dsimp only at hSq_); go_simp; (try with_reducible rfl); done)); (try simp only [Act.put, List.setIfInBounds_toArray, List.set_cons_zero, List.set_cons_succ])) | (refine wpSeqB_off rfl rfl ?_; (try simp only [Act.put, List.setIfInBounds_toArray, List.set_cons_zero, List.set_cons_succ])) | (refine wpSeqB_offU rfl ?_; (try simp only [Act.put, List.setIfInBounds_toArray, List.set_cons_zero, List.set_cons_succ])))
    first | refine wpSeqB_call rfl (fun K hK => ?_) | refine wpSeqB_callG rfl rfl (fun K hK => ?_)
    go_simp
    refine hK.out _ _ s1 ?_
    clear hK K
    (try simp only [List.getElem_toArray, List.getElem_cons_succ, List.getElem_cons_zero, Act.put, List.setIfInBounds_toArray, List.set_cons_zero, List.set_cons_succ])
    repeat (first | (refine wpSeqB_pure (v := ?_) rfl ?_ ?_; rotate_left 1; (focus (intro wq_ hSq_; (try dsimp only at hSq_); go_simp; (try with_reducible rfl); done)); (try simp only [Act.put, List.setIfInBounds_toArray, List.set_cons_zero, List.set_cons_succ])) | (refine wpSeqB_pureG (v := ?_) rfl rfl ?_ ?_; rotate_left 1; (focus (intro wq_ hSq_; (try dsimp only at hSq_); go_simp; (try with_reducible rfl); done)); (try simp only [Act.put, List.setIfInBounds_toArray, List.set_cons_zero, List.set_cons_succ])) | (refine wpSeqB_off rfl rfl ?_; (try simp only [Act.put, List.setIfInBounds_toArray, List.set_cons_zero, List.set_cons_succ])) | (refine wpSeqB_offU rfl ?_; (try simp only [Act.put, List.setIfInBounds_toArray, List.set_cons_zero, List.set_cons_succ])))
    first | refine wpSeqB_call rfl (fun K hK => ?_) | refine wpSeqB_callG rfl rfl (fun K hK => ?_)
    go_simp
    refine hK.out _ _ s1 ?_
    clear hK K
    (try simp only [List.getElem_toArray, List.getElem_cons_succ, List.getElem_cons_zero, Act.put, List.setIfInBounds_toArray, List.set_cons_zero, List.set_cons_succ])
    repeat (first | (refine wpSeqB_pure (v := ?_) rfl ?_ ?_; rotate_left 1; (focus (intro wq_ hSq_; (try dsimp only at hSq_); go_simp; (try with_reducible rfl); done)); (try simp only [Act.put, List.setIfInBounds_toArray, List.set_cons_zero, List.set_cons_succ])) | (refine wpSeqB_pureG (v := ?_) rfl rfl ?_ ?_; rotate_left 1; (focus (intro wq_ hSq_; (try dsimp only at hSq_); go_simp; (try with_reducible rfl); done)); (try simp only [Act.put, List.setIfInBounds_toArray, List.set_cons_zero, List.set_cons_succ])) | (refine wpSeqB_off rfl rfl ?_; (try simp only [Act.put, List.setIfInBounds_toArray, List.set_cons_zero, List.set_cons_succ])) | (refine wpSeqB_offU rfl ?_; (try simp only [Act.put, List.setIfInBounds_toArray, List.set_cons_zero, List.set_cons_succ])))
    intro s_
    refine wpB_end (by kernel_rfl) ?_
    clear s_
    go_wp2_with fail
    go_returns
    exact ⟨_, rfl, ⟨_, rfl⟩, s1⟩
  · (try simp only [List.getElem_toArray, List.getElem_cons_succ, List.getElem_cons_zero, Act.put, List.setIfInBounds_toArray, List.set_cons_zero, List.set_cons_succ])
    refine wpB_twoOff 3 14 (t := 20) (b := true) (g := .bool false) (by kernel_rfl) rfl rfl rfl (by kernel_rfl) rfl (by simp) hst ?_ ?_
    · intro K hK
      go_simp
      have s1 : Ext w (W1.drew.alloc (.cells #[.slice (some ⟨b, o + 1, none⟩) 59 (c - 1)] TSC)) := bt hst (Ext.allocR _ _)
      refine hK.out _ _ s1 ?_
      clear hK K
      (try simp only [List.getElem_toArray, List.getElem_cons_succ, List.getElem_cons_zero, Act.put, List.setIfInBounds_toArray, List.set_cons_zero, List.set_cons_succ])
      refine wpB_chunk (f := 0) (L' := #[true, true, true, true, true, true, true, true, true, true, true, true, true, true, true, true, true, true, true]) hsel_ hQ_ [(14, false, some 25, some (20, true)), (15, true, some 26, some (20, true)), (16, true, some 27, none), (17, false, some 4, none), (18, false, some 5, none)] _ _ _ (by kernel_rfl) s1 ?_
      repeat (first | (refine wpSeqB_pure (v := ?_) rfl ?_ ?_; rotate_left 1; (focus (intro wq_ hSq_; (try dsimp only at hSq_); go_simp; (try with_reducible rfl); done)); (try simp only [Act.put, List.setIfInBounds_toArray, List.set_cons_zero, List.set_cons_succ])) | (refine wpSeqB_pureG (v := ?_) rfl rfl ?_ ?_; rotate_left 1; (focus (intro wq_ hSq_; (try dsimp only at hSq_); go_simp; (try with_reducible rfl); done)); (try simp only [Act.put, List.setIfInBounds_toArray, List.set_cons_zero, List.set_cons_succ])) | (refine wpSeqB_off rfl rfl ?_; (try simp only [Act.put, List.setIfInBounds_toArray, List.set_cons_zero, List.set_cons_succ])) | (refine wpSeqB_offU rfl ?_; (try simp only [Act.put, List.setIfInBounds_toArray, List.set_cons_zero, List.set_cons_succ])))
      first | refine wpSeqB_call rfl (fun K hK => ?_) | refine wpSeqB_callG rfl rfl (fun K hK => ?_)
      go_simp
      refine hK.out _ _ s1 ?_
      clear hK K
      (try simp only [List.getElem_toArray, List.getElem_cons_succ, List.getElem_cons_zero, Act.put, List.setIfInBounds_toArray, List.set_cons_zero, List.set_cons_succ])
      repeat (first | (refine wpSeqB_pure (v := ?_) rfl ?_ ?_; rotate_left 1; (focus (intro wq_ hSq_; (try dsimp only at hSq_); go_simp; (try with_reducible rfl); done)); (try simp only [Act.put, List.setIfInBounds_toArray, List.set_cons_zero, List.set_cons_succ])) | (refine wpSeqB_pureG (v := ?_) rfl rfl ?_ ?_; rotate_left 1; (focus (intro wq_ hSq_; (try dsimp only at hSq_); go_simp; (try with_reducible rfl); done)); (try simp only [Act.put, List.setIfInBounds_toArray, List.set_cons_zero, List.set_cons_succ])) | (refine wpSeqB_off rfl rfl ?_; (try simp only [Act.put, List.setIfInBounds_toArray, List.set_cons_zero, List.set_cons_succ])) | (refine wpSeqB_offU rfl ?_; (try simp only [Act.put, List.setIfInBounds_toArray, List.set_cons_zero, List.set_cons_succ])))
      first | refine wpSeqB_call rfl (fun K hK => ?_) | refine wpSeqB_callG rfl rfl (fun K hK => ?_)
      go_simp
      refine hK.out _ _ s1 ?_
      clear hK K
      (try simp only [List.getElem_toArray, List.getElem_cons_succ, List.getElem_cons_zero, Act.put, List.setIfInBounds_toArray, List.set_cons_zero, List.set_cons_succ])
      repeat (first | (refine wpSeqB_pure (v := ?_) rfl ?_ ?_; rotate_left 1; (focus (intro wq_ hSq_; (try dsimp only at hSq_); go_simp; (try with_reducible rfl); done)); (try simp only [Act.put, List.setIfInBounds_toArray, List.set_cons_zero, List.set_cons_succ])) | (refine wpSeqB_pureG (v := ?_) rfl rfl ?_ ?_; rotate_left 1; (focus (intro wq_ hSq_; (try dsimp only at hSq_); go_simp; (try with_reducible rfl); done)); (try simp only [Act.put, List.setIfInBounds_toArray, List.set_cons_zero, List.set_cons_succ])) | (refine wpSeqB_off rfl rfl ?_; (try simp only [Act.put, List.setIfInBounds_toArray, List.set_cons_zero, List.set_cons_succ])) | (refine wpSeqB_offU rfl ?_; (try simp only [Act.put, List.setIfInBounds_toArray, List.set_cons_zero, List.set_cons_succ])))
      intro s_
      refine wpB_end (by kernel_rfl) ?_
      clear s_
      go_wp2_with fail
      go_returns
      exact ⟨_, rfl, ⟨_, rfl⟩, s1⟩
    · (try simp only [List.getElem_toArray, List.getElem_cons_succ, List.getElem_cons_zero, Act.put, List.setIfInBounds_toArray, List.set_cons_zero, List.set_cons_succ])
      refine wpB_chunk (f := 0) (L' := #[true, true, true, true, true, true, true, true, true, true, true, true, true, true, true, true, true, true, true]) hsel_ hQ_ [(15, true, some 26, some (20, true)), (16, true, some 27, none), (3, false, some 14, none), (17, false, some 4, none), (18, false, some 5, none)] _ _ _ (by kernel_rfl) hst ?_
      repeat (first | (refine wpSeqB_pure (v := ?_) rfl ?_ ?_; rotate_left 1; (focus (intro wq_ hSq_; (try dsimp only at hSq_); go_simp; (try with_reducible rfl); done)); (try simp only [Act.put, List.setIfInBounds_toArray, List.set_cons_zero, List.set_cons_succ])) | (refine wpSeqB_pureG (v := ?_) rfl rfl ?_ ?_; rotate_left 1; (focus (intro wq_ hSq_; (try dsimp only at hSq_); go_simp; (try with_reducible rfl); done)); (try simp only [Act.put, List.setIfInBounds_toArray, List.set_cons_zero, List.set_cons_succ])) | (refine wpSeqB_off rfl rfl ?_; (try simp only [Act.put, List.setIfInBounds_toArray, List.set_cons_zero, List.set_cons_succ])) | (refine wpSeqB_offU rfl ?_; (try simp only [Act.put, List.setIfInBounds_toArray, List.set_cons_zero, List.set_cons_succ])))
      first | refine wpSeqB_call rfl (fun K hK => ?_) | refine wpSeqB_callG rfl rfl (fun K hK => ?_)
      go_simp
      have s1 : Ext w (W1.drew.alloc (.cells #[.slice (some ⟨b, o + 1, none⟩) 59 (c - 1)] TSC)) := bt hst (Ext.allocR _ _)
      refine hK.out _ _ s1 ?_
      clear hK K
      (try simp only [List.getElem_toArray, List.getElem_cons_succ, List.getElem_cons_zero, Act.put, List.setIfInBounds_toArray, List.set_cons_zero, List.set_cons_succ])
      repeat (first | (refine wpSeqB_pure (v := ?_) rfl ?_ ?_; rotate_left 1; (focus (intro wq_ hSq_; (try dsimp only at hSq_); go_simp; (try with_reducible rfl); done)); (try simp only [Act.put, List.setIfInBounds_toArray, List.set_cons_zero, List.set_cons_succ])) | (refine wpSeqB_pureG (v := ?_) rfl rfl ?_ ?_; rotate_left 1; (focus (intro wq_ hSq_; (try dsimp only at hSq_); go_simp; (try with_reducible rfl); done)); (try simp only [Act.put, List.setIfInBounds_toArray, List.set_cons_zero, List.set_cons_succ])) | (refine wpSeqB_off rfl rfl ?_; (try simp only [Act.put, List.setIfInBounds_toArray, List.set_cons_zero, List.set_cons_succ])) | (refine wpSeqB_offU rfl ?_; (try simp only [Act.put, List.setIfInBounds_toArray, List.set_cons_zero, List.set_cons_succ])))
      first | refine wpSeqB_call rfl (fun K hK => ?_) | refine wpSeqB_callG rfl rfl (fun K hK => ?_)
      go_simp
      refine hK.out _ _ s1 ?_
      clear hK K
      (try simp only [List.getElem_toArray, List.getElem_cons_succ, List.getElem_cons_zero, Act.put, List.setIfInBounds_toArray, List.set_cons_zero, List.set_cons_succ])
      repeat (first | (refine wpSeqB_pure (v := ?_) rfl ?_ ?_; rotate_left 1; (focus (intro wq_ hSq_; (try dsimp only at hSq_); go_simp; (try with_reducible rfl); done)); (try simp only [Act.put, List.setIfInBounds_toArray, List.set_cons_zero, List.set_cons_succ])) | (refine wpSeqB_pureG (v := ?_) rfl rfl ?_ ?_; rotate_left 1; (focus (intro wq_ hSq_; (try dsimp only at hSq_); go_simp; (try with_reducible rfl); done)); (try simp only [Act.put, List.setIfInBounds_toArray, List.set_cons_zero, List.set_cons_succ])) | (refine wpSeqB_off rfl rfl ?_; (try simp only [Act.put, List.setIfInBounds_toArray, List.set_cons_zero, List.set_cons_succ])) | (refine wpSeqB_offU rfl ?_; (try simp only [Act.put, List.setIfInBounds_toArray, List.set_cons_zero, List.set_cons_succ])))
      first | refine wpSeqB_call rfl (fun K hK => ?_) | refine wpSeqB_callG rfl rfl (fun K hK => ?_)
      go_simp
      refine hK.out _ _ s1 ?_
      clear hK K
      (try simp only [List.getElem_toArray, List.getElem_cons_succ, List.getElem_cons_zero, Act.put, List.setIfInBounds_toArray, List.set_cons_zero, List.set_cons_succ])
      repeat (first | (refine wpSeqB_pure (v := ?_) rfl ?_ ?_; rotate_left 1; (focus (intro wq_ hSq_; (try dsimp only at hSq_); go_simp; (try with_reducible rfl); done)); (try simp only [Act.put, List.setIfInBounds_toArray, List.set_cons_zero, List.set_cons_succ])) | (refine wpSeqB_pureG (v := ?_) rfl rfl ?_ ?_; rotate_left 1; (focus (intro wq_ hSq_; (try dsimp only at hSq_); go_simp; (try with_reducible rfl); done)); (try simp only [Act.put, List.setIfInBounds_toArray, List.set_cons_zero, List.set_cons_succ])) | (refine wpSeqB_off rfl rfl ?_; (try simp only [Act.put, List.setIfInBounds_toArray, List.set_cons_zero, List.set_cons_succ])) | (refine wpSeqB_offU rfl ?_; (try simp only [Act.put, List.setIfInBounds_toArray, List.set_cons_zero, List.set_cons_succ])))
      intro s_
      refine wpB_end (by kernel_rfl) ?_
      clear s_
      go_wp2_with fail
      go_returns
      exact ⟨_, rfl, ⟨_, rfl⟩, s1⟩
variable {w : World} {d : Nat} {g : Dkg} {cur : List (List Nat)} {bl : List (List (List Nat))} {down : Bool} {left : Nat}
/-- An empty head. -/
def hd0 : Value := .agg #[.int .i64 0, .int .i64 0, .slice none 0 0]
set_option maxHeartbeats 3200000 in
set_option maxRecDepth 100000 in
theorem rheads_no (A : Option Addr) (c : Nat) (bs : List Nat) (x : Nat) (w : World) (h : Rv w 1 A 64 c (bc bs)) (h0 : bs[0]? = some x) (hx : x ≠ 114) :
    Calls Try.prog 63 #[.slice A 64 c] w (Ret (fun z _ => z = .tuple #[hd0, .bool false]) w) := by
  have H := Lib.hid h
  have H0 := Lib.hid h0
  clear h h0
  go_enter Try.func63, Try.ntmps63
  go_wp2_with fail
  have xa : Ext w (w.alloc (.cells #[.int .i64 0, .int .i64 0, .slice none 0 0] THD)) := Ext.allocR _ _
  refine (ropen_no A c bs x 114 _ (H.out.below xa) H0.out hx).mono ?_
  rintro e w1 ⟨z1, rfl, ⟨p1, rfl⟩, b1⟩
  have hb := (Blk.new_ (w := w) THD #[.int .i64 0, .int .i64 0, .slice none 0 0] rfl).below b1
  have kb := hb.cells
  have fb := hb.free
  simp only [cellsAre, Nat.zero_add, Nat.reduceAdd, and_true] at kb
  have X1 := Lib.hid (show Ext w w1 from bt xa b1)
  have HB := Lib.hid hb
  clear xa b1 hb
  go_wp2_with fail
  have b9 : Blk (((w1.setCell ⟨w.heap.size, 0, none⟩ (.int .i64 0)).setCell ⟨w.heap.size, 1, none⟩ (.int .i64 0)).setCell ⟨w.heap.size, 2, none⟩ (.slice none 0 0)) w.heap.size THD #[.int .i64 0, .int .i64 0, .slice none 0 0] := ((HB.out.set_ 0 (.int .i64 0)).set_ 1 (.int .i64 0)).set_ 2 (.slice none 0 0)
  have x9 : Ext w (((w1.setCell ⟨w.heap.size, 0, none⟩ (.int .i64 0)).setCell ⟨w.heap.size, 1, none⟩ (.int .i64 0)).setCell ⟨w.heap.size, 2, none⟩ (.slice none 0 0)) := ((X1.out.setCell (p := ⟨w.heap.size, 0, none⟩) (Nat.le_refl _) _).setCell (p := ⟨w.heap.size, 1, none⟩) (Nat.le_refl _) _).setCell (p := ⟨w.heap.size, 2, none⟩) (Nat.le_refl _) _
  obtain ⟨w9, hw9⟩ : ∃ w9, ((w1.setCell ⟨w.heap.size, 0, none⟩ (.int .i64 0)).setCell ⟨w.heap.size, 1, none⟩ (.int .i64 0)).setCell ⟨w.heap.size, 2, none⟩ (.slice none 0 0) = w9 := ⟨_, rfl⟩
  rw [hw9] at b9 x9 ⊢
  have k9 := b9.cells
  simp only [cellsAre, Nat.zero_add, Nat.reduceAdd, and_true] at k9
  clear hw9 kb fb
  (try simp only [Exit.inBlock, Exit.then])
  refine bodyPost_ret (v := (.tuple #[.agg #[.int .i64 0, .int .i64 0, .slice none 0 0], .bool false])) (by simp [results, Try.results63, go_sem, *]) rfl ?_
  exact ⟨_, rfl, rfl, x9⟩
end Go.Proofs.Tb
/- Contract of blank at a disk of zeros. -/
namespace Go.Proofs.Tb
open Go.Maps Go.RowKit Go.Lib
attribute [local go_sem] cell_set_same neqMapL
variable {w : World} {d : Nat} {g : Dkg} {cur : List (List Nat)} {bl : List (List (List Nat))} {down : Bool} {left : Nat}
theorem z64_at {w : World} {A : Option Addr} {c : Nat} (h : Rv w 1 A 64 c (bc z64)) : ∃ b o, A = some ⟨b, o, none⟩ ∧ ∀ i, i < 64 → w.cell? ⟨b, o + i, none⟩ = some (.int .u8 ((List.replicate 64 (0:Int)).getD i 0)) := by
  obtain ⟨b, o, rfl, hc⟩ := h.at_ (by omega)
  refine ⟨b, o, rfl, fun i hi => ?_⟩
  have k0 := hc i (.int .u8 0) (by unfold bc z64; rw [List.getElem?_map, List.getElem?_replicate, if_pos hi]; rfl)
  rw [k0]
  rw [show (List.replicate 64 (0:Int)).getD i 0 = 0 by rw [List.getD_eq_getElem?_getD, List.getElem?_replicate, if_pos hi]; rfl]
set_option maxHeartbeats 1600000 in
set_option maxRecDepth 100000 in
theorem rbeq_z (A A' : Option Addr) (c c' : Nat) (w : World) (h : Rv w 1 A 64 c (bc z64)) (h' : Rv w 1 A' 64 c' (bc z64)) :
    Calls Try.prog 94 #[.slice A 64 c, .slice A' 64 c'] w (Ret (fun z _ => z = .bool true) w) := by
  obtain ⟨b, o, rfl, hc⟩ := z64_at h
  obtain ⟨b', o', rfl, hc'⟩ := z64_at h'
  have q1 := run_convert_bytes_arg (P := Try.prog) w TBY TU8 Try.underlying44 Try.underlying5 b o 64 c (List.replicate 64 0) (by simp) hc 9 Try.underlying9
  have q2 := run_convert_bytes_arg (P := Try.prog) w TBY TU8 Try.underlying44 Try.underlying5 b' o' 64 c' (List.replicate 64 0) (by simp) hc' 9 Try.underlying9
  obtain ⟨s, hs⟩ : ∃ s, strOfNums (List.replicate 64 0) = s := ⟨_, rfl⟩
  rw [hs] at q1 q2
  have hss : decide (s = s) = true := by simp
  clear hc hc' h h' hs
  go_enter Try.func94, Try.ntmps94
  go_wp2
  go_returns
  exact ⟨_, rfl, rfl, Below.refl _ _⟩
/-- Zeros behind a cell. -/
structure ZC (w : World) (p : Nat) : Prop where
  ex : ∃ A c, w.cell? ⟨p, 0, none⟩ = some (.slice A 64 c) ∧ Rv w 1 A 64 c (bc z64)
theorem ZC.below {w w' : World} {p : Nat} (h : ZC w p) (x : Ext w w') : ZC w' p := by
  obtain ⟨A, c, h1, h2⟩ := h.ex
  exact ⟨A, c, ext_cell x h1, h2.below x⟩
set_option maxHeartbeats 1600000 in
set_option maxRecDepth 100000 in
theorem rblk1_any (v : Value) (p : Nat) (w : World) (h : SeesB w v z64) (hz : ZC w p) :
    Calls Try.prog 93 #[v, .pointer (some ⟨p, 0, none⟩)] w (Ret (fun z _ => z = .bool false) w) := by
  obtain ⟨A', c', k1, hz2⟩ := hz.ex
  have HZ := Lib.hid hz2
  clear hz hz2
  rcases h with ⟨rfl, _⟩ | ⟨ho, _⟩
  · unfold nlB
    have hq := fun wq => run_neq_slice_nil (P := Try.prog) wq TBY TU8 none 0 0 Try.underlying44
    go_enter Try.func93, Try.ntmps93
    go_wp2
    go_returns
    exact ⟨_, rfl, rfl, Below.refl _ _⟩
  · obtain ⟨A, c, rfl, hr⟩ := own_rv ho
    have hl : z64.length = 64 := by simp [z64]
    rw [hl] at hr ⊢
    obtain ⟨b, o, rfl, _⟩ := hr.at_ (by omega)
    have HR := Lib.hid hr
    clear ho hr hl
    have hq := fun wq => run_neq_slice_nil (P := Try.prog) wq TBY TU8 (some ⟨b, o, none⟩) 64 c Try.underlying44
    go_enter Try.func93, Try.ntmps93
    go_wp2_with fail
    refine (rbeq_z _ A' c c' w HR.out HZ.out).mono ?_
    rintro e w1 ⟨v1, rfl, rfl, hb⟩
    go_wp2
    go_returns
    exact ⟨_, rfl, rfl, hb⟩
/-- Rows of zeros. -/
structure ZRow (w : World) (A : Option Addr) (n c : Nat) : Prop where
  le : n ≤ c
  cap : c ≤ 9223372036854775807
  at_ : ∀ k, k < n → ∃ b, A = some ⟨b, 0, none⟩ ∧ ∃ v, w.cell? ⟨b, k, none⟩ = some v ∧ SeesB w v z64
theorem ZRow.below {w w' : World} {A : Option Addr} {n c : Nat} (h : ZRow w A n c) (x : Ext w w') : ZRow w' A n c := ⟨h.le, h.cap, fun k hk => by
  obtain ⟨b, e, v, h1, h2⟩ := h.at_ k hk
  exact ⟨b, e, v, ext_cell x h1, h2.ext x⟩⟩
set_option maxHeartbeats 1600000 in
set_option maxRecDepth 100000 in
theorem bindexf_any (A : Option Addr) (n c : Nat) (p : Nat) (w : World) (h : ZRow w A n c) (hg : ZC w p) :
    Calls Try.prog 104 #[.slice A n c, .func (.func 93) #[] #[.pointer (some ⟨p, 0, none⟩)]] w (Ret (fun v _ => v = .int .i64 (-1)) w) := by
  have hn := h.le
  have hc := h.cap
  have H := Lib.hid h
  have HG := Lib.hid hg
  clear h hg
  go_enter Try.func104, Try.ntmps104
  go_wp2_with fail
  go_loopw [8] (fun i wr => ∃ k : Nat, k ≤ n ∧ i = .int .i64 (k : Int) ∧ Ext w wr) (fun i _ => n - (intOf i).toNat)
  case atStart => exact ⟨0, by omega, rfl, Ext.refl _⟩
  case round =>
    obtain ⟨k, hk, rfl, hx⟩ := hrel
    have HX := Lib.hid hx
    by_cases hkn : k < n
    · have pk : (k : Int) < (n : Int) := by omega
      obtain ⟨b, rfl, v, hcell, hs⟩ := H.out.at_ k hkn
      have ck := ext_cell hx hcell
      have HS := Lib.hid (hs.ext hx)
      clear hcell hs hx
      go_wp2_with fail
      refine (rblk1_any v p wr HS.out (HG.out.below HX.out)).mono ?_
      rintro e w2 ⟨v2, rfl, rfl, hb2⟩
      have HX2 := Lib.hid (bt HX.out hb2)
      clear hb2
      go_wp2
      go_roundw
      case rel => exact ⟨k + 1, by omega, by go_num, HX2.out⟩
      case measure => simp [intOf]; omega
    · obtain rfl : k = n := by omega
      clear hx
      go_wp2
      go_returns
      exact ⟨_, rfl, rfl, HX.out⟩
set_option maxHeartbeats 1600000 in
set_option maxRecDepth 100000 in
theorem bcontainsf_any (A : Option Addr) (n c : Nat) (p : Nat) (w : World) (h : ZRow w A n c) (hg : ZC w p) :
    Calls Try.prog 92 #[.slice A n c, .func (.func 93) #[] #[.pointer (some ⟨p, 0, none⟩)]] w (Ret (fun v _ => v = .bool false) w) := by
  have H := Lib.hid h
  have HG := Lib.hid hg
  clear h hg
  go_enter Try.func92, Try.ntmps92
  go_wp2_with fail
  refine (bindexf_any A n c p w H.out HG.out).mono ?_
  rintro e w1 ⟨v1, rfl, rfl, hb⟩
  go_wp2
  go_returns
  exact ⟨_, rfl, rfl, hb⟩
set_option maxHeartbeats 1600000 in
set_option maxRecDepth 100000 in
theorem rblank_any (hd : DI w d g cur bl down left) (hz : ∀ k, k < cur.length → cur.getD k z64 = z64) (hne : cur ≠ []) :
    Calls Try.prog 66 #[.pointer (some ⟨d, 0, none⟩)] w (Ret (fun z _ => z = .bool true) w) := by
  obtain ⟨gb, cap, hv, hc1, hc2, hb⟩ := hd.form hne
  have HR : ZRow w (some ⟨gb, 0, none⟩) cur.length cap := ⟨hc1, hc2, fun k hk => ⟨gb, rfl, g.vs.getD k nlB, hd.at_ hv hk, by have := hd.sees k hk; rw [hz k hk] at this; exact this⟩⟩
  have hfew := hd.few
  obtain ⟨n, hn⟩ : ∃ n, cur.length = n := ⟨_, rfl⟩
  rw [hn] at hb HR hc1 hfew
  have kd := hb.cells
  simp only [cellsAre, Nat.zero_add, Nat.reduceAdd, and_true] at kd
  have hmk := make_64 w
  have hw := make_64_own w 0 (Nat.zero_le _)
  have X := Lib.hid (Ext.allocR w (.cells (bc z64).toArray TU8))
  obtain ⟨w1, hw1⟩ : ∃ w1, w.alloc (.cells (bc z64).toArray TU8) = w1 := ⟨_, rfl⟩
  have HH := Lib.hid HR
  have HB := Lib.hid hb
  rw [hw1] at hmk hw X
  clear hd hz hne hv hn HR hb
  have x2 : Ext w (w1.alloc (.cells #[.slice (some ⟨w.heap.size, 0, none⟩) 64 64] TBY)) := bt X.out (Ext.allocR _ _)
  have k0 := ext_cell x2 kd.1
  have hz2 : ZC (w1.alloc (.cells #[.slice (some ⟨w.heap.size, 0, none⟩) 64 64] TBY)) w1.heap.size := ⟨some ⟨w.heap.size, 0, none⟩, 64, by simp, (show Rv w1 1 (some ⟨w.heap.size, 0, none⟩) 64 64 (bc z64) from OwB.rv hw).below (Ext.allocR _ _)⟩
  have HZ := Lib.hid hz2
  have X2 := Lib.hid x2
  clear hz2 x2
  go_enter Try.func66, Try.ntmps66
  go_wp2_with fail
  refine (bcontainsf_any _ n cap _ _ (HH.out.below X2.out) HZ.out).mono ?_
  rintro e w3 ⟨v3, rfl, rfl, b3⟩
  go_wp2
  go_returns
  exact ⟨_, rfl, rfl, bt X2.out b3⟩
end Go.Proofs.Tb
/- Contract of Open at a disk of zeros, and at what it refuses. -/
namespace Go.Proofs.Tb
open Go.Maps Go.RowKit Go.Lib
attribute [local go_sem] cell_set_same neqMapL
variable {F : Nat → Prop} {w : World} {d : Nat} {bl : List (List (List Nat))} {down : Bool} {left : Nat}
def NoB : Nat → Nat := fun _ => 0
/-- What Open's anchor makes. -/
def opD (keep n left : Nat) : Dst := wrA [(0, blkB (rootB keep 0 (rtB NoB [(0, .nil)])))] (newB n) left
/-- What Open makes on a disk of zeros. -/
inductive OpA (F : Nat → Prop) (w w' : World) (d keep n left : Nat) (e : Ending) : Prop
  | ok (s : Nat) : (opD keep n left).dn = false → e = .returned (.tuple #[.pointer (some ⟨s, 0, none⟩), .int .i64 0]) → SI F w' s d keep [(0, .nil)] NoB false (opD keep n left).bl false (opD keep n left).lf → Chg (MF F) w w' → OpA F w w' d keep n left e
  | dn : (opD keep n left).dn = true → e = .returned (.tuple #[.pointer none, .int .i64 9]) → DW F w' d (opD keep n left).bl true (opD keep n left).lf → Chg (MF F) w w' → OpA F w w' d keep n left e
/-- Where Open's loop stands. -/
structure OpL (w W : World) (H : Nat) : Prop where
  ex : Ext w W
  hd : Blk W H THD #[.int .i64 0, .int .i64 0, .slice none 0 0]
theorem newB_at {n k : Nat} (hk : k < n) : (newB n).getD k [] = [z64] := by
  unfold newB
  rw [List.getD_eq_getElem?_getD, List.getElem?_replicate, if_pos hk]
  rfl
theorem newB_one (n k : Nat) : ((newB n).getD k []).length ≤ 1 := by
  by_cases hk : k < n
  · rw [newB_at hk]
    exact Nat.le_refl _
  · unfold newB
    rw [List.getD_eq_getElem?_getD, List.getElem?_eq_none (by rw [List.length_replicate]; omega)]
    exact Nat.zero_le _
theorem newB_few (n k : Nat) : ((newB n).getD k []).length ≤ 100000 := Nat.le_trans (newB_one n k) (by decide)
theorem newB_last (n : Nat) : (newB n).map (fun l => l.getLastD z64) = List.replicate n z64 := by
  unfold newB
  rw [List.map_replicate]
  rfl
set_option maxHeartbeats 6400000 in
set_option maxRecDepth 100000 in
theorem ropen_any (n keep : Nat) (hn : 2 ≤ n) (hk : keep ≤ 8) (hd : DW F w d (newB n) false left) (hF : ∀ b, w.heap.size ≤ b → F b) :
    Calls Try.prog 24 #[.pointer (some ⟨d, 0, none⟩), .int .i64 (keep : Int)] w fun e w' => OpA F w w' d keep n left e := by
  have p1 : ¬ (keep : Int) < 0 := by omega
  have p2 : ¬ (8 : Int) < (keep : Int) := by omega
  have HF := Lib.hid hF
  have HDW := Lib.hid hd
  obtain ⟨g, hdi, _, _⟩ := hd
  rw [newB_last] at hdi
  have hne : List.replicate n z64 ≠ [] := by intro e; have := congrArg List.length e; rw [List.length_replicate] at this; simp at this; omega
  obtain ⟨gb, cap, hv, hc1, hc2, hb⟩ := hdi.form hne
  have HB := Lib.hid hb
  have HDI := Lib.hid hdi
  have HN := Lib.hid hne
  clear hF hdi hv hc1 hc2 hb hne
  go_enter Try.func24, Try.ntmps24
  go_wp2_with fail
  refine (rmade_any d g.m _ false left w HB.out).mono ?_
  rintro e w1 ⟨v1, rfl, rfl, b1⟩
  have k1 := (HB.out.below b1).cells
  simp only [cellsAre, Nat.zero_add, Nat.reduceAdd, and_true] at k1
  have X1 := Lib.hid b1
  clear b1
  go_upto_region 6 with fail
  clear k1
  refine wp_world (fun W => OpL w W w1.heap.size) ?_ ?_
  · exact ⟨bt X1.out (Ext.allocR _ _), Blk.new_ (w := w1) THD #[.int .i64 0, .int .i64 0, .slice none 0 0] rfl⟩
  rintro W0 hw0
  have HW0 := Lib.hid hw0
  clear hw0
  go_wp2_with fail
  go_loopw [7, 31] (fun v i wr => ∃ j : Nat, j ≤ 2 ∧ i = .int .i64 (j : Int) ∧ v = .bool false ∧ OpL w wr w1.heap.size) (fun _ i _ => 2 - (intOf i).toNat)
  case atStart => exact ⟨0, by omega, rfl, rfl, HW0.out⟩
  case round =>
    clear HW0
    obtain ⟨j, hj, rfl, rfl, hw⟩ := hrel
    have HW := Lib.hid hw
    clear hw
    by_cases hj2 : j < 2
    · have pk : (j : Int) < 2 := by omega
      have kf := HW.out.hd.cells
      simp only [cellsAre, Nat.zero_add, Nat.reduceAdd, and_true] at kf
      go_wp2_with fail
      have hjl : j < (List.replicate n z64).length := by rw [List.length_replicate]; omega
      refine (rat_any (HDI.out.ext HW.out.ex) hjl).mono ?_
      rintro e w2 ⟨v2, rfl, ⟨A2, c2, rfl, ho2⟩, b2⟩
      have hz : (List.replicate n z64).getD j z64 = z64 := by rw [List.getD_eq_getElem?_getD, List.getElem?_replicate, if_pos (by omega)]; rfl
      rw [hz] at ho2
      have r2 := OwB.rv ho2
      have X2 := Lib.hid (bt HW.out.ex b2)
      have H2 := Lib.hid (HW.out.hd.below b2)
      clear hz hjl ho2 b2 kf HW
      go_wp2_with fail
      refine (rheads_no A2 c2 z64 0 w2 r2 rfl (by decide)).mono ?_
      rintro e w3 ⟨v3, rfl, rfl, b3⟩
      unfold hd0
      have X3 := Lib.hid (bt X2.out b3)
      have H3 := Lib.hid (H2.out.below b3)
      clear r2 b3 H2 X2
      go_wp2_with fail
      exact ⟨⟨j + 1, by omega, rfl, rfl, bt X3.out (Ext.allocR _ _), H3.out.below (Ext.allocR _ _)⟩, by simp [intOf]; omega⟩
    · obtain rfl : j = 2 := by omega
      have kf := HW.out.hd.cells
      simp only [cellsAre, Nat.zero_add, Nat.reduceAdd, and_true] at kf
      have X4 := Lib.hid HW.out.ex
      clear kf
      go_wp2_with fail
      refine (rblank_any (HDI.out.ext X4.out) (fun k hk => by rw [List.getD_eq_getElem?_getD, List.getElem?_replicate, if_pos (by rw [List.length_replicate] at hk; exact hk)]; rfl) HN.out).mono ?_
      rintro e w5 ⟨v5, rfl, rfl, b5⟩
      have X5 := Lib.hid (bt X4.out b5)
      clear b5 X4 HW
      go_upto_region 18 with fail
      have o6 : OwS 0 (w5.alloc (.cells #[.int .i64 0, .pointer none] TVE)) (.slice (some ⟨w5.heap.size, 0, none⟩) 1 1) [(0, .nil)] := own_lit TVE 2 #[.int .i64 0, .pointer none] 1 (Nat.zero_le _) (by omega) rfl
      have x6 : Ext (w5.alloc (.cells #[.int .i64 0, .pointer none] TVE)) ((w5.alloc (.cells #[.int .i64 0, .pointer none] TVE)).alloc (.cells #[.pointer (some ⟨d, 0, none⟩), .int .i64 (keep : Int), .slice (some ⟨w5.heap.size, 0, none⟩) 1 1, .bool false] TSE)) := Ext.allocR _ _
      have o7 := own_below o6 x6
      have x7 := bt (Ext.allocR w5 (.cells #[.int .i64 0, .pointer none] TVE)) x6
      have h7 : Blk ((w5.alloc (.cells #[.int .i64 0, .pointer none] TVE)).alloc (.cells #[.pointer (some ⟨d, 0, none⟩), .int .i64 (keep : Int), .slice (some ⟨w5.heap.size, 0, none⟩) 1 1, .bool false] TSE)) (w5.heap.size + 1) TSE #[.pointer (some ⟨d, 0, none⟩), .int .i64 (keep : Int), .slice (some ⟨w5.heap.size, 0, none⟩) 1 1, .bool false] := Blk.new_ _ _ (by simp)
      obtain ⟨w7, e7⟩ : ∃ w7, (w5.alloc (.cells #[.int .i64 0, .pointer none] TVE)).alloc (.cells #[.pointer (some ⟨d, 0, none⟩), .int .i64 (keep : Int), .slice (some ⟨w5.heap.size, 0, none⟩) 1 1, .bool false] TSE) = w7 := ⟨_, rfl⟩
      rw [e7] at x6 o7 x7 h7 ⊢
      obtain ⟨s, hs⟩ : ∃ s, w5.heap.size + 1 = s := ⟨_, rfl⟩
      rw [hs] at h7 ⊢
      obtain ⟨A7, hA7⟩ : ∃ A7 : Option Addr, some ⟨w5.heap.size, 0, none⟩ = A7 := ⟨_, rfl⟩
      rw [hA7] at h7 o7
      have X7 := Lib.hid (bt X5.out x7)
      have hws : w.heap.size ≤ s := by have := X5.out.size; omega
      have k7 := h7.cells
      simp only [cellsAre, Nat.zero_add, Nat.reduceAdd, and_true] at k7
      have H7 := Lib.hid h7
      have O7 := Lib.hid o7
      have HS := Lib.hid hws
      clear x6 o7 x7 h7 e7 hs hA7 X5 o6 hws
      go_wp2_with fail
      have hd7 : DW F w7 d (newB n) false left := HDW.out.chg (X := fun _ _ => False) (Chg.ext X7.out) (fun _ _ _ _ h => h) fun _ _ h => h
      have hln : (newB n).length = n := by unfold newB; rw [List.length_replicate]
      refine (ranchor_any s d keep A7 1 1 false NoB (fun _ => True) [(0, .nil)] (newB n) left w7 H7.out (hd7.not H7.out) (fun b hb => ⟨HF.out b (Nat.le_trans X7.out.size hb), fun e => by have := H7.out.lt; omega⟩) (fun h => h.2 rfl) A7 1 1 (own_rvv O7.out) (by omega) (by omega) 0 .nil rfl (by omega) (fun v hv => by rw [List.mem_singleton.1 hv]; trivial) (fun _ => Nat.zero_le _) (by omega) (by rw [hln]; omega) (fun k => newB_few n k) (opD keep n left) rfl).mono ?_
      rintro e w8 ⟨rfl, hE⟩
      have hch : Chg (MF F) w w8 := (Chg.ext X7.out).trans (hE.ch.mono fun b o hx => ⟨hx.1.1, hx.2⟩)
      have hdk : DW F w8 d (opD keep n left).bl (opD keep n left).dn (opD keep n left).lf := hE.dk.imp fun b hb => hb.1
      have hse : Blk w8 s TSE #[.pointer (some ⟨d, 0, none⟩), .int .i64 (keep : Int), .slice A7 1 1, .bool false] := hE.ch.blk H7.out fun hx => hx.1.2 rfl
      have how : OwS 0 w8 (.slice A7 1 1) [(0, .nil)] := hE.ch.own O7.out fun b cs _ => MF.ve b cs
      have HC := Lib.hid hch
      have HK := Lib.hid hdk
      have HE := Lib.hid hse
      have HO := Lib.hid how
      clear hE hd7 hln hch hdk hse how
      by_cases hdn : (opD keep n left).dn = true
      · rw [show erD (opD keep n left) = 9 from if_pos hdn]
        have HN := Lib.hid hdn
        clear hdn
        go_wp2
        go_returns
        exact .dn HN.out rfl (by have := HK.out; rw [HN.out] at this; exact this) HC.out
      · have hdf : (opD keep n left).dn = false := by simpa using hdn
        rw [show erD (opD keep n left) = 0 from if_neg hdn]
        have HN := Lib.hid hdf
        clear hdn hdf
        go_wp2
        go_returns
        exact .ok s HN.out rfl ⟨⟨A7, 1, 1, HE.out, HO.out⟩, by have := HK.out; rw [HN.out] at this; exact this, HF.out s HS.out, fun v hv => by rw [List.mem_singleton.1 hv]; trivial, fun _ _ => rfl, fun _ => Nat.zero_le _⟩ HC.out
/-- What Open answers when it refuses. -/
def noOp (e : Int) : Value := .tuple #[.pointer none, .int .i64 e]
set_option maxHeartbeats 3200000 in
set_option maxRecDepth 100000 in
theorem ropen_arg (keep : Int) (g : Nat) (v : Value) (hd : Blk w d TDK #[v, .map (some g), .bool down, .int .i64 (left : Int)]) (hk : keep < 0 ∨ 8 < keep) :
    Calls Try.prog 24 #[.pointer (some ⟨d, 0, none⟩), .int .i64 keep] w (Ret (fun z _ => z = noOp 1) w) := by
  unfold noOp
  have HB := Lib.hid hd
  clear hd
  by_cases h0 : keep < 0
  · clear hk
    go_enter Try.func24, Try.ntmps24
    go_wp2_with fail
    refine (rmade_any d g v down left w HB.out).mono ?_
    rintro e w1 ⟨v1, rfl, rfl, b1⟩
    go_wp2_with fail
    (try simp only [Exit.inBlock, Exit.then])
    refine bodyPost_ret (v := (.tuple #[.pointer none, .int .i64 1])) (by simp [results, Try.results24, go_sem, *]) rfl ?_
    exact ⟨_, rfl, rfl, b1⟩
  · have h8 : 8 < keep := by omega
    clear hk
    go_enter Try.func24, Try.ntmps24
    go_wp2_with fail
    refine (rmade_any d g v down left w HB.out).mono ?_
    rintro e w1 ⟨v1, rfl, rfl, b1⟩
    go_wp2_with fail
    (try simp only [Exit.inBlock, Exit.then])
    refine bodyPost_ret (v := (.tuple #[.pointer none, .int .i64 1])) (by simp [results, Try.results24, go_sem, *]) rfl ?_
    exact ⟨_, rfl, rfl, b1⟩
set_option maxHeartbeats 3200000 in
set_option maxRecDepth 100000 in
theorem ropen_down (keep : Int) (g : Nat) (v : Value) (hd : Blk w d TDK #[v, .map (some g), .bool true, .int .i64 (left : Int)]) (h0 : ¬ keep < 0) (h8 : ¬ 8 < keep) :
    Calls Try.prog 24 #[.pointer (some ⟨d, 0, none⟩), .int .i64 keep] w (Ret (fun z _ => z = noOp 9) w) := by
  unfold noOp
  have HB := Lib.hid hd
  clear hd
  go_enter Try.func24, Try.ntmps24
  go_wp2_with fail
  refine (rmade_any d g v true left w HB.out).mono ?_
  rintro e w1 ⟨v1, rfl, rfl, b1⟩
  have k1 := (HB.out.below b1).cells
  simp only [cellsAre, Nat.zero_add, Nat.reduceAdd, and_true] at k1
  go_wp2_with fail
  (try simp only [Exit.inBlock, Exit.then])
  refine bodyPost_ret (v := (.tuple #[.pointer none, .int .i64 9])) (by simp [results, Try.results24, go_sem, *]) rfl ?_
  exact ⟨_, rfl, rfl, b1⟩
set_option maxHeartbeats 1600000 in
set_option maxRecDepth 100000 in
theorem rmade_nil (w : World) : Calls Try.prog 62 #[.pointer none] w (Ret (fun z _ => z = .bool false) w) := by
  go_enter Try.func62, Try.ntmps62
  go_wp2
  go_returns
  exact ⟨_, rfl, rfl, Below.refl _ _⟩
set_option maxHeartbeats 1600000 in
set_option maxRecDepth 100000 in
theorem rmade_none (d : Nat) (v : Value) (down : Bool) (left : Nat) (w : World) (h : Blk w d TDK #[v, .map none, .bool down, .int .i64 (left : Int)]) :
    Calls Try.prog 62 #[.pointer (some ⟨d, 0, none⟩)] w (Ret (fun z _ => z = .bool false) w) := by
  have kd := h.cells
  simp only [cellsAre, Nat.zero_add, Nat.reduceAdd, and_true] at kd
  clear h
  go_enter Try.func62, Try.ntmps62
  go_wp2
  go_returns
  exact ⟨_, rfl, rfl, Below.refl _ _⟩
set_option maxHeartbeats 3200000 in
set_option maxRecDepth 100000 in
theorem ropen_un (p : Option Addr) (keep : Int) (w : World) (h : Calls Try.prog 62 #[.pointer p] w (Ret (fun z _ => z = .bool false) w)) :
    Calls Try.prog 24 #[.pointer p, .int .i64 keep] w (Ret (fun z _ => z = noOp 1) w) := by
  unfold noOp
  have H := Lib.hid h
  clear h
  go_enter Try.func24, Try.ntmps24
  go_wp2_with fail
  refine H.out.mono ?_
  rintro e w1 ⟨v1, rfl, rfl, b1⟩
  go_wp2_with fail
  (try simp only [Exit.inBlock, Exit.then])
  refine bodyPost_ret (v := (.tuple #[.pointer none, .int .i64 1])) (by simp [results, Try.results24, go_sem, *]) rfl ?_
  exact ⟨_, rfl, rfl, b1⟩
end Go.Proofs.Tb
/- A store that answers to a list of versions: Open and Commit keep it so. -/
namespace Go.Proofs.Tb
open Go.Maps Go.RowKit Go.Lib

theorem wrA_zero : ∀ (ps : List (Nat × List Nat)) (bl : List (List (List Nat))), (wrA ps bl 0).dn = false ∧ (wrA ps bl 0).lf = 0 ∧ ∃ b2, (wrA ps bl 0).bl = safeB b2
  | [], bl => ⟨rfl, rfl, bl, rfl⟩
  | p :: ps, bl => by
    show (wrA ps (putB bl p) 0).dn = false ∧ (wrA ps (putB bl p) 0).lf = 0 ∧ ∃ b2, (wrA ps (putB bl p) 0).bl = safeB b2
    exact wrA_zero ps _
theorem wrA_one (ps : List (Nat × List Nat)) (bl : List (List (List Nat))) (k : Nat) : ((wrA ps bl 0).bl.getD k []).length ≤ 1 := by
  obtain ⟨_, _, b2, h⟩ := wrA_zero ps bl
  rw [h]
  exact safeB_one b2 k
/-- The kept trees' pairs are fewer than what the document counts. -/
theorem szV_fit {keep : Nat} {vs : List (Nat × MT)} {Vs : List (List Pr)} (h : VsR keep vs Vs) : ∀ j, j ≤ vs.length → 4 * szV (vs.take j) ≤ fitN (Vs.drop (Vs.length - j))
  | 0, _ => by rw [List.take_zero]; exact Nat.zero_le _
  | j + 1, hj => by
    have ih := szV_fit h j (by omega)
    obtain ⟨t, h1, h2, _⟩ := h.at_ j (by omega)
    have hl := h.len
    have hv : Vs.length - 1 - j < Vs.length := by omega
    have e1 : szV (vs.take (j + 1)) = szV (vs.take j) + t.er.size := by
      rw [List.take_add_one, h1]
      unfold szV
      rw [List.foldl_append]
      rfl
    have e2 : Vs.drop (Vs.length - (j + 1)) = Vs.getD (Vs.length - 1 - j) [] :: Vs.drop (Vs.length - j) := by
      rw [show Vs.length - (j + 1) = Vs.length - 1 - j by omega, List.drop_eq_getElem_cons hv, show Vs.length - 1 - j + 1 = Vs.length - j by omega]
      simp [List.getD, hv]
    have e3 : t.er.size = (Vs.getD (Vs.length - 1 - j) []).length := by rw [← h2, Tr.size_prs]
    rw [e1, e2]
    simp only [fitN]
    omega
theorem fitN_app (a b : List (List Pr)) : fitN (a ++ b) = fitN a + fitN b := by
  induction a with
  | nil => simp [fitN]
  | cons l a ih => simp only [List.cons_append, fitN, ih]; omega
theorem fit_full {keep : Nat} {vs : List (Nat × MT)} {Vs : List (List Pr)} (h : VsR keep vs Vs) (B : Nat → Nat) (n : Nat) (t : MT) (L : List Pr) (hL : t.er.prs = L)
    (hf : (frF B vs (upB (n - 2))).length < (t.fr B).length) : fitB Vs keep L (n : Int) = false := by
  unfold fitB
  rw [decide_eq_false_iff_not]
  have h0 : 0 < Vs.length := List.length_pos_iff.2 h.nv
  have h1 := free_len B vs n
  have h2 := szV_fit h vs.length (Nat.le_refl _)
  rw [List.take_length] at h2
  have h3 := h.len
  have e3 : Vs.length - vs.length = Vs.length - 1 - keep := by omega
  rw [e3] at h2
  rw [List.drop_append_of_le_length (by omega), fitN_app]
  have h4 : (t.fr B).length ≤ L.length := by rw [← hL, Tr.size_prs]; exact MT.fr_len B t
  simp only [fitN]
  omega
/-- A store that has these versions, on a disk that holds them. -/
def STl (F : Nat → Prop) (w : World) (s d keep n : Nat) (Vs : List (List Pr)) (left : Nat) : Prop :=
  ∃ vs B bl, SI F w s d keep vs B false bl false left ∧ VsR keep vs Vs ∧ (∀ k, (bl.getD k []).length ≤ 1) ∧ bl.length = n ∧ StR (lastsB bl) keep (Vs.length - 1) vs B
/-- .. and the disk is not armed. -/
def STx (F : Nat → Prop) (w : World) (s d keep n : Nat) (Vs : List (List Pr)) : Prop := STl F w s d keep n Vs 0
theorem STl.chg {F : Nat → Prop} {X : Nat → Obj → Prop} {w w' : World} {s d keep n left : Nat} {Vs : List (List Pr)} (h : STl F w s d keep n Vs left) (hc : Chg X w w') (h1 : ∀ b o, F b → MutK o → ¬ X b o) (h2 : ∀ b cs, ¬ X b (.cells cs TU8 (0, 0))) (h3 : ∀ b cs, ¬ X b (.cells cs TNO (0, 0))) (h4 : ∀ b cs, ¬ X b (.cells cs TVE (0, 0))) : STl F w' s d keep n Vs left := by
  obtain ⟨vs, B, bl, g1, g2⟩ := h
  exact ⟨vs, B, bl, g1.chg hc h1 h2 h3 h4, g2⟩
theorem STl.ext {F : Nat → Prop} {w w' : World} {s d keep n left : Nat} {Vs : List (List Pr)} (h : STl F w s d keep n Vs left) (hx : Ext w w') : STl F w' s d keep n Vs left := by
  obtain ⟨vs, B, bl, g1, g2⟩ := h
  exact ⟨vs, B, bl, g1.ext hx, g2⟩
theorem STx.chg {F : Nat → Prop} {X : Nat → Obj → Prop} {w w' : World} {s d keep n : Nat} {Vs : List (List Pr)} (h : STx F w s d keep n Vs) (hc : Chg X w w') (h1 : ∀ b o, F b → MutK o → ¬ X b o) (h2 : ∀ b cs, ¬ X b (.cells cs TU8 (0, 0))) (h3 : ∀ b cs, ¬ X b (.cells cs TNO (0, 0))) (h4 : ∀ b cs, ¬ X b (.cells cs TVE (0, 0))) : STx F w' s d keep n Vs := STl.chg h hc h1 h2 h3 h4
theorem STx.ext {F : Nat → Prop} {w w' : World} {s d keep n : Nat} {Vs : List (List Pr)} (h : STx F w s d keep n Vs) (hx : Ext w w') : STx F w' s d keep n Vs := STl.ext h hx
/-- A store that is broken, on a disk that is down: whatever remains, the disk holds these versions, or one more. -/
def STd (F : Nat → Prop) (w : World) (s d keep n : Nat) (Vs : List (List Pr)) (L : List Pr) : Prop :=
  ∃ vs B bl lf, SI F w s d keep vs B true bl true lf ∧ VsR keep vs Vs ∧ bl.length = n ∧ (∀ k, (bl.getD k []).length ≤ 100000) ∧ ∀ cur, Rst bl cur → Sdd cur keep Vs ∨ Sdd cur keep (Vs ++ [L])
theorem STd.ext {F : Nat → Prop} {w w' : World} {s d keep n : Nat} {Vs : List (List Pr)} {L : List Pr} (h : STd F w s d keep n Vs L) (hx : Ext w w') : STd F w' s d keep n Vs L := by
  obtain ⟨vs, B, bl, lf, g1, g2⟩ := h
  exact ⟨vs, B, bl, lf, g1.ext hx, g2⟩
/-- What a Commit of a batch answers, on a disk that may be armed. -/
inductive CmX (F : Nat → Prop) (w w' : World) (s d keep n : Nat) (Vs : List (List Pr)) (left : Nat) (L : List Pr) (e : Ending) : Prop
  | ok (lf : Nat) : e = ansV (Vs.length : Int) 0 → (left = 0 → lf = 0) → STl F w' s d keep n (Vs ++ [L]) lf → Chg (MF F) w w' → CmX F w w' s d keep n Vs left L e
  | full : fitB Vs keep L (n : Int) = false → e = ansV 0 8 → Ext w w' → CmX F w w' s d keep n Vs left L e
  | down : left ≠ 0 → e = ansV 0 9 → STd F w' s d keep n Vs L → Chg (MF F) w w' → CmX F w w' s d keep n Vs left L e
theorem VsR.oks {keep : Nat} {vs : List (Nat × MT)} {Vs : List (List Pr)} (h : VsR keep vs Vs) : ∀ v ∈ vs, OkP v.2.er.prs := fun v hv => by
  obtain ⟨i, hi, rfl⟩ := List.getElem_of_mem hv
  obtain ⟨t, a1, a2, _⟩ := h.at_ i hi
  rw [List.getElem?_eq_getElem hi] at a1
  injection a1 with a1
  rw [a1, a2]
  exact (h.okAt hi).2
theorem SI.few {F : Nat → Prop} {w : World} {s d keep : Nat} {vs : List (Nat × MT)} {B : Nat → Nat} {br : Bool} {bl : List (List (List Nat))} {down : Bool} {left : Nat} (h : SI F w s d keep vs B br bl down left) : bl.length ≤ 4096 := DW.few h.dk
theorem cmt_few (keep N : Nat) (vs : List (Nat × MT)) (B : Nat → Nat) (bl : List (List (List Nat))) (left : Nat) (t : MT) (h : ∀ k, (bl.getD k []).length ≤ 1) (hf : (t.fr B).length ≤ 4096) : (∀ k, ((cmtOf keep N vs B bl left t).r1.bl.getD k []).length ≤ 100000) ∧ ∀ k, ((cmtOf keep N vs B bl left t).r2.bl.getD k []).length ≤ 100000 := by
  have hp : (cmtOf keep N vs B bl left t).ps.length = (t.fr B).length := by
    show ((t.frs B).map _).length = _
    rw [List.length_map, MT.frs_len]
  have h1 := wrA_few (cmtOf keep N vs B bl left t).ps (left := left) h (Nat.le_refl 1)
  refine ⟨fun k => Nat.le_trans (h1 k) (by omega), fun k => ?_⟩
  have h2 := wrA_few [((N + 1) % 2, blkB (rootB keep (N + 1) (rtB (cmtOf keep N vs B bl left t).B (cmtOf keep N vs B bl left t).vs)))] (left := (cmtOf keep N vs B bl left t).r1.lf) h1 (by omega) k
  refine Nat.le_trans h2 ?_
  rw [List.length_singleton]
  omega
theorem st_commit_l {F : Nat → Prop} {w : World} {s d keep n left : Nat} {Vs : List (List Pr)} (h : STl F w s d keep n Vs left) (hF : ∀ b, w.heap.size ≤ b → F b) (hn : 2 ≤ n) (hk : keep ≤ 18) (hV : Vs.length ≤ 1000) {L : List Pr} (hL : Vs.getD (Vs.length - 1) [] = L) (hLl : L.length ≤ 10000)
    (A : Option Addr) (m c : Nat) (cs : List Cg) (hr : Rv w 3 A m c (ccs cs)) (hb : batB cs = true) :
    Calls Try.prog 13 #[.pointer (some ⟨s, 0, none⟩), .slice A m c] w fun e w' => CmX F w w' s d keep n Vs left (aft L cs) e := by
  obtain ⟨vs, B, bl, h1, h2, h3, h4, h45⟩ := h
  obtain ⟨t0, tl, e0, p0, b0⟩ := h2.head
  rw [hL] at p0
  have h5 : vs[0]? = some (Vs.length - 1, t0) := by rw [e0]; rfl
  have hlen := h2.len
  have hpos : 0 < Vs.length := List.length_pos_iff.2 h2.nv
  have hok := h2.okAt (i := 0) h2.pos
  rw [Nat.sub_zero, hL] at hok
  have hsz : t0.er.size = L.length := by rw [← p0, Tr.size_prs]
  obtain ⟨hokc, _, _⟩ := batB_ok hb
  have h96 := h1.few
  refine (rcommit_any w h1 hF h5 (by omega) hk (by omega) (by rw [p0]; exact hok.1) (by rw [p0]; exact hok.2) (by omega) (by omega) h3 A m c cs hr hb).mono ?_
  rintro e w' ⟨t, ht, hmix, hnd, ha⟩
  have hp : t.er.prs = aft L cs := by rw [ht, aftT_prs cs (by rw [p0]; exact hok.1), p0]
  have hbl : t.er.bld := by rw [ht]; exact aftT_bld cs b0
  have eN : Vs.length - 1 + 1 = Vs.length := by omega
  have eV : (Vs ++ [aft L cs]).length - 1 = Vs.length - 1 + 1 := by rw [List.length_append, List.length_singleton]; omega
  have q4 : (cmtOf keep (Vs.length - 1) vs B bl left t).vs = ((Vs.length, t) :: vs).take (keep + 1) := by
    show ((Vs.length - 1 + 1, t) :: vs).take (keep + 1) = _
    rw [eN]
  have hstep : VsR keep (cmtOf keep (Vs.length - 1) vs B bl left t).vs (Vs ++ [aft L cs]) := by
    rw [q4]
    exact h2.step ⟨aft_srtd cs hok.1, aft_ok cs hok.2 hokc⟩ hp hbl
  have hck : (t.fr B).length ≤ (frF B vs (upB (bl.length - 2))).length → CmK bl keep (Vs.length - 1) vs B t := fun hfit => ⟨h45, h3, h2.oks, h1.bm, h2.pos, by omega, by omega, hmix, hnd, hfit⟩
  have hfl : (frF B vs (upB (bl.length - 2))).length ≤ 4096 := by
    have := (frF_sub B vs (upB (bl.length - 2))).length_le
    unfold upB at this
    rw [List.length_range'] at this
    unfold upB
    omega
  have hbm : (t.fr B).length ≤ (frF B vs (upB (bl.length - 2))).length → ∀ a, (cmtOf keep (Vs.length - 1) vs B bl left t).B a ≤ 4096 := fun _ => asg_le h1.bm fun f hf => by have := frF_mem B vs hf; omega
  have hl1 : (cmtOf keep (Vs.length - 1) vs B bl left t).r1.bl.length = bl.length := wrA_len _ _ _
  have hl2 : (cmtOf keep (Vs.length - 1) vs B bl left t).r2.bl.length = bl.length := (wrA_len _ _ _).trans hl1
  cases ha with
  | full hf he hx => exact .full (by rw [← h4]; exact fit_full h2 B bl.length t _ hp hf) he hx
  | down1 hfit hd he hsi hc =>
    refine .down (fun e0 => ?_) he ⟨vs, B, _, _, hsi, h2, by rw [hl1]; exact h4, (cmt_few keep _ vs B bl left t h3 (Nat.le_trans hfit hfl)).1, fun cur hr => Or.inl ⟨vs, B, (hck hfit).crash1 hd hr, h2, h1.bm⟩⟩ hc
    subst e0
    rw [show (cmtOf keep (Vs.length - 1) vs B bl 0 t).r1.dn = false from (wrA_zero _ _).1] at hd
    cases hd
  | down2 hfit hd1 hd he hsi hc =>
    refine .down (fun e0 => ?_) he ⟨vs, B, _, _, hsi, h2, by rw [hl2]; exact h4, (cmt_few keep _ vs B bl left t h3 (Nat.le_trans hfit hfl)).2, fun cur hr => ?_⟩ hc
    · subst e0
      have q2 : (cmtOf keep (Vs.length - 1) vs B bl 0 t).r2 = wrA [((Vs.length - 1 + 1) % 2, blkB (rootB keep (Vs.length - 1 + 1) (rtB (cmtOf keep (Vs.length - 1) vs B bl 0 t).B (cmtOf keep (Vs.length - 1) vs B bl 0 t).vs)))] (cmtOf keep (Vs.length - 1) vs B bl 0 t).r1.bl (cmtOf keep (Vs.length - 1) vs B bl 0 t).r1.lf := rfl
      rw [q2, show (cmtOf keep (Vs.length - 1) vs B bl 0 t).r1.lf = 0 from (wrA_zero _ _).2.1, (wrA_zero _ _).1] at hd
      cases hd
    · rcases (hck hfit).crash2 hd1 hd hr with h6 | h6
      · exact Or.inl ⟨vs, B, h6, h2, h1.bm⟩
      · exact Or.inr ⟨_, _, by rw [eV]; exact h6, hstep, hbm hfit⟩
  | ok hfit hd1 hd he hsi hc =>
    rw [eN] at he
    obtain ⟨g1, g2, g3⟩ := (hck hfit).done hd1 hd
    refine .ok _ he (fun e0 => ?_) ⟨_, _, _, hsi, hstep, g2, by rw [g3]; exact h4, by rw [eV]; exact g1⟩ hc
    subst e0
    have q2 : (cmtOf keep (Vs.length - 1) vs B bl 0 t).r2 = wrA [((Vs.length - 1 + 1) % 2, blkB (rootB keep (Vs.length - 1 + 1) (rtB (cmtOf keep (Vs.length - 1) vs B bl 0 t).B (cmtOf keep (Vs.length - 1) vs B bl 0 t).vs)))] (cmtOf keep (Vs.length - 1) vs B bl 0 t).r1.bl (cmtOf keep (Vs.length - 1) vs B bl 0 t).r1.lf := rfl
    rw [q2, show (cmtOf keep (Vs.length - 1) vs B bl 0 t).r1.lf = 0 from (wrA_zero _ _).2.1]
    exact (wrA_zero _ _).2.1
/-- What a Commit of a batch answers, when no crash is near. -/
inductive CmS (F : Nat → Prop) (w w' : World) (s d keep n : Nat) (Vs : List (List Pr)) (L : List Pr) (e : Ending) : Prop
  | ok : e = ansV (Vs.length : Int) 0 → STx F w' s d keep n (Vs ++ [L]) → Chg (MF F) w w' → CmS F w w' s d keep n Vs L e
  | full : fitB Vs keep L (n : Int) = false → e = ansV 0 8 → Ext w w' → CmS F w w' s d keep n Vs L e
theorem st_commit {F : Nat → Prop} {w : World} {s d keep n : Nat} {Vs : List (List Pr)} (h : STx F w s d keep n Vs) (hF : ∀ b, w.heap.size ≤ b → F b) (hn : 2 ≤ n) (hk : keep ≤ 18) (hV : Vs.length ≤ 1000) {L : List Pr} (hL : Vs.getD (Vs.length - 1) [] = L) (hLl : L.length ≤ 10000)
    (A : Option Addr) (m c : Nat) (cs : List Cg) (hr : Rv w 3 A m c (ccs cs)) (hb : batB cs = true) :
    Calls Try.prog 13 #[.pointer (some ⟨s, 0, none⟩), .slice A m c] w fun e w' => CmS F w w' s d keep n Vs (aft L cs) e := by
  refine (st_commit_l h hF hn hk hV hL hLl A m c cs hr hb).mono ?_
  intro e w' ha
  cases ha with
  | ok lf he h0 hs hc => exact .ok he (by have := h0 rfl; subst this; exact hs) hc
  | full hf he hx => exact .full hf he hx
  | down h0 => exact absurd rfl h0
/-- A new store's disk: zeros, or version 0. -/
def Dn0 (keep n : Nat) (cur : List (List Nat)) : Prop := cur = List.replicate n z64 ∨ Sdd cur keep [[]]
theorem new_vsr (keep : Nat) : VsR keep [(0, .nil)] [[]] := ⟨by simp, by simp, fun i hi => by
  obtain rfl : i = 0 := by simpa using hi
  exact ⟨.nil, rfl, rfl, trivial⟩, fun l hl => by
  rw [List.mem_singleton.1 hl]
  exact ⟨List.Pairwise.nil, fun p hp => absurd hp (by simp)⟩⟩
theorem new_len (n : Nat) : (newB n).length = n := by unfold newB; rw [List.length_replicate]
theorem rep_at (n k : Nat) : (List.replicate n z64).getD k z64 = z64 := by
  rw [List.getD_eq_getElem?_getD, List.getElem?_replicate]
  split <;> rfl
theorem new_str {keep n : Nat} {cur : List (List Nat)} (h2 : 2 ≤ n) (h96 : n ≤ 4096) (hl : cur.length = n) (h0 : cur.getD 0 z64 = blkB (rootB keep 0 (rtB NoB [(0, .nil)]))) (hz : ∀ k, k < n → k ≠ 0 → cur.getD k z64 = z64) : StR cur keep 0 [(0, .nil)] NoB :=
  ⟨by omega, by omega, fun v hv => by rw [List.mem_singleton.1 hv]; trivial, h0, .none rfl (hz 1 (by omega) (by omega))⟩
theorem open_down {keep n left : Nat} (h2 : 2 ≤ n) (h96 : n ≤ 4096) (hd : (opD keep n left).dn = true) {cur : List (List Nat)} (hr : Rst (opD keep n left).bl cur) : Dn0 keep n cur := by
  have hl : (opD keep n left).bl.length = n := (wrA_len _ _ _).trans (new_len n)
  have hcl : cur.length = n := hr.1.trans hl
  have key : ∀ k, k < n → cur.getD k z64 = z64 ∨ (k = 0 ∧ cur.getD k z64 = blkB (rootB keep 0 (rtB NoB [(0, .nil)]))) := fun k hk => by
    rcases wrA_down _ _ _ hd k _ (hr.2 k (by rw [hl]; exact hk)) with h | ⟨p, hp, h3, h4⟩
    · rw [newB_at hk] at h
      exact Or.inl (List.mem_singleton.1 h)
    · rw [List.mem_singleton.1 hp] at h3 h4
      exact Or.inr ⟨h3.symm, h4⟩
  rcases key 0 (by omega) with h | ⟨_, h⟩
  · left
    apply List.ext_getElem?
    intro k
    by_cases hk : k < n
    · have h1 : cur.getD k z64 = z64 := by
        rcases key k hk with h1 | ⟨h1, _⟩
        · exact h1
        · rw [h1]; exact h
      rw [List.getD_eq_getElem?_getD, List.getElem?_eq_getElem (by omega)] at h1
      rw [List.getElem?_replicate, if_pos hk, List.getElem?_eq_getElem (by omega)]
      exact congrArg some h1
    · rw [List.getElem?_eq_none (by omega), List.getElem?_eq_none (by rw [List.length_replicate]; omega)]
  · right
    refine ⟨_, _, new_str h2 h96 hcl h fun k hk hne => ?_, new_vsr keep, fun _ => Nat.zero_le _⟩
    rcases key k hk with h1 | ⟨h1, _⟩
    · exact h1
    · exact absurd h1 hne
/-- What Open answers on a new disk that may be armed. -/
inductive OpY (F : Nat → Prop) (w w' : World) (d keep n left : Nat) (e : Ending) : Prop
  | ok (s lf : Nat) : e = .returned (.tuple #[.pointer (some ⟨s, 0, none⟩), .int .i64 0]) → (left = 0 → lf = 0) → STl F w' s d keep n [[]] lf → Chg (MF F) w w' → OpY F w w' d keep n left e
  | dn (bl : List (List (List Nat))) (lf : Nat) : left ≠ 0 → e = .returned (.tuple #[.pointer none, .int .i64 9]) → DW F w' d bl true lf → bl.length = n → (∀ k, (bl.getD k []).length ≤ 100000) → (∀ cur, Rst bl cur → Dn0 keep n cur) → Chg (MF F) w w' → OpY F w w' d keep n left e
theorem st_open_l {F : Nat → Prop} {w : World} {d n keep left : Nat} (hd : DW F w d (newB n) false left) (hF : ∀ b, w.heap.size ≤ b → F b) (hn : 2 ≤ n) (hk : keep ≤ 8) :
    Calls Try.prog 24 #[.pointer (some ⟨d, 0, none⟩), .int .i64 (keep : Int)] w fun e w' => OpY F w w' d keep n left e := by
  have h96 : n ≤ 4096 := by have := DW.few hd; rw [new_len] at this; exact this
  have hl : (opD keep n left).bl.length = n := (wrA_len _ _ _).trans (new_len n)
  have hz : left = 0 → (opD keep n left).dn = false ∧ (opD keep n left).lf = 0 := fun e => by subst e; exact ⟨(wrA_zero _ _).1, (wrA_zero _ _).2.1⟩
  have hfew := wrA_few [(0, blkB (rootB keep 0 (rtB NoB [(0, .nil)])))] (left := left) (fun k => newB_one n k) (Nat.le_refl 1)
  refine (ropen_any n keep hn hk hd hF).mono ?_
  intro e w' ha
  cases ha with
  | dn hdn he hw hc => exact .dn _ _ (fun e0 => by rw [(hz e0).1] at hdn; cases hdn) he hw hl (fun k => Nat.le_trans (hfew k) (by simp)) (fun cur hr => open_down hn h96 hdn hr) hc
  | ok s hdn he hsi hc =>
    obtain ⟨h1, b2, h2⟩ := wrA_up _ _ _ hdn
    have h3 : lastsB (opD keep n left).bl = (List.replicate n z64).set 0 (blkB (rootB keep 0 (rtB NoB [(0, .nil)]))) := by
      have : lastsB (newB n) = List.replicate n z64 := newB_last n
      rw [this] at h1
      exact h1
    refine .ok s _ he (fun e0 => (hz e0).2) ⟨_, _, _, hsi, new_vsr keep, fun k => ?_, hl, ?_⟩ hc
    · have h2 : (opD keep n left).bl = safeB b2 := h2
      rw [h2]
      exact safeB_one b2 k
    · rw [h3]
      exact new_str hn h96 (by rw [List.length_set, List.length_replicate]) (set_getD_eq _ _ (by rw [List.length_replicate]; omega)) fun k _ hne => (set_getD_ne _ _ hne).trans (rep_at n k)
/-- Open on a new disk. -/
theorem st_open {F : Nat → Prop} {w : World} {d n keep : Nat} (hd : DW F w d (newB n) false 0) (hF : ∀ b, w.heap.size ≤ b → F b) (hn : 2 ≤ n) (hk : keep ≤ 8) :
    Calls Try.prog 24 #[.pointer (some ⟨d, 0, none⟩), .int .i64 (keep : Int)] w fun e w' => (∃ s, e = .returned (.tuple #[.pointer (some ⟨s, 0, none⟩), .int .i64 0]) ∧ STx F w' s d keep n [[]]) ∧ Chg (MF F) w w' := by
  refine (st_open_l hd hF hn hk).mono ?_
  intro e w' ha
  cases ha with
  | dn _ _ h => exact absurd rfl h
  | ok s lf he h0 hs hc =>
    have := h0 rfl
    subst this
    exact ⟨⟨s, he, hs⟩, hc⟩
end Go.Proofs.Tb
