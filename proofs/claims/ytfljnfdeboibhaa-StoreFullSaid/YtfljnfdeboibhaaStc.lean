/- Trees in memory; contracts of height, join, balanced, set, first, without, find. -/
import Derived.Test.YtfljnfdeboibhaaStb
import Derived.Test.YtfljnfdeboibhaaAdvE
import Derived.Test.YtfljnfdeboibhaaProg
import Derived.LaidEqlPtr
import Derived.Deep.DeepCutAuto
set_option linter.unusedVariables false
set_option linter.unusedSimpArgs false
namespace Go.Proofs.Tb
open Go.RowKit
attribute [local go_sem] cell_set_same

abbrev TNO : TypeId := 137
abbrev TNP : TypeId := 99
/-- A tree in memory: each node with its block. -/
inductive MT where
  | nil
  | node (g : Nat) (k v : Str) (l r : MT)
namespace MT
def ad : MT → Option Addr
  | nil => none
  | node g _ _ _ _ => some ⟨g, 0, none⟩
def er : MT → Tr
  | nil => .nil
  | node _ k v l r => .node k v l.er r.er
end MT
/-- What of a tree lies in memory: B: the blocks on the disk; Q: what holds of each node's place. -/
def TrW (w : World) (B : Nat → Nat) (Q : Nat → Prop) : MT → Prop
  | .nil => True
  | .node g k v l r => Blk w g TNO #[.string k, .string v, .pointer l.ad, .pointer r.ad, .int .i64 ((1 + max l.er.ht r.er.ht : Nat) : Int), .int .i64 (B g : Int)] ∧ Q g ∧ TrW w B Q l ∧ TrW w B Q r
theorem TrW.below {w w' : World} {B : Nat → Nat} {Q : Nat → Prop} (hb : Ext w w') : ∀ {t : MT}, TrW w B Q t → TrW w' B Q t
  | .nil, _ => trivial
  | .node _ _ _ _ _, ⟨h1, h2, h3, h4⟩ => ⟨h1.below hb, h2, h3.below hb, h4.below hb⟩
theorem TrW.inj {w : World} {B B' : Nat → Nat} {Q Q' : Nat → Prop} : ∀ {t t' : MT}, TrW w B Q t → TrW w B' Q' t' → t.ad = t'.ad → t = t'
  | .nil, .nil, _, _, _ => rfl
  | .nil, .node _ _ _ _ _, _, _, h => by cases h
  | .node _ _ _ _ _, .nil, _, _, h => by cases h
  | .node g k v l r, .node g' k' v' l' r', ⟨h1, _, h3, h4⟩, ⟨h1', _, h3', h4'⟩, h => by
    simp only [MT.ad, Option.some.injEq, Addr.mk.injEq, and_true] at h
    subst h
    have e := h1.symm.trans h1'
    simp only [Option.some.injEq, Obj.cells.injEq, Array.mk.injEq, List.cons.injEq, Value.string.injEq, Value.pointer.injEq, and_true] at e
    obtain ⟨rfl, rfl, e1, e2, _⟩ := e
    rw [h3.inj h3' e1, h4.inj h4' e2]
/-- Blocks that are not yet there: on no disk, and free to be made. -/
def Frs (w : World) (B : Nat → Nat) (Q : Nat → Prop) : Prop := ∀ a, w.heap.size ≤ a → B a = 0 ∧ Q a
theorem Frs.ext {w w' : World} {B : Nat → Nat} {Q : Nat → Prop} (h : Frs w B Q) (hx : Ext w w') : Frs w' B Q := fun a ha => h a (Nat.le_trans (Ext.size hx) ha)
/-- A tree that a call returns. -/
def TrR (B : Nat → Nat) (Q : Nat → Prop) (t : Tr) (v : Value) (w' : World) : Prop := ∃ t' : MT, v = .pointer t'.ad ∧ TrW w' B Q t' ∧ t'.er = t
set_option maxHeartbeats 6400000 in
set_option maxRecDepth 100000 in
theorem rheight_any (B : Nat → Nat) (Q : Nat → Prop) (t : MT) (w : World) (h : TrW w B Q t) :
    Calls Try.prog 81 #[.pointer t.ad] w (Ret (fun v _ => v = .int .i64 (t.er.ht : Int)) w) := by
  cases t with
  | nil =>
    simp only [MT.ad]
    clear h
    go_enter Try.func81, Try.ntmps81
    go_wp2
    go_returns
    exact ⟨_, rfl, rfl, Below.refl _ _⟩
  | node g k v l r =>
    obtain ⟨h1, _⟩ := h
    simp only [MT.ad]
    have c := h1.cells
    simp only [cellsAre, Nat.zero_add, Nat.reduceAdd, and_true] at c
    obtain ⟨H, hH⟩ : ∃ H : Nat, 1 + max l.er.ht r.er.ht = H := ⟨_, rfl⟩
    have HH := Lib.hid (show (MT.node g k v l r).er.ht = H from hH)
    rw [hH] at c
    clear h1 hH
    go_enter Try.func81, Try.ntmps81
    go_wp2
    go_returns
    exact ⟨_, rfl, by rw [HH.out]; rfl, Below.refl _ _⟩
theorem no_size : ∃ j, Try.prog.info? TNO = some j ∧ j.size ≠ 0 := by
  have h : (Try.prog.info? TNO).map (fun i => i.size) = some 6 := by kernel_rfl
  cases e : Try.prog.info? TNO with
  | none => rw [e] at h; cases h
  | some j =>
    rw [e] at h
    simp only [Option.map_some, Option.some.injEq] at h
    exact ⟨j, rfl, by rw [h]; decide⟩
theorem run_eql_nil1 (w : World) (a : Option Addr) : (binOp .eql TNP (.pointer none) (.pointer a)).run Try.prog w = .ok (.bool a.isNone) w := by
  have h : ∀ d : Nat, (Op.equalIn (d + 1) TNP (.pointer none) (.pointer a)).run Try.prog w = .ok a.isNone w := fun d => by
    cases a <;> simp [Op.equalIn, run_underlying Try.underlying99]
  simp only [binOp]
  simp [Op.equal, Op.maxDepth, h 9999]
theorem run_eql_nil2 (w : World) (a : Option Addr) : (binOp .eql TNP (.pointer a) (.pointer none)).run Try.prog w = .ok (.bool a.isNone) w := by
  have h : ∀ d : Nat, (Op.equalIn (d + 1) TNP (.pointer a) (.pointer none)).run Try.prog w = .ok a.isNone w := fun d => by
    cases a <;> simp [Op.equalIn, run_underlying Try.underlying99]
  simp only [binOp]
  simp [Op.equal, Op.maxDepth, h 9999]
theorem run_eql_tree {w : World} {B B' : Nat → Nat} {Q Q' : Nat → Prop} {t t' : MT} (h : TrW w B Q t) (h' : TrW w B' Q' t') : (binOp .eql TNP (.pointer t.ad) (.pointer t'.ad)).run Try.prog w = .ok (.bool (decide (t.ad = t'.ad))) w := by
  obtain ⟨j, hj, hj0⟩ := no_size
  cases t with
  | nil => rw [show MT.nil.ad = none from rfl, run_eql_nil1]; cases t' <;> rfl
  | node g k v l r =>
    cases t' with
    | nil => rw [show MT.nil.ad = none from rfl, run_eql_nil2]; rfl
    | node g' k' v' l' r' =>
      simp only [MT.ad]
      by_cases e : g = g'
      · subst e
        rw [run_eql_ptr_same w _ Try.underlying99 hj]
        simp
      · rw [run_eql_ptr_other w (a := ⟨g, 0, none⟩) (b := ⟨g', 0, none⟩) Try.underlying99 hj hj0 (fun e' => e (by injection e')) h.1 h'.1]
        simp [e]
set_option maxHeartbeats 6400000 in
set_option maxRecDepth 100000 in
theorem rjoin_any (B : Nat → Nat) (Q : Nat → Prop) (g : Nat) (k v : Str) (l r l' r' : MT) (w : World) (h : TrW w B Q (.node g k v l r)) (hl : TrW w B Q l') (hr : TrW w B Q r') (hf : Frs w B Q) (hs : l'.er.size + r'.er.size ≤ 1000000000) :
    Calls Try.prog 79 #[.pointer (some ⟨g, 0, none⟩), .pointer l'.ad, .pointer r'.ad] w (Ret (TrR B Q (.node k v l'.er r'.er)) w) := by
  have c := h.1.cells
  simp only [cellsAre, Nat.zero_add, Nat.reduceAdd, and_true] at c
  have HH := Lib.hid h
  have HL := Lib.hid hl
  have HR := Lib.hid hr
  have HF := Lib.hid hf
  have hb1 := l'.er.ht_size
  have hb2 := r'.er.ht_size
  have e1 := run_eql_tree h.2.2.1 hl
  have e2 := run_eql_tree h.2.2.2 hr
  by_cases d1 : l.ad = l'.ad
  · rw [decide_eq_true d1] at e1
    by_cases d2 : r.ad = r'.ad
    · rw [decide_eq_true d2] at e2
      have HE := Lib.hid (show TrR B Q (.node k v l'.er r'.er) (.pointer (some ⟨g, 0, none⟩)) w from ⟨.node g k v l r, rfl, h, by rw [← h.2.2.1.inj hl d1, ← h.2.2.2.inj hr d2]; rfl⟩)
      clear h hl hr hf d1 d2
      go_enter Try.func79, Try.ntmps79
      go_wp2
      go_returns
      exact ⟨_, rfl, HE.out, Below.refl _ _⟩
    · rw [decide_eq_false d2] at e2
      clear h hl hr hf d1 d2
      have kc := fun w' (hh : Ext w w') => (HH.out.1.below hh).cells
      simp only [cellsAre, Nat.zero_add, Nat.reduceAdd, and_true] at kc
      have hst : Ext w w.drew := Ext.drew _
      obtain ⟨H1, hH1⟩ : ∃ H, l'.er.ht = H := ⟨_, rfl⟩
      obtain ⟨H2, hH2⟩ : ∃ H, r'.er.ht = H := ⟨_, rfl⟩
      rw [hH1] at hb1
      rw [hH2] at hb2
      have HH1 := Lib.hid hH1
      have HH2 := Lib.hid hH2
      rcases Nat.lt_or_ge H1 H2 with hle | hle
      · have hle1 : (H1 : Int) < (H2 : Int) := by omega
        have hle2 : (H1 : Int) ≤ (H2 : Int) := by omega
        have HM := Lib.hid (show ((1 + max l'.er.ht r'.er.ht : Nat) : Int) = 1 + (H2 : Int) by rw [hH1, hH2]; omega)
        have hM1 : IntKind.i64.wrap (1 + (H2 : Int)) = 1 + (H2 : Int) := IntWalk.i64_in _ (by omega)
        clear hH1 hH2
        go_enter Try.func79, Try.ntmps79
        go_upto_region 3 with fail
        refine wp_region_adv 16 [] [(0, true, some 22, none), (1, true, some 23, none), (2, true, some 24, none), (3, true, some 25, none), (4, true, some 26, none), (5, true, some 27, none), (6, true, some 28, none), (7, true, some 29, none), (8, true, some 30, none), (9, true, some 31, none), (10, true, some 32, none), (12, true, some 34, none), (11, false, some 33, none), (13, false, some 35, none), (14, true, some 36, none), (15, true, some 37, none)] (by kernel_rfl) (by kernel_rfl) (by kernel_rfl) (by intro it hit; (repeat (rcases List.mem_cons.1 hit with rfl | hit; (focus (intro o ho ev w; injection ho with ho; subst ho; kernel_rfl)))); cases hit) (fun _ _ _ _ _ => ⟨fun h => h, fun h => h⟩) hst ?_
        repeat (first | (refine wpSeq_pure (v := ?_) rfl ?_ ?_; rotate_left 1; (focus (intro wq_ hSq_; (try dsimp only at hSq_); go_simp; (try with_reducible rfl); done)); (try simp only [Act.put, List.setIfInBounds_toArray, List.set_cons_zero, List.set_cons_succ])) | (refine wpSeq_pureG (v := ?_) rfl rfl ?_ ?_; rotate_left 1; (focus (intro wq_ hSq_; (try dsimp only at hSq_); go_simp; (try with_reducible rfl); done)); (try simp only [Act.put, List.setIfInBounds_toArray, List.set_cons_zero, List.set_cons_succ])) | (refine wpSeq_off rfl rfl ?_; (try simp only [Act.put, List.setIfInBounds_toArray, List.set_cons_zero, List.set_cons_succ])) | (refine wpSeq_offU rfl ?_; (try simp only [Act.put, List.setIfInBounds_toArray, List.set_cons_zero, List.set_cons_succ])))
        first | refine wpSeq_call rfl (fun u1 g1 s1 K hK => ?_) | refine wpSeq_callG rfl rfl (fun u1 g1 s1 K hK => ?_)
        go_simp
        refine (rheight_any B Q l' u1 (HL.out.below s1)).mono ?_
        rintro e y1 ⟨z1, rfl, rfl, b1⟩
        rw [HH1.out]
        (try go_wp2_with fail)
        refine hK.out _ _ b1 ?_
        clear hK K
        (try simp only [Act.put, List.setIfInBounds_toArray, List.set_cons_zero, List.set_cons_succ])
        repeat (first | (refine wpSeq_pure (v := ?_) rfl ?_ ?_; rotate_left 1; (focus (intro wq_ hSq_; (try dsimp only at hSq_); go_simp; (try with_reducible rfl); done)); (try simp only [Act.put, List.setIfInBounds_toArray, List.set_cons_zero, List.set_cons_succ])) | (refine wpSeq_pureG (v := ?_) rfl rfl ?_ ?_; rotate_left 1; (focus (intro wq_ hSq_; (try dsimp only at hSq_); go_simp; (try with_reducible rfl); done)); (try simp only [Act.put, List.setIfInBounds_toArray, List.set_cons_zero, List.set_cons_succ])) | (refine wpSeq_off rfl rfl ?_; (try simp only [Act.put, List.setIfInBounds_toArray, List.set_cons_zero, List.set_cons_succ])) | (refine wpSeq_offU rfl ?_; (try simp only [Act.put, List.setIfInBounds_toArray, List.set_cons_zero, List.set_cons_succ])))
        first | refine wpSeq_call rfl (fun u2 g2 s2 K hK => ?_) | refine wpSeq_callG rfl rfl (fun u2 g2 s2 K hK => ?_)
        go_simp
        refine (rheight_any B Q r' u2 (HR.out.below s2)).mono ?_
        rintro e y2 ⟨z2, rfl, rfl, b2⟩
        rw [HH2.out]
        (try go_wp2_with fail)
        refine hK.out _ _ b2 ?_
        clear hK K
        (try simp only [Act.put, List.setIfInBounds_toArray, List.set_cons_zero, List.set_cons_succ])
        repeat (first | (refine wpSeq_pure (v := ?_) rfl ?_ ?_; rotate_left 1; (focus (intro wq_ hSq_; (try dsimp only at hSq_); go_simp; (try with_reducible rfl); done)); (try simp only [Act.put, List.setIfInBounds_toArray, List.set_cons_zero, List.set_cons_succ])) | (refine wpSeq_pureG (v := ?_) rfl rfl ?_ ?_; rotate_left 1; (focus (intro wq_ hSq_; (try dsimp only at hSq_); go_simp; (try with_reducible rfl); done)); (try simp only [Act.put, List.setIfInBounds_toArray, List.set_cons_zero, List.set_cons_succ])) | (refine wpSeq_off rfl rfl ?_; (try simp only [Act.put, List.setIfInBounds_toArray, List.set_cons_zero, List.set_cons_succ])) | (refine wpSeq_offU rfl ?_; (try simp only [Act.put, List.setIfInBounds_toArray, List.set_cons_zero, List.set_cons_succ])))
        intro wz gz sz_
        (try simp only [endJ, List.drop_succ_cons, List.drop_zero])
        have hfz := HF.out wz.heap.size (Ext.size sz_)
        have hxa : Ext wz (wz.alloc (.cells #[.string k, .string v, .pointer l'.ad, .pointer r'.ad, .int .i64 (1 + (H2 : Int)), .int .i64 0] TNO)) := Ext.allocR _ _
        have HZ := Lib.hid (show TrR B Q (.node k v l'.er r'.er) (.pointer (some ⟨wz.heap.size, 0, none⟩)) (wz.alloc (.cells #[.string k, .string v, .pointer l'.ad, .pointer r'.ad, .int .i64 (1 + (H2 : Int)), .int .i64 0] TNO)) from
          ⟨.node wz.heap.size k v l' r', rfl, ⟨by rw [HM.out, hfz.1]; exact Blk.new_ _ _ rfl, hfz.2, (HL.out.below sz_).below hxa, (HR.out.below sz_).below hxa⟩, rfl⟩)
        have XZ := Lib.hid (bt sz_ hxa)
        clear kc hst gz sz_ hfz hxa
        go_wp2
        go_returns
        exact ⟨_, rfl, HZ.out, XZ.out⟩
      · have hle1 : (H2 : Int) ≤ (H1 : Int) := by omega
        have hle2 : ¬ (H1 : Int) < (H2 : Int) := by omega
        have HM := Lib.hid (show ((1 + max l'.er.ht r'.er.ht : Nat) : Int) = 1 + (H1 : Int) by rw [hH1, hH2]; omega)
        have hM1 : IntKind.i64.wrap (1 + (H1 : Int)) = 1 + (H1 : Int) := IntWalk.i64_in _ (by omega)
        clear hH1 hH2
        go_enter Try.func79, Try.ntmps79
        go_upto_region 3 with fail
        refine wp_region_adv 16 [] [(0, true, some 22, none), (1, true, some 23, none), (2, true, some 24, none), (3, true, some 25, none), (4, true, some 26, none), (5, true, some 27, none), (6, true, some 28, none), (7, true, some 29, none), (8, true, some 30, none), (9, true, some 31, none), (10, true, some 32, none), (12, true, some 34, none), (11, false, some 33, none), (13, false, some 35, none), (14, true, some 36, none), (15, true, some 37, none)] (by kernel_rfl) (by kernel_rfl) (by kernel_rfl) (by intro it hit; (repeat (rcases List.mem_cons.1 hit with rfl | hit; (focus (intro o ho ev w; injection ho with ho; subst ho; kernel_rfl)))); cases hit) (fun _ _ _ _ _ => ⟨fun h => h, fun h => h⟩) hst ?_
        repeat (first | (refine wpSeq_pure (v := ?_) rfl ?_ ?_; rotate_left 1; (focus (intro wq_ hSq_; (try dsimp only at hSq_); go_simp; (try with_reducible rfl); done)); (try simp only [Act.put, List.setIfInBounds_toArray, List.set_cons_zero, List.set_cons_succ])) | (refine wpSeq_pureG (v := ?_) rfl rfl ?_ ?_; rotate_left 1; (focus (intro wq_ hSq_; (try dsimp only at hSq_); go_simp; (try with_reducible rfl); done)); (try simp only [Act.put, List.setIfInBounds_toArray, List.set_cons_zero, List.set_cons_succ])) | (refine wpSeq_off rfl rfl ?_; (try simp only [Act.put, List.setIfInBounds_toArray, List.set_cons_zero, List.set_cons_succ])) | (refine wpSeq_offU rfl ?_; (try simp only [Act.put, List.setIfInBounds_toArray, List.set_cons_zero, List.set_cons_succ])))
        first | refine wpSeq_call rfl (fun u1 g1 s1 K hK => ?_) | refine wpSeq_callG rfl rfl (fun u1 g1 s1 K hK => ?_)
        go_simp
        refine (rheight_any B Q l' u1 (HL.out.below s1)).mono ?_
        rintro e y1 ⟨z1, rfl, rfl, b1⟩
        rw [HH1.out]
        (try go_wp2_with fail)
        refine hK.out _ _ b1 ?_
        clear hK K
        (try simp only [Act.put, List.setIfInBounds_toArray, List.set_cons_zero, List.set_cons_succ])
        repeat (first | (refine wpSeq_pure (v := ?_) rfl ?_ ?_; rotate_left 1; (focus (intro wq_ hSq_; (try dsimp only at hSq_); go_simp; (try with_reducible rfl); done)); (try simp only [Act.put, List.setIfInBounds_toArray, List.set_cons_zero, List.set_cons_succ])) | (refine wpSeq_pureG (v := ?_) rfl rfl ?_ ?_; rotate_left 1; (focus (intro wq_ hSq_; (try dsimp only at hSq_); go_simp; (try with_reducible rfl); done)); (try simp only [Act.put, List.setIfInBounds_toArray, List.set_cons_zero, List.set_cons_succ])) | (refine wpSeq_off rfl rfl ?_; (try simp only [Act.put, List.setIfInBounds_toArray, List.set_cons_zero, List.set_cons_succ])) | (refine wpSeq_offU rfl ?_; (try simp only [Act.put, List.setIfInBounds_toArray, List.set_cons_zero, List.set_cons_succ])))
        first | refine wpSeq_call rfl (fun u2 g2 s2 K hK => ?_) | refine wpSeq_callG rfl rfl (fun u2 g2 s2 K hK => ?_)
        go_simp
        refine (rheight_any B Q r' u2 (HR.out.below s2)).mono ?_
        rintro e y2 ⟨z2, rfl, rfl, b2⟩
        rw [HH2.out]
        (try go_wp2_with fail)
        refine hK.out _ _ b2 ?_
        clear hK K
        (try simp only [Act.put, List.setIfInBounds_toArray, List.set_cons_zero, List.set_cons_succ])
        repeat (first | (refine wpSeq_pure (v := ?_) rfl ?_ ?_; rotate_left 1; (focus (intro wq_ hSq_; (try dsimp only at hSq_); go_simp; (try with_reducible rfl); done)); (try simp only [Act.put, List.setIfInBounds_toArray, List.set_cons_zero, List.set_cons_succ])) | (refine wpSeq_pureG (v := ?_) rfl rfl ?_ ?_; rotate_left 1; (focus (intro wq_ hSq_; (try dsimp only at hSq_); go_simp; (try with_reducible rfl); done)); (try simp only [Act.put, List.setIfInBounds_toArray, List.set_cons_zero, List.set_cons_succ])) | (refine wpSeq_off rfl rfl ?_; (try simp only [Act.put, List.setIfInBounds_toArray, List.set_cons_zero, List.set_cons_succ])) | (refine wpSeq_offU rfl ?_; (try simp only [Act.put, List.setIfInBounds_toArray, List.set_cons_zero, List.set_cons_succ])))
        intro wz gz sz_
        (try simp only [endJ, List.drop_succ_cons, List.drop_zero])
        have hfz := HF.out wz.heap.size (Ext.size sz_)
        have hxa : Ext wz (wz.alloc (.cells #[.string k, .string v, .pointer l'.ad, .pointer r'.ad, .int .i64 (1 + (H1 : Int)), .int .i64 0] TNO)) := Ext.allocR _ _
        have HZ := Lib.hid (show TrR B Q (.node k v l'.er r'.er) (.pointer (some ⟨wz.heap.size, 0, none⟩)) (wz.alloc (.cells #[.string k, .string v, .pointer l'.ad, .pointer r'.ad, .int .i64 (1 + (H1 : Int)), .int .i64 0] TNO)) from
          ⟨.node wz.heap.size k v l' r', rfl, ⟨by rw [HM.out, hfz.1]; exact Blk.new_ _ _ rfl, hfz.2, (HL.out.below sz_).below hxa, (HR.out.below sz_).below hxa⟩, rfl⟩)
        have XZ := Lib.hid (bt sz_ hxa)
        clear kc hst gz sz_ hfz hxa
        go_wp2
        go_returns
        exact ⟨_, rfl, HZ.out, XZ.out⟩
  · rw [decide_eq_false d1] at e1
    clear h hl hr hf d1 e2
    have kc := fun w' (hh : Ext w w') => (HH.out.1.below hh).cells
    simp only [cellsAre, Nat.zero_add, Nat.reduceAdd, and_true] at kc
    have hst : Ext w w.drew := Ext.drew _
    obtain ⟨H1, hH1⟩ : ∃ H, l'.er.ht = H := ⟨_, rfl⟩
    obtain ⟨H2, hH2⟩ : ∃ H, r'.er.ht = H := ⟨_, rfl⟩
    rw [hH1] at hb1
    rw [hH2] at hb2
    have HH1 := Lib.hid hH1
    have HH2 := Lib.hid hH2
    rcases Nat.lt_or_ge H1 H2 with hle | hle
    · have hle1 : (H1 : Int) < (H2 : Int) := by omega
      have hle2 : (H1 : Int) ≤ (H2 : Int) := by omega
      have HM := Lib.hid (show ((1 + max l'.er.ht r'.er.ht : Nat) : Int) = 1 + (H2 : Int) by rw [hH1, hH2]; omega)
      have hM1 : IntKind.i64.wrap (1 + (H2 : Int)) = 1 + (H2 : Int) := IntWalk.i64_in _ (by omega)
      clear hH1 hH2
      go_enter Try.func79, Try.ntmps79
      go_upto_region 3 with fail
      refine wp_region_adv 16 [] [(0, true, some 22, none), (1, true, some 23, none), (2, true, some 24, none), (3, true, some 25, none), (4, true, some 26, none), (5, true, some 27, none), (6, true, some 28, none), (7, true, some 29, none), (8, true, some 30, none), (9, true, some 31, none), (10, true, some 32, none), (12, true, some 34, none), (11, false, some 33, none), (13, false, some 35, none), (14, true, some 36, none), (15, true, some 37, none)] (by kernel_rfl) (by kernel_rfl) (by kernel_rfl) (by intro it hit; (repeat (rcases List.mem_cons.1 hit with rfl | hit; (focus (intro o ho ev w; injection ho with ho; subst ho; kernel_rfl)))); cases hit) (fun _ _ _ _ _ => ⟨fun h => h, fun h => h⟩) hst ?_
      repeat (first | (refine wpSeq_pure (v := ?_) rfl ?_ ?_; rotate_left 1; (focus (intro wq_ hSq_; (try dsimp only at hSq_); go_simp; (try with_reducible rfl); done)); (try simp only [Act.put, List.setIfInBounds_toArray, List.set_cons_zero, List.set_cons_succ])) | (refine wpSeq_pureG (v := ?_) rfl rfl ?_ ?_; rotate_left 1; (focus (intro wq_ hSq_; (try dsimp only at hSq_); go_simp; (try with_reducible rfl); done)); (try simp only [Act.put, List.setIfInBounds_toArray, List.set_cons_zero, List.set_cons_succ])) | (refine wpSeq_off rfl rfl ?_; (try simp only [Act.put, List.setIfInBounds_toArray, List.set_cons_zero, List.set_cons_succ])) | (refine wpSeq_offU rfl ?_; (try simp only [Act.put, List.setIfInBounds_toArray, List.set_cons_zero, List.set_cons_succ])))
      first | refine wpSeq_call rfl (fun u1 g1 s1 K hK => ?_) | refine wpSeq_callG rfl rfl (fun u1 g1 s1 K hK => ?_)
      go_simp
      refine (rheight_any B Q l' u1 (HL.out.below s1)).mono ?_
      rintro e y1 ⟨z1, rfl, rfl, b1⟩
      rw [HH1.out]
      (try go_wp2_with fail)
      refine hK.out _ _ b1 ?_
      clear hK K
      (try simp only [Act.put, List.setIfInBounds_toArray, List.set_cons_zero, List.set_cons_succ])
      repeat (first | (refine wpSeq_pure (v := ?_) rfl ?_ ?_; rotate_left 1; (focus (intro wq_ hSq_; (try dsimp only at hSq_); go_simp; (try with_reducible rfl); done)); (try simp only [Act.put, List.setIfInBounds_toArray, List.set_cons_zero, List.set_cons_succ])) | (refine wpSeq_pureG (v := ?_) rfl rfl ?_ ?_; rotate_left 1; (focus (intro wq_ hSq_; (try dsimp only at hSq_); go_simp; (try with_reducible rfl); done)); (try simp only [Act.put, List.setIfInBounds_toArray, List.set_cons_zero, List.set_cons_succ])) | (refine wpSeq_off rfl rfl ?_; (try simp only [Act.put, List.setIfInBounds_toArray, List.set_cons_zero, List.set_cons_succ])) | (refine wpSeq_offU rfl ?_; (try simp only [Act.put, List.setIfInBounds_toArray, List.set_cons_zero, List.set_cons_succ])))
      first | refine wpSeq_call rfl (fun u2 g2 s2 K hK => ?_) | refine wpSeq_callG rfl rfl (fun u2 g2 s2 K hK => ?_)
      go_simp
      refine (rheight_any B Q r' u2 (HR.out.below s2)).mono ?_
      rintro e y2 ⟨z2, rfl, rfl, b2⟩
      rw [HH2.out]
      (try go_wp2_with fail)
      refine hK.out _ _ b2 ?_
      clear hK K
      (try simp only [Act.put, List.setIfInBounds_toArray, List.set_cons_zero, List.set_cons_succ])
      repeat (first | (refine wpSeq_pure (v := ?_) rfl ?_ ?_; rotate_left 1; (focus (intro wq_ hSq_; (try dsimp only at hSq_); go_simp; (try with_reducible rfl); done)); (try simp only [Act.put, List.setIfInBounds_toArray, List.set_cons_zero, List.set_cons_succ])) | (refine wpSeq_pureG (v := ?_) rfl rfl ?_ ?_; rotate_left 1; (focus (intro wq_ hSq_; (try dsimp only at hSq_); go_simp; (try with_reducible rfl); done)); (try simp only [Act.put, List.setIfInBounds_toArray, List.set_cons_zero, List.set_cons_succ])) | (refine wpSeq_off rfl rfl ?_; (try simp only [Act.put, List.setIfInBounds_toArray, List.set_cons_zero, List.set_cons_succ])) | (refine wpSeq_offU rfl ?_; (try simp only [Act.put, List.setIfInBounds_toArray, List.set_cons_zero, List.set_cons_succ])))
      intro wz gz sz_
      (try simp only [endJ, List.drop_succ_cons, List.drop_zero])
      have hfz := HF.out wz.heap.size (Ext.size sz_)
      have hxa : Ext wz (wz.alloc (.cells #[.string k, .string v, .pointer l'.ad, .pointer r'.ad, .int .i64 (1 + (H2 : Int)), .int .i64 0] TNO)) := Ext.allocR _ _
      have HZ := Lib.hid (show TrR B Q (.node k v l'.er r'.er) (.pointer (some ⟨wz.heap.size, 0, none⟩)) (wz.alloc (.cells #[.string k, .string v, .pointer l'.ad, .pointer r'.ad, .int .i64 (1 + (H2 : Int)), .int .i64 0] TNO)) from
        ⟨.node wz.heap.size k v l' r', rfl, ⟨by rw [HM.out, hfz.1]; exact Blk.new_ _ _ rfl, hfz.2, (HL.out.below sz_).below hxa, (HR.out.below sz_).below hxa⟩, rfl⟩)
      have XZ := Lib.hid (bt sz_ hxa)
      clear kc hst gz sz_ hfz hxa
      go_wp2
      go_returns
      exact ⟨_, rfl, HZ.out, XZ.out⟩
    · have hle1 : (H2 : Int) ≤ (H1 : Int) := by omega
      have hle2 : ¬ (H1 : Int) < (H2 : Int) := by omega
      have HM := Lib.hid (show ((1 + max l'.er.ht r'.er.ht : Nat) : Int) = 1 + (H1 : Int) by rw [hH1, hH2]; omega)
      have hM1 : IntKind.i64.wrap (1 + (H1 : Int)) = 1 + (H1 : Int) := IntWalk.i64_in _ (by omega)
      clear hH1 hH2
      go_enter Try.func79, Try.ntmps79
      go_upto_region 3 with fail
      refine wp_region_adv 16 [] [(0, true, some 22, none), (1, true, some 23, none), (2, true, some 24, none), (3, true, some 25, none), (4, true, some 26, none), (5, true, some 27, none), (6, true, some 28, none), (7, true, some 29, none), (8, true, some 30, none), (9, true, some 31, none), (10, true, some 32, none), (12, true, some 34, none), (11, false, some 33, none), (13, false, some 35, none), (14, true, some 36, none), (15, true, some 37, none)] (by kernel_rfl) (by kernel_rfl) (by kernel_rfl) (by intro it hit; (repeat (rcases List.mem_cons.1 hit with rfl | hit; (focus (intro o ho ev w; injection ho with ho; subst ho; kernel_rfl)))); cases hit) (fun _ _ _ _ _ => ⟨fun h => h, fun h => h⟩) hst ?_
      repeat (first | (refine wpSeq_pure (v := ?_) rfl ?_ ?_; rotate_left 1; (focus (intro wq_ hSq_; (try dsimp only at hSq_); go_simp; (try with_reducible rfl); done)); (try simp only [Act.put, List.setIfInBounds_toArray, List.set_cons_zero, List.set_cons_succ])) | (refine wpSeq_pureG (v := ?_) rfl rfl ?_ ?_; rotate_left 1; (focus (intro wq_ hSq_; (try dsimp only at hSq_); go_simp; (try with_reducible rfl); done)); (try simp only [Act.put, List.setIfInBounds_toArray, List.set_cons_zero, List.set_cons_succ])) | (refine wpSeq_off rfl rfl ?_; (try simp only [Act.put, List.setIfInBounds_toArray, List.set_cons_zero, List.set_cons_succ])) | (refine wpSeq_offU rfl ?_; (try simp only [Act.put, List.setIfInBounds_toArray, List.set_cons_zero, List.set_cons_succ])))
      first | refine wpSeq_call rfl (fun u1 g1 s1 K hK => ?_) | refine wpSeq_callG rfl rfl (fun u1 g1 s1 K hK => ?_)
      go_simp
      refine (rheight_any B Q l' u1 (HL.out.below s1)).mono ?_
      rintro e y1 ⟨z1, rfl, rfl, b1⟩
      rw [HH1.out]
      (try go_wp2_with fail)
      refine hK.out _ _ b1 ?_
      clear hK K
      (try simp only [Act.put, List.setIfInBounds_toArray, List.set_cons_zero, List.set_cons_succ])
      repeat (first | (refine wpSeq_pure (v := ?_) rfl ?_ ?_; rotate_left 1; (focus (intro wq_ hSq_; (try dsimp only at hSq_); go_simp; (try with_reducible rfl); done)); (try simp only [Act.put, List.setIfInBounds_toArray, List.set_cons_zero, List.set_cons_succ])) | (refine wpSeq_pureG (v := ?_) rfl rfl ?_ ?_; rotate_left 1; (focus (intro wq_ hSq_; (try dsimp only at hSq_); go_simp; (try with_reducible rfl); done)); (try simp only [Act.put, List.setIfInBounds_toArray, List.set_cons_zero, List.set_cons_succ])) | (refine wpSeq_off rfl rfl ?_; (try simp only [Act.put, List.setIfInBounds_toArray, List.set_cons_zero, List.set_cons_succ])) | (refine wpSeq_offU rfl ?_; (try simp only [Act.put, List.setIfInBounds_toArray, List.set_cons_zero, List.set_cons_succ])))
      first | refine wpSeq_call rfl (fun u2 g2 s2 K hK => ?_) | refine wpSeq_callG rfl rfl (fun u2 g2 s2 K hK => ?_)
      go_simp
      refine (rheight_any B Q r' u2 (HR.out.below s2)).mono ?_
      rintro e y2 ⟨z2, rfl, rfl, b2⟩
      rw [HH2.out]
      (try go_wp2_with fail)
      refine hK.out _ _ b2 ?_
      clear hK K
      (try simp only [Act.put, List.setIfInBounds_toArray, List.set_cons_zero, List.set_cons_succ])
      repeat (first | (refine wpSeq_pure (v := ?_) rfl ?_ ?_; rotate_left 1; (focus (intro wq_ hSq_; (try dsimp only at hSq_); go_simp; (try with_reducible rfl); done)); (try simp only [Act.put, List.setIfInBounds_toArray, List.set_cons_zero, List.set_cons_succ])) | (refine wpSeq_pureG (v := ?_) rfl rfl ?_ ?_; rotate_left 1; (focus (intro wq_ hSq_; (try dsimp only at hSq_); go_simp; (try with_reducible rfl); done)); (try simp only [Act.put, List.setIfInBounds_toArray, List.set_cons_zero, List.set_cons_succ])) | (refine wpSeq_off rfl rfl ?_; (try simp only [Act.put, List.setIfInBounds_toArray, List.set_cons_zero, List.set_cons_succ])) | (refine wpSeq_offU rfl ?_; (try simp only [Act.put, List.setIfInBounds_toArray, List.set_cons_zero, List.set_cons_succ])))
      intro wz gz sz_
      (try simp only [endJ, List.drop_succ_cons, List.drop_zero])
      have hfz := HF.out wz.heap.size (Ext.size sz_)
      have hxa : Ext wz (wz.alloc (.cells #[.string k, .string v, .pointer l'.ad, .pointer r'.ad, .int .i64 (1 + (H1 : Int)), .int .i64 0] TNO)) := Ext.allocR _ _
      have HZ := Lib.hid (show TrR B Q (.node k v l'.er r'.er) (.pointer (some ⟨wz.heap.size, 0, none⟩)) (wz.alloc (.cells #[.string k, .string v, .pointer l'.ad, .pointer r'.ad, .int .i64 (1 + (H1 : Int)), .int .i64 0] TNO)) from
        ⟨.node wz.heap.size k v l' r', rfl, ⟨by rw [HM.out, hfz.1]; exact Blk.new_ _ _ rfl, hfz.2, (HL.out.below sz_).below hxa, (HR.out.below sz_).below hxa⟩, rfl⟩)
      have XZ := Lib.hid (bt sz_ hxa)
      clear kc hst gz sz_ hfz hxa
      go_wp2
      go_returns
      exact ⟨_, rfl, HZ.out, XZ.out⟩
end Go.Proofs.Tb
