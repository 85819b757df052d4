/- Trees in memory; contracts of height, join, balanced, set, first, without, find. (With what follows it, in one text.) -/
import Derived.Test.YtfljnfdeboibhaaTsa
import Derived.Test.YtfljnfdeboibhaaAdvE
import Derived.Test.YtfljnfdeboibhaaProg
import Derived.LaidEqlPtr
import Derived.Deep.DeepCutAuto
set_option linter.unusedVariables false
set_option linter.unusedSimpArgs false
/- Trees in memory; contracts of height, join, balanced, set, first, without, find. -/
namespace Go.Proofs.Tb
open Go.RowKit
attribute [local go_sem] cell_set_same

abbrev TNO : TypeId := 137
abbrev TNP : TypeId := 99
/-- A tree in memory: each node with its block. -/
inductive MT where
  | nil
  | node (g : Nat) (k v : Str) (l r : MT)
namespace MT
def ad : MT → Option Addr
  | nil => none
  | node g _ _ _ _ => some ⟨g, 0, none⟩
def er : MT → Tr
  | nil => .nil
  | node _ k v l r => .node k v l.er r.er
end MT
/-- What of a tree lies in memory: B: the blocks on the disk; Q: what holds of each node's place. -/
def TrW (w : World) (B : Nat → Nat) (Q : Nat → Prop) : MT → Prop
  | .nil => True
  | .node g k v l r => Blk w g TNO #[.string k, .string v, .pointer l.ad, .pointer r.ad, .int .i64 ((1 + max l.er.ht r.er.ht : Nat) : Int), .int .i64 (B g : Int)] ∧ Q g ∧ TrW w B Q l ∧ TrW w B Q r
theorem TrW.below {w w' : World} {B : Nat → Nat} {Q : Nat → Prop} (hb : Ext w w') : ∀ {t : MT}, TrW w B Q t → TrW w' B Q t
  | .nil, _ => trivial
  | .node _ _ _ _ _, ⟨h1, h2, h3, h4⟩ => ⟨h1.below hb, h2, h3.below hb, h4.below hb⟩
theorem TrW.inj {w : World} {B B' : Nat → Nat} {Q Q' : Nat → Prop} : ∀ {t t' : MT}, TrW w B Q t → TrW w B' Q' t' → t.ad = t'.ad → t = t'
  | .nil, .nil, _, _, _ => rfl
  | .nil, .node _ _ _ _ _, _, _, h => by cases h
  | .node _ _ _ _ _, .nil, _, _, h => by cases h
  | .node g k v l r, .node g' k' v' l' r', ⟨h1, _, h3, h4⟩, ⟨h1', _, h3', h4'⟩, h => by
    simp only [MT.ad, Option.some.injEq, Addr.mk.injEq, and_true] at h
    subst h
    have e := h1.symm.trans h1'
    simp only [Option.some.injEq, Obj.cells.injEq, Array.mk.injEq, List.cons.injEq, Value.string.injEq, Value.pointer.injEq, and_true] at e
    obtain ⟨rfl, rfl, e1, e2, _⟩ := e
    rw [h3.inj h3' e1, h4.inj h4' e2]
/-- Blocks that are not yet there: on no disk, and free to be made. -/
def Frs (w : World) (B : Nat → Nat) (Q : Nat → Prop) : Prop := ∀ a, w.heap.size ≤ a → B a = 0 ∧ Q a
theorem Frs.ext {w w' : World} {B : Nat → Nat} {Q : Nat → Prop} (h : Frs w B Q) (hx : Ext w w') : Frs w' B Q := fun a ha => h a (Nat.le_trans (Ext.size hx) ha)
/-- A tree that a call returns. -/
def TrR (B : Nat → Nat) (Q : Nat → Prop) (t : Tr) (v : Value) (w' : World) : Prop := ∃ t' : MT, v = .pointer t'.ad ∧ TrW w' B Q t' ∧ t'.er = t
set_option maxHeartbeats 6400000 in
set_option maxRecDepth 100000 in
theorem rheight_any (B : Nat → Nat) (Q : Nat → Prop) (t : MT) (w : World) (h : TrW w B Q t) :
    Calls Try.prog 81 #[.pointer t.ad] w (Ret (fun v _ => v = .int .i64 (t.er.ht : Int)) w) := by
  cases t with
  | nil =>
    simp only [MT.ad]
    clear h
    go_enter Try.func81, Try.ntmps81
    go_wp2
    go_returns
    exact ⟨_, rfl, rfl, Below.refl _ _⟩
  | node g k v l r =>
    obtain ⟨h1, _⟩ := h
    simp only [MT.ad]
    have c := h1.cells
    simp only [cellsAre, Nat.zero_add, Nat.reduceAdd, and_true] at c
    obtain ⟨H, hH⟩ : ∃ H : Nat, 1 + max l.er.ht r.er.ht = H := ⟨_, rfl⟩
    have HH := Lib.hid (show (MT.node g k v l r).er.ht = H from hH)
    rw [hH] at c
    clear h1 hH
    go_enter Try.func81, Try.ntmps81
    go_wp2
    go_returns
    exact ⟨_, rfl, by rw [HH.out]; rfl, Below.refl _ _⟩
theorem no_size : ∃ j, Try.prog.info? TNO = some j ∧ j.size ≠ 0 := by
  have h : (Try.prog.info? TNO).map (fun i => i.size) = some 6 := by kernel_rfl
  cases e : Try.prog.info? TNO with
  | none => rw [e] at h; cases h
  | some j =>
    rw [e] at h
    simp only [Option.map_some, Option.some.injEq] at h
    exact ⟨j, rfl, by rw [h]; decide⟩
theorem run_eql_nil1 (w : World) (a : Option Addr) : (binOp .eql TNP (.pointer none) (.pointer a)).run Try.prog w = .ok (.bool a.isNone) w := by
  have h : ∀ d : Nat, (Op.equalIn (d + 1) TNP (.pointer none) (.pointer a)).run Try.prog w = .ok a.isNone w := fun d => by
    cases a <;> simp [Op.equalIn, run_underlying Try.underlying99]
  simp only [binOp]
  simp [Op.equal, Op.maxDepth, h 9999]
theorem run_eql_nil2 (w : World) (a : Option Addr) : (binOp .eql TNP (.pointer a) (.pointer none)).run Try.prog w = .ok (.bool a.isNone) w := by
  have h : ∀ d : Nat, (Op.equalIn (d + 1) TNP (.pointer a) (.pointer none)).run Try.prog w = .ok a.isNone w := fun d => by
    cases a <;> simp [Op.equalIn, run_underlying Try.underlying99]
  simp only [binOp]
  simp [Op.equal, Op.maxDepth, h 9999]
theorem run_eql_tree {w : World} {B B' : Nat → Nat} {Q Q' : Nat → Prop} {t t' : MT} (h : TrW w B Q t) (h' : TrW w B' Q' t') : (binOp .eql TNP (.pointer t.ad) (.pointer t'.ad)).run Try.prog w = .ok (.bool (decide (t.ad = t'.ad))) w := by
  obtain ⟨j, hj, hj0⟩ := no_size
  cases t with
  | nil => rw [show MT.nil.ad = none from rfl, run_eql_nil1]; cases t' <;> rfl
  | node g k v l r =>
    cases t' with
    | nil => rw [show MT.nil.ad = none from rfl, run_eql_nil2]; rfl
    | node g' k' v' l' r' =>
      simp only [MT.ad]
      by_cases e : g = g'
      · subst e
        rw [run_eql_ptr_same w _ Try.underlying99 hj]
        simp
      · rw [run_eql_ptr_other w (a := ⟨g, 0, none⟩) (b := ⟨g', 0, none⟩) Try.underlying99 hj hj0 (fun e' => e (by injection e')) h.1 h'.1]
        simp [e]
set_option maxHeartbeats 6400000 in
set_option maxRecDepth 100000 in
theorem rjoin_any (B : Nat → Nat) (Q : Nat → Prop) (g : Nat) (k v : Str) (l r l' r' : MT) (w : World) (h : TrW w B Q (.node g k v l r)) (hl : TrW w B Q l') (hr : TrW w B Q r') (hf : Frs w B Q) (hs : l'.er.size + r'.er.size ≤ 1000000000) :
    Calls Try.prog 79 #[.pointer (some ⟨g, 0, none⟩), .pointer l'.ad, .pointer r'.ad] w (Ret (TrR B Q (.node k v l'.er r'.er)) w) := by
  have c := h.1.cells
  simp only [cellsAre, Nat.zero_add, Nat.reduceAdd, and_true] at c
  have HH := Lib.hid h
  have HL := Lib.hid hl
  have HR := Lib.hid hr
  have HF := Lib.hid hf
  have hb1 := l'.er.ht_size
  have hb2 := r'.er.ht_size
  have e1 := run_eql_tree h.2.2.1 hl
  have e2 := run_eql_tree h.2.2.2 hr
  by_cases d1 : l.ad = l'.ad
  · rw [decide_eq_true d1] at e1
    by_cases d2 : r.ad = r'.ad
    · rw [decide_eq_true d2] at e2
      have HE := Lib.hid (show TrR B Q (.node k v l'.er r'.er) (.pointer (some ⟨g, 0, none⟩)) w from ⟨.node g k v l r, rfl, h, by rw [← h.2.2.1.inj hl d1, ← h.2.2.2.inj hr d2]; rfl⟩)
      clear h hl hr hf d1 d2
      go_enter Try.func79, Try.ntmps79
      go_wp2
      go_returns
      exact ⟨_, rfl, HE.out, Below.refl _ _⟩
    · rw [decide_eq_false d2] at e2
      clear h hl hr hf d1 d2
      have kc := fun w' (hh : Ext w w') => (HH.out.1.below hh).cells
      simp only [cellsAre, Nat.zero_add, Nat.reduceAdd, and_true] at kc
      have hst : Ext w w.drew := Ext.drew _
      obtain ⟨H1, hH1⟩ : ∃ H, l'.er.ht = H := ⟨_, rfl⟩
      obtain ⟨H2, hH2⟩ : ∃ H, r'.er.ht = H := ⟨_, rfl⟩
      rw [hH1] at hb1
      rw [hH2] at hb2
      have HH1 := Lib.hid hH1
      have HH2 := Lib.hid hH2
      rcases Nat.lt_or_ge H1 H2 with hle | hle
      · have hle1 : (H1 : Int) < (H2 : Int) := by omega
        have hle2 : (H1 : Int) ≤ (H2 : Int) := by omega
        have HM := Lib.hid (show ((1 + max l'.er.ht r'.er.ht : Nat) : Int) = 1 + (H2 : Int) by rw [hH1, hH2]; omega)
        have hM1 : IntKind.i64.wrap (1 + (H2 : Int)) = 1 + (H2 : Int) := IntWalk.i64_in _ (by omega)
        clear hH1 hH2
        go_enter Try.func79, Try.ntmps79
        go_upto_region 3 with fail
        refine wp_region_adv 16 [] [(0, true, some 22, none), (1, true, some 23, none), (2, true, some 24, none), (3, true, some 25, none), (4, true, some 26, none), (5, true, some 27, none), (6, true, some 28, none), (7, true, some 29, none), (8, true, some 30, none), (9, true, some 31, none), (10, true, some 32, none), (12, true, some 34, none), (11, false, some 33, none), (13, false, some 35, none), (14, true, some 36, none), (15, true, some 37, none)] (by kernel_rfl) (by kernel_rfl) (by kernel_rfl) (by intro it hit; (repeat (rcases List.mem_cons.1 hit with rfl | hit; (focus (intro o ho ev w; injection ho with ho; subst ho; kernel_rfl)))); cases hit) (fun _ _ _ _ _ => ⟨fun h => h, fun h => h⟩) hst ?_
        repeat (first | (refine wpSeq_pure (v := ?_) rfl ?_ ?_; rotate_left 1; (focus (intro wq_ hSq_; (try dsimp only at hSq_); go_simp; (try with_reducible rfl); done)); (try simp only [Act.put, List.setIfInBounds_toArray, List.set_cons_zero, List.set_cons_succ])) | (refine wpSeq_pureG (v := ?_) rfl rfl ?_ ?_; rotate_left 1; (focus (intro wq_ hSq_; (try dsimp only at hSq_); go_simp; (try with_reducible rfl); done)); (try simp only [Act.put, List.setIfInBounds_toArray, List.set_cons_zero, List.set_cons_succ])) | (refine wpSeq_off rfl rfl ?_; (try simp only [Act.put, List.setIfInBounds_toArray, List.set_cons_zero, List.set_cons_succ])) | (refine wpSeq_offU rfl ?_; (try simp only [Act.put, List.setIfInBounds_toArray, List.set_cons_zero, List.set_cons_succ])))
        first | refine wpSeq_call rfl (fun u1 g1 s1 K hK => ?_) | refine wpSeq_callG rfl rfl (fun u1 g1 s1 K hK => ?_)
        go_simp
        refine (rheight_any B Q l' u1 (HL.out.below s1)).mono ?_
        rintro e y1 ⟨z1, rfl, rfl, b1⟩
        rw [HH1.out]
        (try go_wp2_with fail)
        refine hK.out _ _ b1 ?_
        clear hK K
        (try simp only [Act.put, List.setIfInBounds_toArray, List.set_cons_zero, List.set_cons_succ])
        repeat (first | (refine wpSeq_pure (v := ?_) rfl ?_ ?_; rotate_left 1; (focus (intro wq_ hSq_; (try dsimp only at hSq_); go_simp; (try with_reducible rfl); done)); (try simp only [Act.put, List.setIfInBounds_toArray, List.set_cons_zero, List.set_cons_succ])) | (refine wpSeq_pureG (v := ?_) rfl rfl ?_ ?_; rotate_left 1; (focus (intro wq_ hSq_; (try dsimp only at hSq_); go_simp; (try with_reducible rfl); done)); (try simp only [Act.put, List.setIfInBounds_toArray, List.set_cons_zero, List.set_cons_succ])) | (refine wpSeq_off rfl rfl ?_; (try simp only [Act.put, List.setIfInBounds_toArray, List.set_cons_zero, List.set_cons_succ])) | (refine wpSeq_offU rfl ?_; (try simp only [Act.put, List.setIfInBounds_toArray, List.set_cons_zero, List.set_cons_succ])))
        first | refine wpSeq_call rfl (fun u2 g2 s2 K hK => ?_) | refine wpSeq_callG rfl rfl (fun u2 g2 s2 K hK => ?_)
        go_simp
        refine (rheight_any B Q r' u2 (HR.out.below s2)).mono ?_
        rintro e y2 ⟨z2, rfl, rfl, b2⟩
        rw [HH2.out]
        (try go_wp2_with fail)
        refine hK.out _ _ b2 ?_
        clear hK K
        (try simp only [Act.put, List.setIfInBounds_toArray, List.set_cons_zero, List.set_cons_succ])
        repeat (first | (refine wpSeq_pure (v := ?_) rfl ?_ ?_; rotate_left 1; (focus (intro wq_ hSq_; (try dsimp only at hSq_); go_simp; (try with_reducible rfl); done)); (try simp only [Act.put, List.setIfInBounds_toArray, List.set_cons_zero, List.set_cons_succ])) | (refine wpSeq_pureG (v := ?_) rfl rfl ?_ ?_; rotate_left 1; (focus (intro wq_ hSq_; (try dsimp only at hSq_); go_simp; (try with_reducible rfl); done)); (try simp only [Act.put, List.setIfInBounds_toArray, List.set_cons_zero, List.set_cons_succ])) | (refine wpSeq_off rfl rfl ?_; (try simp only [Act.put, List.setIfInBounds_toArray, List.set_cons_zero, List.set_cons_succ])) | (refine wpSeq_offU rfl ?_; (try simp only [Act.put, List.setIfInBounds_toArray, List.set_cons_zero, List.set_cons_succ])))
        intro wz gz sz_
        (try simp only [endJ, List.drop_succ_cons, List.drop_zero])
        have hfz := HF.out wz.heap.size (Ext.size sz_)
        have hxa : Ext wz (wz.alloc (.cells #[.string k, .string v, .pointer l'.ad, .pointer r'.ad, .int .i64 (1 + (H2 : Int)), .int .i64 0] TNO)) := Ext.allocR _ _
        have HZ := Lib.hid (show TrR B Q (.node k v l'.er r'.er) (.pointer (some ⟨wz.heap.size, 0, none⟩)) (wz.alloc (.cells #[.string k, .string v, .pointer l'.ad, .pointer r'.ad, .int .i64 (1 + (H2 : Int)), .int .i64 0] TNO)) from
          ⟨.node wz.heap.size k v l' r', rfl, ⟨by rw [HM.out, hfz.1]; exact Blk.new_ _ _ rfl, hfz.2, (HL.out.below sz_).below hxa, (HR.out.below sz_).below hxa⟩, rfl⟩)
        have XZ := Lib.hid (bt sz_ hxa)
        clear kc hst gz sz_ hfz hxa
        go_wp2
        go_returns
        exact ⟨_, rfl, HZ.out, XZ.out⟩
      · have hle1 : (H2 : Int) ≤ (H1 : Int) := by omega
        have hle2 : ¬ (H1 : Int) < (H2 : Int) := by omega
        have HM := Lib.hid (show ((1 + max l'.er.ht r'.er.ht : Nat) : Int) = 1 + (H1 : Int) by rw [hH1, hH2]; omega)
        have hM1 : IntKind.i64.wrap (1 + (H1 : Int)) = 1 + (H1 : Int) := IntWalk.i64_in _ (by omega)
        clear hH1 hH2
        go_enter Try.func79, Try.ntmps79
        go_upto_region 3 with fail
        refine wp_region_adv 16 [] [(0, true, some 22, none), (1, true, some 23, none), (2, true, some 24, none), (3, true, some 25, none), (4, true, some 26, none), (5, true, some 27, none), (6, true, some 28, none), (7, true, some 29, none), (8, true, some 30, none), (9, true, some 31, none), (10, true, some 32, none), (12, true, some 34, none), (11, false, some 33, none), (13, false, some 35, none), (14, true, some 36, none), (15, true, some 37, none)] (by kernel_rfl) (by kernel_rfl) (by kernel_rfl) (by intro it hit; (repeat (rcases List.mem_cons.1 hit with rfl | hit; (focus (intro o ho ev w; injection ho with ho; subst ho; kernel_rfl)))); cases hit) (fun _ _ _ _ _ => ⟨fun h => h, fun h => h⟩) hst ?_
        repeat (first | (refine wpSeq_pure (v := ?_) rfl ?_ ?_; rotate_left 1; (focus (intro wq_ hSq_; (try dsimp only at hSq_); go_simp; (try with_reducible rfl); done)); (try simp only [Act.put, List.setIfInBounds_toArray, List.set_cons_zero, List.set_cons_succ])) | (refine wpSeq_pureG (v := ?_) rfl rfl ?_ ?_; rotate_left 1; (focus (intro wq_ hSq_; (try dsimp only at hSq_); go_simp; (try with_reducible rfl); done)); (try simp only [Act.put, List.setIfInBounds_toArray, List.set_cons_zero, List.set_cons_succ])) | (refine wpSeq_off rfl rfl ?_; (try simp only [Act.put, List.setIfInBounds_toArray, List.set_cons_zero, List.set_cons_succ])) | (refine wpSeq_offU rfl ?_; (try simp only [Act.put, List.setIfInBounds_toArray, List.set_cons_zero, List.set_cons_succ])))
        first | refine wpSeq_call rfl (fun u1 g1 s1 K hK => ?_) | refine wpSeq_callG rfl rfl (fun u1 g1 s1 K hK => ?_)
        go_simp
        refine (rheight_any B Q l' u1 (HL.out.below s1)).mono ?_
        rintro e y1 ⟨z1, rfl, rfl, b1⟩
        rw [HH1.out]
        (try go_wp2_with fail)
        refine hK.out _ _ b1 ?_
        clear hK K
        (try simp only [Act.put, List.setIfInBounds_toArray, List.set_cons_zero, List.set_cons_succ])
        repeat (first | (refine wpSeq_pure (v := ?_) rfl ?_ ?_; rotate_left 1; (focus (intro wq_ hSq_; (try dsimp only at hSq_); go_simp; (try with_reducible rfl); done)); (try simp only [Act.put, List.setIfInBounds_toArray, List.set_cons_zero, List.set_cons_succ])) | (refine wpSeq_pureG (v := ?_) rfl rfl ?_ ?_; rotate_left 1; (focus (intro wq_ hSq_; (try dsimp only at hSq_); go_simp; (try with_reducible rfl); done)); (try simp only [Act.put, List.setIfInBounds_toArray, List.set_cons_zero, List.set_cons_succ])) | (refine wpSeq_off rfl rfl ?_; (try simp only [Act.put, List.setIfInBounds_toArray, List.set_cons_zero, List.set_cons_succ])) | (refine wpSeq_offU rfl ?_; (try simp only [Act.put, List.setIfInBounds_toArray, List.set_cons_zero, List.set_cons_succ])))
        first | refine wpSeq_call rfl (fun u2 g2 s2 K hK => ?_) | refine wpSeq_callG rfl rfl (fun u2 g2 s2 K hK => ?_)
        go_simp
        refine (rheight_any B Q r' u2 (HR.out.below s2)).mono ?_
        rintro e y2 ⟨z2, rfl, rfl, b2⟩
        rw [HH2.out]
        (try go_wp2_with fail)
        refine hK.out _ _ b2 ?_
        clear hK K
        (try simp only [Act.put, List.setIfInBounds_toArray, List.set_cons_zero, List.set_cons_succ])
        repeat (first | (refine wpSeq_pure (v := ?_) rfl ?_ ?_; rotate_left 1; (focus (intro wq_ hSq_; (try dsimp only at hSq_); go_simp; (try with_reducible rfl); done)); (try simp only [Act.put, List.setIfInBounds_toArray, List.set_cons_zero, List.set_cons_succ])) | (refine wpSeq_pureG (v := ?_) rfl rfl ?_ ?_; rotate_left 1; (focus (intro wq_ hSq_; (try dsimp only at hSq_); go_simp; (try with_reducible rfl); done)); (try simp only [Act.put, List.setIfInBounds_toArray, List.set_cons_zero, List.set_cons_succ])) | (refine wpSeq_off rfl rfl ?_; (try simp only [Act.put, List.setIfInBounds_toArray, List.set_cons_zero, List.set_cons_succ])) | (refine wpSeq_offU rfl ?_; (try simp only [Act.put, List.setIfInBounds_toArray, List.set_cons_zero, List.set_cons_succ])))
        intro wz gz sz_
        (try simp only [endJ, List.drop_succ_cons, List.drop_zero])
        have hfz := HF.out wz.heap.size (Ext.size sz_)
        have hxa : Ext wz (wz.alloc (.cells #[.string k, .string v, .pointer l'.ad, .pointer r'.ad, .int .i64 (1 + (H1 : Int)), .int .i64 0] TNO)) := Ext.allocR _ _
        have HZ := Lib.hid (show TrR B Q (.node k v l'.er r'.er) (.pointer (some ⟨wz.heap.size, 0, none⟩)) (wz.alloc (.cells #[.string k, .string v, .pointer l'.ad, .pointer r'.ad, .int .i64 (1 + (H1 : Int)), .int .i64 0] TNO)) from
          ⟨.node wz.heap.size k v l' r', rfl, ⟨by rw [HM.out, hfz.1]; exact Blk.new_ _ _ rfl, hfz.2, (HL.out.below sz_).below hxa, (HR.out.below sz_).below hxa⟩, rfl⟩)
        have XZ := Lib.hid (bt sz_ hxa)
        clear kc hst gz sz_ hfz hxa
        go_wp2
        go_returns
        exact ⟨_, rfl, HZ.out, XZ.out⟩
  · rw [decide_eq_false d1] at e1
    clear h hl hr hf d1 e2
    have kc := fun w' (hh : Ext w w') => (HH.out.1.below hh).cells
    simp only [cellsAre, Nat.zero_add, Nat.reduceAdd, and_true] at kc
    have hst : Ext w w.drew := Ext.drew _
    obtain ⟨H1, hH1⟩ : ∃ H, l'.er.ht = H := ⟨_, rfl⟩
    obtain ⟨H2, hH2⟩ : ∃ H, r'.er.ht = H := ⟨_, rfl⟩
    rw [hH1] at hb1
    rw [hH2] at hb2
    have HH1 := Lib.hid hH1
    have HH2 := Lib.hid hH2
    rcases Nat.lt_or_ge H1 H2 with hle | hle
    · have hle1 : (H1 : Int) < (H2 : Int) := by omega
      have hle2 : (H1 : Int) ≤ (H2 : Int) := by omega
      have HM := Lib.hid (show ((1 + max l'.er.ht r'.er.ht : Nat) : Int) = 1 + (H2 : Int) by rw [hH1, hH2]; omega)
      have hM1 : IntKind.i64.wrap (1 + (H2 : Int)) = 1 + (H2 : Int) := IntWalk.i64_in _ (by omega)
      clear hH1 hH2
      go_enter Try.func79, Try.ntmps79
      go_upto_region 3 with fail
      refine wp_region_adv 16 [] [(0, true, some 22, none), (1, true, some 23, none), (2, true, some 24, none), (3, true, some 25, none), (4, true, some 26, none), (5, true, some 27, none), (6, true, some 28, none), (7, true, some 29, none), (8, true, some 30, none), (9, true, some 31, none), (10, true, some 32, none), (12, true, some 34, none), (11, false, some 33, none), (13, false, some 35, none), (14, true, some 36, none), (15, true, some 37, none)] (by kernel_rfl) (by kernel_rfl) (by kernel_rfl) (by intro it hit; (repeat (rcases List.mem_cons.1 hit with rfl | hit; (focus (intro o ho ev w; injection ho with ho; subst ho; kernel_rfl)))); cases hit) (fun _ _ _ _ _ => ⟨fun h => h, fun h => h⟩) hst ?_
      repeat (first | (refine wpSeq_pure (v := ?_) rfl ?_ ?_; rotate_left 1; (focus (intro wq_ hSq_; (try dsimp only at hSq_); go_simp; (try with_reducible rfl); done)); (try simp only [Act.put, List.setIfInBounds_toArray, List.set_cons_zero, List.set_cons_succ])) | (refine wpSeq_pureG (v := ?_) rfl rfl ?_ ?_; rotate_left 1; (focus (intro wq_ hSq_; (try dsimp only at hSq_); go_simp; (try with_reducible rfl); done)); (try simp only [Act.put, List.setIfInBounds_toArray, List.set_cons_zero, List.set_cons_succ])) | (refine wpSeq_off rfl rfl ?_; (try simp only [Act.put, List.setIfInBounds_toArray, List.set_cons_zero, List.set_cons_succ])) | (refine wpSeq_offU rfl ?_; (try simp only [Act.put, List.setIfInBounds_toArray, List.set_cons_zero, List.set_cons_succ])))
      first | refine wpSeq_call rfl (fun u1 g1 s1 K hK => ?_) | refine wpSeq_callG rfl rfl (fun u1 g1 s1 K hK => ?_)
      go_simp
      refine (rheight_any B Q l' u1 (HL.out.below s1)).mono ?_
      rintro e y1 ⟨z1, rfl, rfl, b1⟩
      rw [HH1.out]
      (try go_wp2_with fail)
      refine hK.out _ _ b1 ?_
      clear hK K
      (try simp only [Act.put, List.setIfInBounds_toArray, List.set_cons_zero, List.set_cons_succ])
      repeat (first | (refine wpSeq_pure (v := ?_) rfl ?_ ?_; rotate_left 1; (focus (intro wq_ hSq_; (try dsimp only at hSq_); go_simp; (try with_reducible rfl); done)); (try simp only [Act.put, List.setIfInBounds_toArray, List.set_cons_zero, List.set_cons_succ])) | (refine wpSeq_pureG (v := ?_) rfl rfl ?_ ?_; rotate_left 1; (focus (intro wq_ hSq_; (try dsimp only at hSq_); go_simp; (try with_reducible rfl); done)); (try simp only [Act.put, List.setIfInBounds_toArray, List.set_cons_zero, List.set_cons_succ])) | (refine wpSeq_off rfl rfl ?_; (try simp only [Act.put, List.setIfInBounds_toArray, List.set_cons_zero, List.set_cons_succ])) | (refine wpSeq_offU rfl ?_; (try simp only [Act.put, List.setIfInBounds_toArray, List.set_cons_zero, List.set_cons_succ])))
      first | refine wpSeq_call rfl (fun u2 g2 s2 K hK => ?_) | refine wpSeq_callG rfl rfl (fun u2 g2 s2 K hK => ?_)
      go_simp
      refine (rheight_any B Q r' u2 (HR.out.below s2)).mono ?_
      rintro e y2 ⟨z2, rfl, rfl, b2⟩
      rw [HH2.out]
      (try go_wp2_with fail)
      refine hK.out _ _ b2 ?_
      clear hK K
      (try simp only [Act.put, List.setIfInBounds_toArray, List.set_cons_zero, List.set_cons_succ])
      repeat (first | (refine wpSeq_pure (v := ?_) rfl ?_ ?_; rotate_left 1; (focus (intro wq_ hSq_; (try dsimp only at hSq_); go_simp; (try with_reducible rfl); done)); (try simp only [Act.put, List.setIfInBounds_toArray, List.set_cons_zero, List.set_cons_succ])) | (refine wpSeq_pureG (v := ?_) rfl rfl ?_ ?_; rotate_left 1; (focus (intro wq_ hSq_; (try dsimp only at hSq_); go_simp; (try with_reducible rfl); done)); (try simp only [Act.put, List.setIfInBounds_toArray, List.set_cons_zero, List.set_cons_succ])) | (refine wpSeq_off rfl rfl ?_; (try simp only [Act.put, List.setIfInBounds_toArray, List.set_cons_zero, List.set_cons_succ])) | (refine wpSeq_offU rfl ?_; (try simp only [Act.put, List.setIfInBounds_toArray, List.set_cons_zero, List.set_cons_succ])))
      intro wz gz sz_
      (try simp only [endJ, List.drop_succ_cons, List.drop_zero])
      have hfz := HF.out wz.heap.size (Ext.size sz_)
      have hxa : Ext wz (wz.alloc (.cells #[.string k, .string v, .pointer l'.ad, .pointer r'.ad, .int .i64 (1 + (H2 : Int)), .int .i64 0] TNO)) := Ext.allocR _ _
      have HZ := Lib.hid (show TrR B Q (.node k v l'.er r'.er) (.pointer (some ⟨wz.heap.size, 0, none⟩)) (wz.alloc (.cells #[.string k, .string v, .pointer l'.ad, .pointer r'.ad, .int .i64 (1 + (H2 : Int)), .int .i64 0] TNO)) from
        ⟨.node wz.heap.size k v l' r', rfl, ⟨by rw [HM.out, hfz.1]; exact Blk.new_ _ _ rfl, hfz.2, (HL.out.below sz_).below hxa, (HR.out.below sz_).below hxa⟩, rfl⟩)
      have XZ := Lib.hid (bt sz_ hxa)
      clear kc hst gz sz_ hfz hxa
      go_wp2
      go_returns
      exact ⟨_, rfl, HZ.out, XZ.out⟩
    · have hle1 : (H2 : Int) ≤ (H1 : Int) := by omega
      have hle2 : ¬ (H1 : Int) < (H2 : Int) := by omega
      have HM := Lib.hid (show ((1 + max l'.er.ht r'.er.ht : Nat) : Int) = 1 + (H1 : Int) by rw [hH1, hH2]; omega)
      have hM1 : IntKind.i64.wrap (1 + (H1 : Int)) = 1 + (H1 : Int) := IntWalk.i64_in _ (by omega)
      clear hH1 hH2
      go_enter Try.func79, Try.ntmps79
      go_upto_region 3 with fail
      refine wp_region_adv 16 [] [(0, true, some 22, none), (1, true, some 23, none), (2, true, some 24, none), (3, true, some 25, none), (4, true, some 26, none), (5, true, some 27, none), (6, true, some 28, none), (7, true, some 29, none), (8, true, some 30, none), (9, true, some 31, none), (10, true, some 32, none), (12, true, some 34, none), (11, false, some 33, none), (13, false, some 35, none), (14, true, some 36, none), (15, true, some 37, none)] (by kernel_rfl) (by kernel_rfl) (by kernel_rfl) (by intro it hit; (repeat (rcases List.mem_cons.1 hit with rfl | hit; (focus (intro o ho ev w; injection ho with ho; subst ho; kernel_rfl)))); cases hit) (fun _ _ _ _ _ => ⟨fun h => h, fun h => h⟩) hst ?_
      repeat (first | (refine wpSeq_pure (v := ?_) rfl ?_ ?_; rotate_left 1; (focus (intro wq_ hSq_; (try dsimp only at hSq_); go_simp; (try with_reducible rfl); done)); (try simp only [Act.put, List.setIfInBounds_toArray, List.set_cons_zero, List.set_cons_succ])) | (refine wpSeq_pureG (v := ?_) rfl rfl ?_ ?_; rotate_left 1; (focus (intro wq_ hSq_; (try dsimp only at hSq_); go_simp; (try with_reducible rfl); done)); (try simp only [Act.put, List.setIfInBounds_toArray, List.set_cons_zero, List.set_cons_succ])) | (refine wpSeq_off rfl rfl ?_; (try simp only [Act.put, List.setIfInBounds_toArray, List.set_cons_zero, List.set_cons_succ])) | (refine wpSeq_offU rfl ?_; (try simp only [Act.put, List.setIfInBounds_toArray, List.set_cons_zero, List.set_cons_succ])))
      first | refine wpSeq_call rfl (fun u1 g1 s1 K hK => ?_) | refine wpSeq_callG rfl rfl (fun u1 g1 s1 K hK => ?_)
      go_simp
      refine (rheight_any B Q l' u1 (HL.out.below s1)).mono ?_
      rintro e y1 ⟨z1, rfl, rfl, b1⟩
      rw [HH1.out]
      (try go_wp2_with fail)
      refine hK.out _ _ b1 ?_
      clear hK K
      (try simp only [Act.put, List.setIfInBounds_toArray, List.set_cons_zero, List.set_cons_succ])
      repeat (first | (refine wpSeq_pure (v := ?_) rfl ?_ ?_; rotate_left 1; (focus (intro wq_ hSq_; (try dsimp only at hSq_); go_simp; (try with_reducible rfl); done)); (try simp only [Act.put, List.setIfInBounds_toArray, List.set_cons_zero, List.set_cons_succ])) | (refine wpSeq_pureG (v := ?_) rfl rfl ?_ ?_; rotate_left 1; (focus (intro wq_ hSq_; (try dsimp only at hSq_); go_simp; (try with_reducible rfl); done)); (try simp only [Act.put, List.setIfInBounds_toArray, List.set_cons_zero, List.set_cons_succ])) | (refine wpSeq_off rfl rfl ?_; (try simp only [Act.put, List.setIfInBounds_toArray, List.set_cons_zero, List.set_cons_succ])) | (refine wpSeq_offU rfl ?_; (try simp only [Act.put, List.setIfInBounds_toArray, List.set_cons_zero, List.set_cons_succ])))
      first | refine wpSeq_call rfl (fun u2 g2 s2 K hK => ?_) | refine wpSeq_callG rfl rfl (fun u2 g2 s2 K hK => ?_)
      go_simp
      refine (rheight_any B Q r' u2 (HR.out.below s2)).mono ?_
      rintro e y2 ⟨z2, rfl, rfl, b2⟩
      rw [HH2.out]
      (try go_wp2_with fail)
      refine hK.out _ _ b2 ?_
      clear hK K
      (try simp only [Act.put, List.setIfInBounds_toArray, List.set_cons_zero, List.set_cons_succ])
      repeat (first | (refine wpSeq_pure (v := ?_) rfl ?_ ?_; rotate_left 1; (focus (intro wq_ hSq_; (try dsimp only at hSq_); go_simp; (try with_reducible rfl); done)); (try simp only [Act.put, List.setIfInBounds_toArray, List.set_cons_zero, List.set_cons_succ])) | (refine wpSeq_pureG (v := ?_) rfl rfl ?_ ?_; rotate_left 1; (focus (intro wq_ hSq_; (try dsimp only at hSq_); go_simp; (try with_reducible rfl); done)); (try simp only [Act.put, List.setIfInBounds_toArray, List.set_cons_zero, List.set_cons_succ])) | (refine wpSeq_off rfl rfl ?_; (try simp only [Act.put, List.setIfInBounds_toArray, List.set_cons_zero, List.set_cons_succ])) | (refine wpSeq_offU rfl ?_; (try simp only [Act.put, List.setIfInBounds_toArray, List.set_cons_zero, List.set_cons_succ])))
      intro wz gz sz_
      (try simp only [endJ, List.drop_succ_cons, List.drop_zero])
      have hfz := HF.out wz.heap.size (Ext.size sz_)
      have hxa : Ext wz (wz.alloc (.cells #[.string k, .string v, .pointer l'.ad, .pointer r'.ad, .int .i64 (1 + (H1 : Int)), .int .i64 0] TNO)) := Ext.allocR _ _
      have HZ := Lib.hid (show TrR B Q (.node k v l'.er r'.er) (.pointer (some ⟨wz.heap.size, 0, none⟩)) (wz.alloc (.cells #[.string k, .string v, .pointer l'.ad, .pointer r'.ad, .int .i64 (1 + (H1 : Int)), .int .i64 0] TNO)) from
        ⟨.node wz.heap.size k v l' r', rfl, ⟨by rw [HM.out, hfz.1]; exact Blk.new_ _ _ rfl, hfz.2, (HL.out.below sz_).below hxa, (HR.out.below sz_).below hxa⟩, rfl⟩)
      have XZ := Lib.hid (bt sz_ hxa)
      clear kc hst gz sz_ hfz hxa
      go_wp2
      go_returns
      exact ⟨_, rfl, HZ.out, XZ.out⟩
end Go.Proofs.Tb
/- Contract of balanced. -/
namespace Go.Proofs.Tb
open Go.RowKit
attribute [local go_sem] cell_set_same

theorem MT.ad_node (g : Nat) (k v : Str) (l r : MT) : (MT.node g k v l r).ad = some ⟨g, 0, none⟩ := rfl
theorem TrW.ht_ne {t : MT} (h : 0 < t.er.ht) : ∃ g k v l r, t = .node g k v l r := by
  cases t with
  | nil => exact absurd h (by simp [MT.er, Tr.ht])
  | node g k v l r => exact ⟨g, k, v, l, r, rfl⟩
set_option maxHeartbeats 6400000 in
set_option maxRecDepth 100000 in
theorem rbalanced_any (B : Nat → Nat) (Q : Nat → Prop) (g : Nat) (k v : Str) (l r : MT) (w : World) (h : TrW w B Q (.node g k v l r)) (hf : Frs w B Q) (hs : l.er.size + r.er.size ≤ 100000000) :
    Calls Try.prog 78 #[.pointer (some ⟨g, 0, none⟩)] w (Ret (TrR B Q (Tr.bal k v l.er r.er)) w) := by
  have HH := Lib.hid h
  have HF := Lib.hid hf
  have hb1 := l.er.ht_size
  have hb2 := r.er.ht_size
  have kc := fun w' (hh : Ext w w') => (HH.out.1.below hh).cells
  simp only [cellsAre, Nat.zero_add, Nat.reduceAdd, and_true] at kc
  have hst : Ext w w.drew := Ext.drew _
  obtain ⟨H1, hH1⟩ : ∃ H, l.er.ht = H := ⟨_, rfl⟩
  obtain ⟨H2, hH2⟩ : ∃ H, r.er.ht = H := ⟨_, rfl⟩
  rw [hH1] at hb1
  rw [hH2] at hb2
  have HH1 := Lib.hid hH1
  have HH2 := Lib.hid hH2
  have wd : IntKind.i64.wrap ((H1 : Int) - (H2 : Int)) = (H1 : Int) - (H2 : Int) := IntWalk.i64_in _ (by omega)
  clear h hf hH1 hH2
  go_enter Try.func78, Try.ntmps78
  go_upto_region 1 with fail
  refine wp_region_adv 9 [] [(0, true, some 8, none), (1, true, some 9, none), (2, true, some 10, none), (3, true, some 11, none), (5, true, some 13, none), (6, true, some 14, none), (7, true, some 15, none), (8, true, some 16, none), (4, false, some 12, none)] (by kernel_rfl) (by kernel_rfl) (by kernel_rfl) (by intro it hit; (repeat (rcases List.mem_cons.1 hit with rfl | hit; (focus (intro o ho ev w; injection ho with ho; subst ho; kernel_rfl)))); cases hit) (fun _ _ _ _ _ => ⟨fun h => h, fun h => h⟩) hst ?_
  repeat (first | (refine wpSeq_pure (v := ?_) rfl ?_ ?_; rotate_left 1; (focus (intro wq_ hSq_; (try dsimp only at hSq_); go_simp; (try with_reducible rfl); done)); (try simp only [Act.put, List.setIfInBounds_toArray, List.set_cons_zero, List.set_cons_succ])) | (refine wpSeq_pureG (v := ?_) rfl rfl ?_ ?_; rotate_left 1; (focus (intro wq_ hSq_; (try dsimp only at hSq_); go_simp; (try with_reducible rfl); done)); (try simp only [Act.put, List.setIfInBounds_toArray, List.set_cons_zero, List.set_cons_succ])) | (refine wpSeq_off rfl rfl ?_; (try simp only [Act.put, List.setIfInBounds_toArray, List.set_cons_zero, List.set_cons_succ])) | (refine wpSeq_offU rfl ?_; (try simp only [Act.put, List.setIfInBounds_toArray, List.set_cons_zero, List.set_cons_succ])))
  first | refine wpSeq_call rfl (fun u1 g1 s1 K hK => ?_) | refine wpSeq_callG rfl rfl (fun u1 g1 s1 K hK => ?_)
  go_simp
  refine (rheight_any B Q l u1 (HH.out.2.2.1.below s1)).mono ?_
  rintro e y1 ⟨z1, rfl, rfl, b1⟩
  rw [HH1.out]
  (try go_wp2_with fail)
  refine hK.out _ _ b1 ?_
  clear hK K
  (try simp only [Act.put, List.setIfInBounds_toArray, List.set_cons_zero, List.set_cons_succ])
  repeat (first | (refine wpSeq_pure (v := ?_) rfl ?_ ?_; rotate_left 1; (focus (intro wq_ hSq_; (try dsimp only at hSq_); go_simp; (try with_reducible rfl); done)); (try simp only [Act.put, List.setIfInBounds_toArray, List.set_cons_zero, List.set_cons_succ])) | (refine wpSeq_pureG (v := ?_) rfl rfl ?_ ?_; rotate_left 1; (focus (intro wq_ hSq_; (try dsimp only at hSq_); go_simp; (try with_reducible rfl); done)); (try simp only [Act.put, List.setIfInBounds_toArray, List.set_cons_zero, List.set_cons_succ])) | (refine wpSeq_off rfl rfl ?_; (try simp only [Act.put, List.setIfInBounds_toArray, List.set_cons_zero, List.set_cons_succ])) | (refine wpSeq_offU rfl ?_; (try simp only [Act.put, List.setIfInBounds_toArray, List.set_cons_zero, List.set_cons_succ])))
  intro w1 g1' s1'
  (try simp only [endJ, List.drop_succ_cons, List.drop_zero])
  go_wp2_with fail
  refine (rheight_any B Q r w1 (HH.out.2.2.2.below s1')).mono ?_
  rintro e w2 ⟨z2, rfl, rfl, b2⟩
  rw [HH2.out]
  have X2 := Lib.hid (bt s1' b2)
  have N2 := Lib.hid (HH.out.below (bt s1' b2))
  clear s1 g1 b1 s1' g1' b2 kc hst
  have k2 := fun w' (hh : Ext w2 w') => (N2.out.1.below hh).cells
  simp only [cellsAre, Nat.zero_add, Nat.reduceAdd, and_true] at k2
  have c2 := k2 w2 (Ext.refl _)
  by_cases hd1 : H2 + 1 < H1
  · have pd : (1 : Int) < (H1 : Int) - (H2 : Int) := by omega
    obtain ⟨gl, lk, lv, ll, lr, rfl⟩ := TrW.ht_ne (t := l) (by rw [HH1.out]; omega)
    have hsl : ll.er.size + lr.er.size + 1 + r.er.size ≤ 100000000 := hs
    have kl := fun w' (hh : Ext w2 w') => (N2.out.2.2.1.1.below hh).cells
    simp only [cellsAre, Nat.zero_add, Nat.reduceAdd, and_true] at kl
    simp only [MT.ad_node] at k2 c2
    have cl := kl w2 (Ext.refl _)
    have hst2 : Ext w2 w2.drew := Ext.drew _
    have hb3 := ll.er.ht_size
    have hb4 := lr.er.ht_size
    obtain ⟨H3, hH3⟩ : ∃ H, ll.er.ht = H := ⟨_, rfl⟩
    obtain ⟨H4, hH4⟩ : ∃ H, lr.er.ht = H := ⟨_, rfl⟩
    rw [hH3] at hb3
    rw [hH4] at hb4
    have HH3 := Lib.hid hH3
    have HH4 := Lib.hid hH4
    clear hH3 hH4
    go_upto_region 4 with fail
    refine wp_region_adv 9 [] [(0, true, some 26, none), (1, true, some 27, none), (2, true, some 28, none), (3, true, some 29, none), (5, true, some 31, none), (6, true, some 32, none), (7, true, some 33, none), (8, true, some 34, none), (4, false, some 30, none)] (by kernel_rfl) (by kernel_rfl) (by kernel_rfl) (by intro it hit; (repeat (rcases List.mem_cons.1 hit with rfl | hit; (focus (intro o ho ev w; injection ho with ho; subst ho; kernel_rfl)))); cases hit) (fun _ _ _ _ _ => ⟨fun h => h, fun h => h⟩) hst2 ?_
    repeat (first | (refine wpSeq_pure (v := ?_) rfl ?_ ?_; rotate_left 1; (focus (intro wq_ hSq_; (try dsimp only at hSq_); go_simp; (try with_reducible rfl); done)); (try simp only [Act.put, List.setIfInBounds_toArray, List.set_cons_zero, List.set_cons_succ])) | (refine wpSeq_pureG (v := ?_) rfl rfl ?_ ?_; rotate_left 1; (focus (intro wq_ hSq_; (try dsimp only at hSq_); go_simp; (try with_reducible rfl); done)); (try simp only [Act.put, List.setIfInBounds_toArray, List.set_cons_zero, List.set_cons_succ])) | (refine wpSeq_off rfl rfl ?_; (try simp only [Act.put, List.setIfInBounds_toArray, List.set_cons_zero, List.set_cons_succ])) | (refine wpSeq_offU rfl ?_; (try simp only [Act.put, List.setIfInBounds_toArray, List.set_cons_zero, List.set_cons_succ])))
    first | refine wpSeq_call rfl (fun u1 g1 s1 K hK => ?_) | refine wpSeq_callG rfl rfl (fun u1 g1 s1 K hK => ?_)
    go_simp
    refine (rheight_any B Q ll u1 (N2.out.2.2.1.2.2.1.below s1)).mono ?_
    rintro e y1 ⟨z1, rfl, rfl, b1⟩
    rw [HH3.out]
    (try go_wp2_with fail)
    refine hK.out _ _ b1 ?_
    clear hK K
    (try simp only [Act.put, List.setIfInBounds_toArray, List.set_cons_zero, List.set_cons_succ])
    repeat (first | (refine wpSeq_pure (v := ?_) rfl ?_ ?_; rotate_left 1; (focus (intro wq_ hSq_; (try dsimp only at hSq_); go_simp; (try with_reducible rfl); done)); (try simp only [Act.put, List.setIfInBounds_toArray, List.set_cons_zero, List.set_cons_succ])) | (refine wpSeq_pureG (v := ?_) rfl rfl ?_ ?_; rotate_left 1; (focus (intro wq_ hSq_; (try dsimp only at hSq_); go_simp; (try with_reducible rfl); done)); (try simp only [Act.put, List.setIfInBounds_toArray, List.set_cons_zero, List.set_cons_succ])) | (refine wpSeq_off rfl rfl ?_; (try simp only [Act.put, List.setIfInBounds_toArray, List.set_cons_zero, List.set_cons_succ])) | (refine wpSeq_offU rfl ?_; (try simp only [Act.put, List.setIfInBounds_toArray, List.set_cons_zero, List.set_cons_succ])))
    intro w3 g3 s3
    (try simp only [endJ, List.drop_succ_cons, List.drop_zero])
    go_wp2_with fail
    refine (rheight_any B Q lr w3 (N2.out.2.2.1.2.2.2.below s3)).mono ?_
    rintro e w4 ⟨z4, rfl, rfl, b4⟩
    rw [HH4.out]
    have X4 := Lib.hid (bt s3 b4)
    clear s1 g1 b1 s3 g3 b4 hst2 k2 kl c2 cl
    have N4 := Lib.hid (N2.out.below X4.out)
    have k4 := fun w' (hh : Ext w4 w') => (N4.out.1.below hh).cells
    have kl := fun w' (hh : Ext w4 w') => (N4.out.2.2.1.1.below hh).cells
    simp only [cellsAre, Nat.zero_add, Nat.reduceAdd, and_true] at k4 kl
    simp only [MT.ad_node] at k4
    have c4 := k4 w4 (Ext.refl _)
    have cl := kl w4 (Ext.refl _)
    have hst4 : Ext w4 w4.drew := Ext.drew _
    by_cases h34 : H3 < H4
    · have p34 : (H3 : Int) < (H4 : Int) := by omega
      obtain ⟨gm, mk, mv, ml, mr, rfl⟩ := TrW.ht_ne (t := lr) (by rw [HH4.out]; omega)
      have hsm : ll.er.size + (ml.er.size + mr.er.size + 1) + 1 + r.er.size ≤ 100000000 := hsl
      have km := fun w' (hh : Ext w4 w') => (N4.out.2.2.1.2.2.2.1.below hh).cells
      simp only [cellsAre, Nat.zero_add, Nat.reduceAdd, and_true] at km
      simp only [MT.ad_node] at kl cl
      have cm := km w4 (Ext.refl _)
      have HB := Lib.hid (show Tr.bal k v (MT.node gl lk lv ll (.node gm mk mv ml mr)).er r.er = .node mk mv (.node lk lv ll.er ml.er) (.node k v mr.er r.er) by
        unfold Tr.bal
        rw [HH1.out, HH2.out, if_pos hd1]
        simp only [MT.er]
        rw [HH3.out, show (Tr.node mk mv ml.er mr.er).ht = H4 from HH4.out, if_pos h34])
      go_upto_region 6 with fail
      refine wp_region_adv 21 [] [(0, true, some 41, none), (1, true, some 42, none), (2, true, some 43, none), (3, true, some 44, none), (4, true, some 45, none), (5, true, some 46, none), (6, true, some 47, none), (7, true, some 48, none), (8, true, some 49, none), (9, true, some 50, none), (11, true, some 52, none), (12, true, some 53, none), (13, true, some 54, none), (14, true, some 55, none), (15, true, some 56, none), (16, true, some 57, none), (17, true, some 58, none), (18, true, some 59, none), (19, true, some 60, none), (10, false, some 51, none), (20, false, some 61, none)] (by kernel_rfl) (by kernel_rfl) (by kernel_rfl) (by intro it hit; (repeat (rcases List.mem_cons.1 hit with rfl | hit; (focus (intro o ho ev w; injection ho with ho; subst ho; kernel_rfl)))); cases hit) (fun _ _ _ _ _ => ⟨fun h => h, fun h => h⟩) hst4 ?_
      repeat (first | (refine wpSeq_pure (v := ?_) rfl ?_ ?_; rotate_left 1; (focus (intro wq_ hSq_; (try dsimp only at hSq_); go_simp; (try with_reducible rfl); done)); (try simp only [Act.put, List.setIfInBounds_toArray, List.set_cons_zero, List.set_cons_succ])) | (refine wpSeq_pureG (v := ?_) rfl rfl ?_ ?_; rotate_left 1; (focus (intro wq_ hSq_; (try dsimp only at hSq_); go_simp; (try with_reducible rfl); done)); (try simp only [Act.put, List.setIfInBounds_toArray, List.set_cons_zero, List.set_cons_succ])) | (refine wpSeq_off rfl rfl ?_; (try simp only [Act.put, List.setIfInBounds_toArray, List.set_cons_zero, List.set_cons_succ])) | (refine wpSeq_offU rfl ?_; (try simp only [Act.put, List.setIfInBounds_toArray, List.set_cons_zero, List.set_cons_succ])))
      first | refine wpSeq_call rfl (fun u1 g1 s1 K hK => ?_) | refine wpSeq_callG rfl rfl (fun u1 g1 s1 K hK => ?_)
      go_simp
      refine (rjoin_any B Q gl lk lv ll (.node gm mk mv ml mr) ll ml u1 (N4.out.2.2.1.below s1) (N4.out.2.2.1.2.2.1.below s1) (N4.out.2.2.1.2.2.2.2.2.1.below s1) (HF.out.ext (bt X2.out (bt X4.out s1))) (by omega)).mono ?_
      rintro e y1 ⟨z1, rfl, ⟨t1, rfl, ht1, he1⟩, b1⟩
      (try go_wp2_with fail)
      refine hK.out _ _ b1 ?_
      clear hK K
      (try simp only [Act.put, List.setIfInBounds_toArray, List.set_cons_zero, List.set_cons_succ])
      repeat (first | (refine wpSeq_pure (v := ?_) rfl ?_ ?_; rotate_left 1; (focus (intro wq_ hSq_; (try dsimp only at hSq_); go_simp; (try with_reducible rfl); done)); (try simp only [Act.put, List.setIfInBounds_toArray, List.set_cons_zero, List.set_cons_succ])) | (refine wpSeq_pureG (v := ?_) rfl rfl ?_ ?_; rotate_left 1; (focus (intro wq_ hSq_; (try dsimp only at hSq_); go_simp; (try with_reducible rfl); done)); (try simp only [Act.put, List.setIfInBounds_toArray, List.set_cons_zero, List.set_cons_succ])) | (refine wpSeq_off rfl rfl ?_; (try simp only [Act.put, List.setIfInBounds_toArray, List.set_cons_zero, List.set_cons_succ])) | (refine wpSeq_offU rfl ?_; (try simp only [Act.put, List.setIfInBounds_toArray, List.set_cons_zero, List.set_cons_succ])))
      first | refine wpSeq_call rfl (fun u2 g2 s2 K hK => ?_) | refine wpSeq_callG rfl rfl (fun u2 g2 s2 K hK => ?_)
      go_simp
      refine (rjoin_any B Q g k v _ r mr r u2 (N4.out.below s2) (N4.out.2.2.1.2.2.2.2.2.2.below s2) (N4.out.2.2.2.below s2) (HF.out.ext (bt X2.out (bt X4.out s2))) (by omega)).mono ?_
      rintro e y2 ⟨z2, rfl, ⟨t2, rfl, ht2, he2⟩, b2⟩
      (try go_wp2_with fail)
      refine hK.out _ _ b2 ?_
      clear hK K
      (try simp only [Act.put, List.setIfInBounds_toArray, List.set_cons_zero, List.set_cons_succ])
      repeat (first | (refine wpSeq_pure (v := ?_) rfl ?_ ?_; rotate_left 1; (focus (intro wq_ hSq_; (try dsimp only at hSq_); go_simp; (try with_reducible rfl); done)); (try simp only [Act.put, List.setIfInBounds_toArray, List.set_cons_zero, List.set_cons_succ])) | (refine wpSeq_pureG (v := ?_) rfl rfl ?_ ?_; rotate_left 1; (focus (intro wq_ hSq_; (try dsimp only at hSq_); go_simp; (try with_reducible rfl); done)); (try simp only [Act.put, List.setIfInBounds_toArray, List.set_cons_zero, List.set_cons_succ])) | (refine wpSeq_off rfl rfl ?_; (try simp only [Act.put, List.setIfInBounds_toArray, List.set_cons_zero, List.set_cons_succ])) | (refine wpSeq_offU rfl ?_; (try simp only [Act.put, List.setIfInBounds_toArray, List.set_cons_zero, List.set_cons_succ])))
      intro wz gz sz_
      (try simp only [endJ, List.drop_succ_cons, List.drop_zero])
      have HE := Lib.hid (show t1.er.size + t2.er.size ≤ 1000000000 by rw [he1, he2]; simp only [Tr.size]; omega)
      have T1 := Lib.hid (ht1.below (bt g2 (bt b2 gz)))
      have T2 := Lib.hid (ht2.below gz)
      have HQ := Lib.hid (show Tr.node mk mv t1.er t2.er = .node mk mv (.node lk lv ll.er ml.er) (.node k v mr.er r.er) by rw [he1, he2])
      have XZ := Lib.hid (bt X2.out (bt X4.out sz_))
      have NM := Lib.hid (N4.out.2.2.1.2.2.2.below sz_)
      clear k4 kl km c4 cl cm hst4 s1 s2 sz_ g1 g2 gz b1 b2 ht1 ht2 he1 he2
      go_wp2_with fail
      refine (rjoin_any B Q gm mk mv ml mr t1 t2 wz NM.out T1.out T2.out (HF.out.ext XZ.out) HE.out).mono ?_
      rintro e y3 ⟨z3, rfl, hz3, b3⟩
      rw [HQ.out] at hz3
      have HZ := Lib.hid (And.intro hz3 (bt XZ.out b3))
      obtain ⟨t3, hz3', _⟩ := hz3
      subst hz3'
      clear b3
      go_wp2
      go_returns
      exact ⟨_, rfl, by rw [HB.out]; exact HZ.out.1, HZ.out.2⟩
    · have p34 : ¬ (H3 : Int) < (H4 : Int) := by omega
      have HB := Lib.hid (show Tr.bal k v (MT.node gl lk lv ll lr).er r.er = .node lk lv ll.er (.node k v lr.er r.er) by
        unfold Tr.bal
        rw [HH1.out, HH2.out, if_pos hd1]
        simp only [MT.er]
        rw [HH3.out, HH4.out, if_neg h34])
      go_upto_region 7 with fail
      refine wp_region_adv 15 [] [(0, true, some 63, none), (1, true, some 64, none), (2, true, some 65, none), (3, true, some 66, none), (4, true, some 67, none), (5, true, some 68, none), (6, true, some 69, none), (7, true, some 70, none), (8, true, some 71, none), (9, true, some 72, none), (10, true, some 73, none), (11, true, some 74, none), (12, true, some 75, none), (13, true, some 76, none), (14, false, some 77, none)] (by kernel_rfl) (by kernel_rfl) (by kernel_rfl) (by intro it hit; (repeat (rcases List.mem_cons.1 hit with rfl | hit; (focus (intro o ho ev w; injection ho with ho; subst ho; kernel_rfl)))); cases hit) (fun _ _ _ _ _ => ⟨fun h => h, fun h => h⟩) hst4 ?_
      repeat (first | (refine wpSeq_pure (v := ?_) rfl ?_ ?_; rotate_left 1; (focus (intro wq_ hSq_; (try dsimp only at hSq_); go_simp; (try with_reducible rfl); done)); (try simp only [Act.put, List.setIfInBounds_toArray, List.set_cons_zero, List.set_cons_succ])) | (refine wpSeq_pureG (v := ?_) rfl rfl ?_ ?_; rotate_left 1; (focus (intro wq_ hSq_; (try dsimp only at hSq_); go_simp; (try with_reducible rfl); done)); (try simp only [Act.put, List.setIfInBounds_toArray, List.set_cons_zero, List.set_cons_succ])) | (refine wpSeq_off rfl rfl ?_; (try simp only [Act.put, List.setIfInBounds_toArray, List.set_cons_zero, List.set_cons_succ])) | (refine wpSeq_offU rfl ?_; (try simp only [Act.put, List.setIfInBounds_toArray, List.set_cons_zero, List.set_cons_succ])))
      first | refine wpSeq_call rfl (fun u1 g1 s1 K hK => ?_) | refine wpSeq_callG rfl rfl (fun u1 g1 s1 K hK => ?_)
      go_simp
      refine (rjoin_any B Q g k v _ r lr r u1 (N4.out.below s1) (N4.out.2.2.1.2.2.2.below s1) (N4.out.2.2.2.below s1) (HF.out.ext (bt X2.out (bt X4.out s1))) (by omega)).mono ?_
      rintro e y1 ⟨z1, rfl, ⟨t1, rfl, ht1, he1⟩, b1⟩
      (try go_wp2_with fail)
      refine hK.out _ _ b1 ?_
      clear hK K
      (try simp only [Act.put, List.setIfInBounds_toArray, List.set_cons_zero, List.set_cons_succ])
      repeat (first | (refine wpSeq_pure (v := ?_) rfl ?_ ?_; rotate_left 1; (focus (intro wq_ hSq_; (try dsimp only at hSq_); go_simp; (try with_reducible rfl); done)); (try simp only [Act.put, List.setIfInBounds_toArray, List.set_cons_zero, List.set_cons_succ])) | (refine wpSeq_pureG (v := ?_) rfl rfl ?_ ?_; rotate_left 1; (focus (intro wq_ hSq_; (try dsimp only at hSq_); go_simp; (try with_reducible rfl); done)); (try simp only [Act.put, List.setIfInBounds_toArray, List.set_cons_zero, List.set_cons_succ])) | (refine wpSeq_off rfl rfl ?_; (try simp only [Act.put, List.setIfInBounds_toArray, List.set_cons_zero, List.set_cons_succ])) | (refine wpSeq_offU rfl ?_; (try simp only [Act.put, List.setIfInBounds_toArray, List.set_cons_zero, List.set_cons_succ])))
      intro wz gz sz_
      (try simp only [endJ, List.drop_succ_cons, List.drop_zero])
      have HE := Lib.hid (show ll.er.size + t1.er.size ≤ 1000000000 by rw [he1]; simp only [Tr.size]; omega)
      have T1 := Lib.hid (ht1.below gz)
      have HQ := Lib.hid (show Tr.node lk lv ll.er t1.er = .node lk lv ll.er (.node k v lr.er r.er) by rw [he1])
      have XZ := Lib.hid (bt X2.out (bt X4.out sz_))
      have NM := Lib.hid (N4.out.2.2.1.below sz_)
      clear k4 kl c4 cl hst4 s1 sz_ g1 gz b1 ht1 he1
      go_wp2_with fail
      refine (rjoin_any B Q gl lk lv ll lr ll t1 wz NM.out NM.out.2.2.1 T1.out (HF.out.ext XZ.out) HE.out).mono ?_
      rintro e y3 ⟨z3, rfl, hz3, b3⟩
      rw [HQ.out] at hz3
      have HZ := Lib.hid (And.intro hz3 (bt XZ.out b3))
      obtain ⟨t3, hz3', _⟩ := hz3
      subst hz3'
      clear b3
      go_wp2
      go_returns
      exact ⟨_, rfl, by rw [HB.out]; exact HZ.out.1, HZ.out.2⟩
  · have pd : ¬ (1 : Int) < (H1 : Int) - (H2 : Int) := by omega
    by_cases hd2 : H1 + 1 < H2
    · have pd2 : (H1 : Int) - (H2 : Int) < -1 := by omega
      obtain ⟨gr, rk, rv, rl, rr, rfl⟩ := TrW.ht_ne (t := r) (by rw [HH2.out]; omega)
      have hsl : l.er.size + (rl.er.size + rr.er.size + 1) ≤ 100000000 := hs
      have kl := fun w' (hh : Ext w2 w') => (N2.out.2.2.2.1.below hh).cells
      simp only [cellsAre, Nat.zero_add, Nat.reduceAdd, and_true] at kl
      simp only [MT.ad_node] at k2 c2
      have cl := kl w2 (Ext.refl _)
      have hst2 : Ext w2 w2.drew := Ext.drew _
      have hb3 := rr.er.ht_size
      have hb4 := rl.er.ht_size
      obtain ⟨H3, hH3⟩ : ∃ H, rr.er.ht = H := ⟨_, rfl⟩
      obtain ⟨H4, hH4⟩ : ∃ H, rl.er.ht = H := ⟨_, rfl⟩
      rw [hH3] at hb3
      rw [hH4] at hb4
      have HH3 := Lib.hid hH3
      have HH4 := Lib.hid hH4
      clear hH3 hH4
      go_upto_region 10 with fail
      refine wp_region_adv 9 [] [(0, true, some 86, none), (1, true, some 87, none), (2, true, some 88, none), (3, true, some 89, none), (5, true, some 91, none), (6, true, some 92, none), (7, true, some 93, none), (8, true, some 94, none), (4, false, some 90, none)] (by kernel_rfl) (by kernel_rfl) (by kernel_rfl) (by intro it hit; (repeat (rcases List.mem_cons.1 hit with rfl | hit; (focus (intro o ho ev w; injection ho with ho; subst ho; kernel_rfl)))); cases hit) (fun _ _ _ _ _ => ⟨fun h => h, fun h => h⟩) hst2 ?_
      repeat (first | (refine wpSeq_pure (v := ?_) rfl ?_ ?_; rotate_left 1; (focus (intro wq_ hSq_; (try dsimp only at hSq_); go_simp; (try with_reducible rfl); done)); (try simp only [Act.put, List.setIfInBounds_toArray, List.set_cons_zero, List.set_cons_succ])) | (refine wpSeq_pureG (v := ?_) rfl rfl ?_ ?_; rotate_left 1; (focus (intro wq_ hSq_; (try dsimp only at hSq_); go_simp; (try with_reducible rfl); done)); (try simp only [Act.put, List.setIfInBounds_toArray, List.set_cons_zero, List.set_cons_succ])) | (refine wpSeq_off rfl rfl ?_; (try simp only [Act.put, List.setIfInBounds_toArray, List.set_cons_zero, List.set_cons_succ])) | (refine wpSeq_offU rfl ?_; (try simp only [Act.put, List.setIfInBounds_toArray, List.set_cons_zero, List.set_cons_succ])))
      first | refine wpSeq_call rfl (fun u1 g1 s1 K hK => ?_) | refine wpSeq_callG rfl rfl (fun u1 g1 s1 K hK => ?_)
      go_simp
      refine (rheight_any B Q rr u1 (N2.out.2.2.2.2.2.2.below s1)).mono ?_
      rintro e y1 ⟨z1, rfl, rfl, b1⟩
      rw [HH3.out]
      (try go_wp2_with fail)
      refine hK.out _ _ b1 ?_
      clear hK K
      (try simp only [Act.put, List.setIfInBounds_toArray, List.set_cons_zero, List.set_cons_succ])
      repeat (first | (refine wpSeq_pure (v := ?_) rfl ?_ ?_; rotate_left 1; (focus (intro wq_ hSq_; (try dsimp only at hSq_); go_simp; (try with_reducible rfl); done)); (try simp only [Act.put, List.setIfInBounds_toArray, List.set_cons_zero, List.set_cons_succ])) | (refine wpSeq_pureG (v := ?_) rfl rfl ?_ ?_; rotate_left 1; (focus (intro wq_ hSq_; (try dsimp only at hSq_); go_simp; (try with_reducible rfl); done)); (try simp only [Act.put, List.setIfInBounds_toArray, List.set_cons_zero, List.set_cons_succ])) | (refine wpSeq_off rfl rfl ?_; (try simp only [Act.put, List.setIfInBounds_toArray, List.set_cons_zero, List.set_cons_succ])) | (refine wpSeq_offU rfl ?_; (try simp only [Act.put, List.setIfInBounds_toArray, List.set_cons_zero, List.set_cons_succ])))
      intro w3 g3 s3
      (try simp only [endJ, List.drop_succ_cons, List.drop_zero])
      go_wp2_with fail
      refine (rheight_any B Q rl w3 (N2.out.2.2.2.2.2.1.below s3)).mono ?_
      rintro e w4 ⟨z4, rfl, rfl, b4⟩
      rw [HH4.out]
      have X4 := Lib.hid (bt s3 b4)
      clear s1 g1 b1 s3 g3 b4 hst2 k2 kl c2 cl
      have N4 := Lib.hid (N2.out.below X4.out)
      have k4 := fun w' (hh : Ext w4 w') => (N4.out.1.below hh).cells
      have kl := fun w' (hh : Ext w4 w') => (N4.out.2.2.2.1.below hh).cells
      simp only [cellsAre, Nat.zero_add, Nat.reduceAdd, and_true] at k4 kl
      simp only [MT.ad_node] at k4
      have c4 := k4 w4 (Ext.refl _)
      have cl := kl w4 (Ext.refl _)
      have hst4 : Ext w4 w4.drew := Ext.drew _
      by_cases h34 : H3 < H4
      · have p34 : (H3 : Int) < (H4 : Int) := by omega
        obtain ⟨gm, mk, mv, ml, mr, rfl⟩ := TrW.ht_ne (t := rl) (by rw [HH4.out]; omega)
        have hsm : l.er.size + ((ml.er.size + mr.er.size + 1) + rr.er.size + 1) ≤ 100000000 := hsl
        have km := fun w' (hh : Ext w4 w') => (N4.out.2.2.2.2.2.1.1.below hh).cells
        simp only [cellsAre, Nat.zero_add, Nat.reduceAdd, and_true] at km
        simp only [MT.ad_node] at kl cl
        have cm := km w4 (Ext.refl _)
        have HB := Lib.hid (show Tr.bal k v l.er (MT.node gr rk rv (.node gm mk mv ml mr) rr).er = .node mk mv (.node k v l.er ml.er) (.node rk rv mr.er rr.er) by
          unfold Tr.bal
          rw [HH1.out, HH2.out, if_neg hd1, if_pos hd2]
          simp only [MT.er]
          rw [HH3.out, show (Tr.node mk mv ml.er mr.er).ht = H4 from HH4.out, if_pos h34])
        go_upto_region 12 with fail
        refine wp_region_adv 21 [] [(0, true, some 101, none), (1, true, some 102, none), (2, true, some 103, none), (3, true, some 104, none), (4, true, some 105, none), (5, true, some 106, none), (6, true, some 107, none), (7, true, some 108, none), (8, true, some 109, none), (9, true, some 110, none), (11, true, some 112, none), (12, true, some 113, none), (13, true, some 114, none), (14, true, some 115, none), (15, true, some 116, none), (16, true, some 117, none), (17, true, some 118, none), (18, true, some 119, none), (19, true, some 120, none), (10, false, some 111, none), (20, false, some 121, none)] (by kernel_rfl) (by kernel_rfl) (by kernel_rfl) (by intro it hit; (repeat (rcases List.mem_cons.1 hit with rfl | hit; (focus (intro o ho ev w; injection ho with ho; subst ho; kernel_rfl)))); cases hit) (fun _ _ _ _ _ => ⟨fun h => h, fun h => h⟩) hst4 ?_
        repeat (first | (refine wpSeq_pure (v := ?_) rfl ?_ ?_; rotate_left 1; (focus (intro wq_ hSq_; (try dsimp only at hSq_); go_simp; (try with_reducible rfl); done)); (try simp only [Act.put, List.setIfInBounds_toArray, List.set_cons_zero, List.set_cons_succ])) | (refine wpSeq_pureG (v := ?_) rfl rfl ?_ ?_; rotate_left 1; (focus (intro wq_ hSq_; (try dsimp only at hSq_); go_simp; (try with_reducible rfl); done)); (try simp only [Act.put, List.setIfInBounds_toArray, List.set_cons_zero, List.set_cons_succ])) | (refine wpSeq_off rfl rfl ?_; (try simp only [Act.put, List.setIfInBounds_toArray, List.set_cons_zero, List.set_cons_succ])) | (refine wpSeq_offU rfl ?_; (try simp only [Act.put, List.setIfInBounds_toArray, List.set_cons_zero, List.set_cons_succ])))
        first | refine wpSeq_call rfl (fun u1 g1 s1 K hK => ?_) | refine wpSeq_callG rfl rfl (fun u1 g1 s1 K hK => ?_)
        go_simp
        refine (rjoin_any B Q g k v l _ l ml u1 (N4.out.below s1) (N4.out.2.2.1.below s1) (N4.out.2.2.2.2.2.1.2.2.1.below s1) (HF.out.ext (bt X2.out (bt X4.out s1))) (by omega)).mono ?_
        rintro e y1 ⟨z1, rfl, ⟨t1, rfl, ht1, he1⟩, b1⟩
        (try go_wp2_with fail)
        refine hK.out _ _ b1 ?_
        clear hK K
        (try simp only [Act.put, List.setIfInBounds_toArray, List.set_cons_zero, List.set_cons_succ])
        repeat (first | (refine wpSeq_pure (v := ?_) rfl ?_ ?_; rotate_left 1; (focus (intro wq_ hSq_; (try dsimp only at hSq_); go_simp; (try with_reducible rfl); done)); (try simp only [Act.put, List.setIfInBounds_toArray, List.set_cons_zero, List.set_cons_succ])) | (refine wpSeq_pureG (v := ?_) rfl rfl ?_ ?_; rotate_left 1; (focus (intro wq_ hSq_; (try dsimp only at hSq_); go_simp; (try with_reducible rfl); done)); (try simp only [Act.put, List.setIfInBounds_toArray, List.set_cons_zero, List.set_cons_succ])) | (refine wpSeq_off rfl rfl ?_; (try simp only [Act.put, List.setIfInBounds_toArray, List.set_cons_zero, List.set_cons_succ])) | (refine wpSeq_offU rfl ?_; (try simp only [Act.put, List.setIfInBounds_toArray, List.set_cons_zero, List.set_cons_succ])))
        first | refine wpSeq_call rfl (fun u2 g2 s2 K hK => ?_) | refine wpSeq_callG rfl rfl (fun u2 g2 s2 K hK => ?_)
        go_simp
        refine (rjoin_any B Q gr rk rv (.node gm mk mv ml mr) rr mr rr u2 (N4.out.2.2.2.below s2) (N4.out.2.2.2.2.2.1.2.2.2.below s2) (N4.out.2.2.2.2.2.2.below s2) (HF.out.ext (bt X2.out (bt X4.out s2))) (by omega)).mono ?_
        rintro e y2 ⟨z2, rfl, ⟨t2, rfl, ht2, he2⟩, b2⟩
        (try go_wp2_with fail)
        refine hK.out _ _ b2 ?_
        clear hK K
        (try simp only [Act.put, List.setIfInBounds_toArray, List.set_cons_zero, List.set_cons_succ])
        repeat (first | (refine wpSeq_pure (v := ?_) rfl ?_ ?_; rotate_left 1; (focus (intro wq_ hSq_; (try dsimp only at hSq_); go_simp; (try with_reducible rfl); done)); (try simp only [Act.put, List.setIfInBounds_toArray, List.set_cons_zero, List.set_cons_succ])) | (refine wpSeq_pureG (v := ?_) rfl rfl ?_ ?_; rotate_left 1; (focus (intro wq_ hSq_; (try dsimp only at hSq_); go_simp; (try with_reducible rfl); done)); (try simp only [Act.put, List.setIfInBounds_toArray, List.set_cons_zero, List.set_cons_succ])) | (refine wpSeq_off rfl rfl ?_; (try simp only [Act.put, List.setIfInBounds_toArray, List.set_cons_zero, List.set_cons_succ])) | (refine wpSeq_offU rfl ?_; (try simp only [Act.put, List.setIfInBounds_toArray, List.set_cons_zero, List.set_cons_succ])))
        intro wz gz sz_
        (try simp only [endJ, List.drop_succ_cons, List.drop_zero])
        have HE := Lib.hid (show t1.er.size + t2.er.size ≤ 1000000000 by rw [he1, he2]; simp only [Tr.size]; omega)
        have T1 := Lib.hid (ht1.below (bt g2 (bt b2 gz)))
        have T2 := Lib.hid (ht2.below gz)
        have HQ := Lib.hid (show Tr.node mk mv t1.er t2.er = .node mk mv (.node k v l.er ml.er) (.node rk rv mr.er rr.er) by rw [he1, he2])
        have XZ := Lib.hid (bt X2.out (bt X4.out sz_))
        have NM := Lib.hid (N4.out.2.2.2.2.2.1.below sz_)
        clear k4 kl km c4 cl cm hst4 s1 s2 sz_ g1 g2 gz b1 b2 ht1 ht2 he1 he2
        go_wp2_with fail
        refine (rjoin_any B Q gm mk mv ml mr t1 t2 wz NM.out T1.out T2.out (HF.out.ext XZ.out) HE.out).mono ?_
        rintro e y3 ⟨z3, rfl, hz3, b3⟩
        rw [HQ.out] at hz3
        have HZ := Lib.hid (And.intro hz3 (bt XZ.out b3))
        obtain ⟨t3, hz3', _⟩ := hz3
        subst hz3'
        clear b3
        go_wp2
        go_returns
        exact ⟨_, rfl, by rw [HB.out]; exact HZ.out.1, HZ.out.2⟩
      · have p34 : ¬ (H3 : Int) < (H4 : Int) := by omega
        have HB := Lib.hid (show Tr.bal k v l.er (MT.node gr rk rv rl rr).er = .node rk rv (.node k v l.er rl.er) rr.er by
          unfold Tr.bal
          rw [HH1.out, HH2.out, if_neg hd1, if_pos hd2]
          simp only [MT.er]
          rw [HH3.out, HH4.out, if_neg h34])
        go_upto_region 13 with fail
        refine wp_region_adv 15 [] [(0, true, some 123, none), (1, true, some 124, none), (2, true, some 125, none), (3, true, some 126, none), (4, true, some 127, none), (5, true, some 128, none), (6, true, some 129, none), (7, true, some 130, none), (8, true, some 131, none), (9, true, some 132, none), (11, true, some 134, none), (12, true, some 135, none), (13, true, some 136, none), (14, true, some 137, none), (10, false, some 133, none)] (by kernel_rfl) (by kernel_rfl) (by kernel_rfl) (by intro it hit; (repeat (rcases List.mem_cons.1 hit with rfl | hit; (focus (intro o ho ev w; injection ho with ho; subst ho; kernel_rfl)))); cases hit) (fun _ _ _ _ _ => ⟨fun h => h, fun h => h⟩) hst4 ?_
        repeat (first | (refine wpSeq_pure (v := ?_) rfl ?_ ?_; rotate_left 1; (focus (intro wq_ hSq_; (try dsimp only at hSq_); go_simp; (try with_reducible rfl); done)); (try simp only [Act.put, List.setIfInBounds_toArray, List.set_cons_zero, List.set_cons_succ])) | (refine wpSeq_pureG (v := ?_) rfl rfl ?_ ?_; rotate_left 1; (focus (intro wq_ hSq_; (try dsimp only at hSq_); go_simp; (try with_reducible rfl); done)); (try simp only [Act.put, List.setIfInBounds_toArray, List.set_cons_zero, List.set_cons_succ])) | (refine wpSeq_off rfl rfl ?_; (try simp only [Act.put, List.setIfInBounds_toArray, List.set_cons_zero, List.set_cons_succ])) | (refine wpSeq_offU rfl ?_; (try simp only [Act.put, List.setIfInBounds_toArray, List.set_cons_zero, List.set_cons_succ])))
        first | refine wpSeq_call rfl (fun u1 g1 s1 K hK => ?_) | refine wpSeq_callG rfl rfl (fun u1 g1 s1 K hK => ?_)
        go_simp
        refine (rjoin_any B Q g k v l _ l rl u1 (N4.out.below s1) (N4.out.2.2.1.below s1) (N4.out.2.2.2.2.2.1.below s1) (HF.out.ext (bt X2.out (bt X4.out s1))) (by omega)).mono ?_
        rintro e y1 ⟨z1, rfl, ⟨t1, rfl, ht1, he1⟩, b1⟩
        (try go_wp2_with fail)
        refine hK.out _ _ b1 ?_
        clear hK K
        (try simp only [Act.put, List.setIfInBounds_toArray, List.set_cons_zero, List.set_cons_succ])
        repeat (first | (refine wpSeq_pure (v := ?_) rfl ?_ ?_; rotate_left 1; (focus (intro wq_ hSq_; (try dsimp only at hSq_); go_simp; (try with_reducible rfl); done)); (try simp only [Act.put, List.setIfInBounds_toArray, List.set_cons_zero, List.set_cons_succ])) | (refine wpSeq_pureG (v := ?_) rfl rfl ?_ ?_; rotate_left 1; (focus (intro wq_ hSq_; (try dsimp only at hSq_); go_simp; (try with_reducible rfl); done)); (try simp only [Act.put, List.setIfInBounds_toArray, List.set_cons_zero, List.set_cons_succ])) | (refine wpSeq_off rfl rfl ?_; (try simp only [Act.put, List.setIfInBounds_toArray, List.set_cons_zero, List.set_cons_succ])) | (refine wpSeq_offU rfl ?_; (try simp only [Act.put, List.setIfInBounds_toArray, List.set_cons_zero, List.set_cons_succ])))
        intro wz gz sz_
        (try simp only [endJ, List.drop_succ_cons, List.drop_zero])
        have HE := Lib.hid (show t1.er.size + rr.er.size ≤ 1000000000 by rw [he1]; simp only [Tr.size]; omega)
        have T1 := Lib.hid (ht1.below gz)
        have HQ := Lib.hid (show Tr.node rk rv t1.er rr.er = .node rk rv (.node k v l.er rl.er) rr.er by rw [he1])
        have XZ := Lib.hid (bt X2.out (bt X4.out sz_))
        have NM := Lib.hid (N4.out.2.2.2.below sz_)
        clear k4 kl c4 cl hst4 s1 sz_ g1 gz b1 ht1 he1
        go_wp2_with fail
        refine (rjoin_any B Q gr rk rv rl rr t1 rr wz NM.out T1.out NM.out.2.2.2 (HF.out.ext XZ.out) HE.out).mono ?_
        rintro e y3 ⟨z3, rfl, hz3, b3⟩
        rw [HQ.out] at hz3
        have HZ := Lib.hid (And.intro hz3 (bt XZ.out b3))
        obtain ⟨t3, hz3', _⟩ := hz3
        subst hz3'
        clear b3
        go_wp2
        go_returns
        exact ⟨_, rfl, by rw [HB.out]; exact HZ.out.1, HZ.out.2⟩
    · have pd2 : ¬ (H1 : Int) - (H2 : Int) < -1 := by omega
      have HB := Lib.hid (show Tr.bal k v l.er r.er = .node k v l.er r.er by
        unfold Tr.bal
        rw [HH1.out, HH2.out, if_neg hd1, if_neg hd2])
      have HE := Lib.hid (show TrR B Q (Tr.bal k v l.er r.er) (.pointer (some ⟨g, 0, none⟩)) w2 from ⟨.node g k v l r, rfl, N2.out, by rw [HB.out]; rfl⟩)
      clear k2 c2
      go_wp2
      go_returns
      exact ⟨_, rfl, HE.out, X2.out⟩
end Go.Proofs.Tb
/- Contracts of set, first, without, find. -/
namespace Go.Proofs.Tb
open Go.RowKit
attribute [local go_sem] cell_set_same binOp_string_gtr'

theorem er_node {t : MT} {k v : Str} {l r : Tr} (h : t.er = .node k v l r) : ∃ g l' r', t = .node g k v l' r' ∧ l'.er = l ∧ r'.er = r := by
  cases t with
  | nil => cases h
  | node g k' v' l' r' =>
    simp only [MT.er, Tr.node.injEq] at h
    obtain ⟨rfl, rfl, rfl, rfl⟩ := h
    exact ⟨g, l', r', rfl, rfl, rfl⟩
theorem set_node (k' v' : Str) (l r : Tr) (k v : Str) : (Tr.node k' v' l r).set_ k v = if sl k k' = true then Tr.bal k' v' (l.set_ k v) r else if sl k' k = true then Tr.bal k' v' l (r.set_ k v) else if v = v' then .node k' v' l r else .node k v l r := by rw [Tr.set_]
theorem str_beq_t {x y : Str} (h : x = y) : (x.toList == y.toList) = true := by rw [h]; simp
theorem str_beq_f {x y : Str} (h : x ≠ y) : (x.toList == y.toList) = false := by
  rw [beq_eq_false_iff_ne]
  exact fun e => h (str_ext e)
set_option maxHeartbeats 6400000 in
set_option maxRecDepth 100000 in
theorem rset_any (B : Nat → Nat) (Q : Nat → Prop) (k v : Str) : ∀ (t : MT) (w : World), TrW w B Q t → Frs w B Q → t.er.size ≤ 10000000 →
    Calls Try.prog 50 #[.pointer t.ad, .string k, .string v] w (Ret (TrR B Q (t.er.set_ k v)) w) := by
  intro t
  induction t with
  | nil =>
    intro w h hf hs
    have hfz := hf w.heap.size (Nat.le_refl _)
    have HZ := Lib.hid (show TrR B Q (Tr.set_ .nil k v) (.pointer (some ⟨w.heap.size, 0, none⟩)) (w.alloc (.cells #[.string k, .string v, .pointer none, .pointer none, .int .i64 1, .int .i64 0] TNO)) from
      ⟨.node w.heap.size k v .nil .nil, rfl, ⟨by rw [hfz.1]; exact Blk.new_ _ _ rfl, hfz.2, trivial, trivial⟩, rfl⟩)
    clear h hf hfz
    show Calls Try.prog 50 #[.pointer none, .string k, .string v] w (Ret (TrR B Q (Tr.set_ .nil k v)) w)
    go_enter Try.func50, Try.ntmps50
    go_wp2
    go_returns
    exact ⟨_, rfl, HZ.out, Ext.allocR _ _⟩
  | node g k' v' l r ihl ihr =>
    intro w h hf hs
    have HH := Lib.hid h
    have HF := Lib.hid hf
    have hs' : l.er.size + r.er.size + 1 ≤ 10000000 := hs
    have kc := fun w' (hh : Ext w w') => (HH.out.1.below hh).cells
    simp only [cellsAre, Nat.zero_add, Nat.reduceAdd, and_true] at kc
    have c0 := kc w (Ext.refl _)
    have hst : Ext w w.drew := Ext.drew _
    have HIL := Lib.hid ihl
    have HIR := Lib.hid ihr
    rw [MT.ad_node]
    clear h hf ihl ihr
    by_cases c1 : sl k k' = true
    · have d1 : Op.bytesLess k.toList k'.toList = true := c1
      have HB := Lib.hid (show (MT.node g k' v' l r).er.set_ k v = Tr.bal k' v' (l.er.set_ k v) r.er by simp only [MT.er]; rw [set_node, if_pos c1])
      have hsz := Tr.set_size l.er k v
      go_enter Try.func50, Try.ntmps50
      go_upto_region 4 with fail
      refine wp_region_adv 12 [] [(0, true, some 21, none), (1, true, some 22, none), (2, true, some 23, none), (3, true, some 24, none), (4, true, some 25, none), (5, true, some 26, none), (6, true, some 27, none), (8, true, some 29, none), (9, true, some 30, none), (10, true, some 31, none), (11, true, some 32, none), (7, false, some 28, none)] (by kernel_rfl) (by kernel_rfl) (by kernel_rfl) (by intro it hit; (repeat (rcases List.mem_cons.1 hit with rfl | hit; (focus (intro o ho ev w; injection ho with ho; subst ho; kernel_rfl)))); cases hit) (fun _ _ _ _ _ => ⟨fun h => h, fun h => h⟩) hst ?_
      repeat (first | (refine wpSeq_pure (v := ?_) rfl ?_ ?_; rotate_left 1; (focus (intro wq_ hSq_; (try dsimp only at hSq_); go_simp; (try with_reducible rfl); done)); (try simp only [Act.put, List.setIfInBounds_toArray, List.set_cons_zero, List.set_cons_succ])) | (refine wpSeq_pureG (v := ?_) rfl rfl ?_ ?_; rotate_left 1; (focus (intro wq_ hSq_; (try dsimp only at hSq_); go_simp; (try with_reducible rfl); done)); (try simp only [Act.put, List.setIfInBounds_toArray, List.set_cons_zero, List.set_cons_succ])) | (refine wpSeq_off rfl rfl ?_; (try simp only [Act.put, List.setIfInBounds_toArray, List.set_cons_zero, List.set_cons_succ])) | (refine wpSeq_offU rfl ?_; (try simp only [Act.put, List.setIfInBounds_toArray, List.set_cons_zero, List.set_cons_succ])))
      first | refine wpSeq_call rfl (fun u1 g1 s1 K hK => ?_) | refine wpSeq_callG rfl rfl (fun u1 g1 s1 K hK => ?_)
      go_simp
      refine (HIL.out u1 (HH.out.2.2.1.below s1) (HF.out.ext s1) (by omega)).mono ?_
      rintro e y1 ⟨z1, rfl, ⟨t1, rfl, ht1, he1⟩, b1⟩
      (try go_wp2_with fail)
      refine hK.out _ _ b1 ?_
      clear hK K
      (try simp only [Act.put, List.setIfInBounds_toArray, List.set_cons_zero, List.set_cons_succ])
      repeat (first | (refine wpSeq_pure (v := ?_) rfl ?_ ?_; rotate_left 1; (focus (intro wq_ hSq_; (try dsimp only at hSq_); go_simp; (try with_reducible rfl); done)); (try simp only [Act.put, List.setIfInBounds_toArray, List.set_cons_zero, List.set_cons_succ])) | (refine wpSeq_pureG (v := ?_) rfl rfl ?_ ?_; rotate_left 1; (focus (intro wq_ hSq_; (try dsimp only at hSq_); go_simp; (try with_reducible rfl); done)); (try simp only [Act.put, List.setIfInBounds_toArray, List.set_cons_zero, List.set_cons_succ])) | (refine wpSeq_off rfl rfl ?_; (try simp only [Act.put, List.setIfInBounds_toArray, List.set_cons_zero, List.set_cons_succ])) | (refine wpSeq_offU rfl ?_; (try simp only [Act.put, List.setIfInBounds_toArray, List.set_cons_zero, List.set_cons_succ])))
      intro w1 g1' s1'
      (try simp only [endJ, List.drop_succ_cons, List.drop_zero])
      have T1 := Lib.hid (ht1.below g1')
      have N1 := Lib.hid (HH.out.below s1')
      have F1 := Lib.hid (HF.out.ext s1')
      have X1 := Lib.hid s1'
      have HE := Lib.hid he1
      have hz1 : t1.er.size + r.er.size ≤ 100000000 := by rw [he1]; omega
      clear kc c0 hst s1 g1 b1 g1' s1' ht1 he1
      go_wp2_with fail
      refine (rjoin_any B Q g k' v' l r t1 r w1 N1.out T1.out N1.out.2.2.2 F1.out (by omega)).mono ?_
      rintro e w2 ⟨z2, rfl, ⟨t2, rfl, ht2, he2⟩, b2⟩
      obtain ⟨g2, l2, r2, rfl, hl2, hr2⟩ := er_node he2
      have T2 := Lib.hid ht2
      have X2 := Lib.hid (bt X1.out b2)
      have F2 := Lib.hid (F1.out.ext b2)
      have HQ := Lib.hid (show Tr.bal k' v' l2.er r2.er = (MT.node g k' v' l r).er.set_ k v by rw [HB.out, hl2, hr2, HE.out])
      have hsz2 : l2.er.size + r2.er.size ≤ 100000000 := by rw [hl2, hr2]; exact hz1
      rw [MT.ad_node]
      clear ht2 he2 b2 hl2 hr2
      go_wp2_with fail
      refine (rbalanced_any B Q g2 k' v' l2 r2 w2 T2.out F2.out hsz2).mono ?_
      rintro e w3 ⟨z3, rfl, hz3, b3⟩
      rw [HQ.out] at hz3
      have HZ := Lib.hid (And.intro hz3 (bt X2.out b3))
      obtain ⟨t3, hz3', _⟩ := hz3
      subst hz3'
      clear b3
      go_wp2
      go_returns
      exact ⟨_, rfl, HZ.out.1, HZ.out.2⟩
    · have d1 : Op.bytesLess k.toList k'.toList = false := by simpa [sl] using c1
      by_cases c2 : sl k' k = true
      · have d2 : Op.bytesLess k'.toList k.toList = true := c2
        have HB := Lib.hid (show (MT.node g k' v' l r).er.set_ k v = Tr.bal k' v' l.er (r.er.set_ k v) by simp only [MT.er]; rw [set_node, if_neg c1, if_pos c2])
        have hsz := Tr.set_size r.er k v
        go_enter Try.func50, Try.ntmps50
        go_upto_region 6 with fail
        refine wp_region_adv 12 [] [(0, true, some 42, none), (1, true, some 43, none), (2, true, some 44, none), (3, true, some 45, none), (4, true, some 46, none), (5, true, some 47, none), (6, true, some 48, none), (7, true, some 49, none), (8, true, some 50, none), (9, true, some 51, none), (10, true, some 52, none), (11, false, some 53, none)] (by kernel_rfl) (by kernel_rfl) (by kernel_rfl) (by intro it hit; (repeat (rcases List.mem_cons.1 hit with rfl | hit; (focus (intro o ho ev w; injection ho with ho; subst ho; kernel_rfl)))); cases hit) (fun _ _ _ _ _ => ⟨fun h => h, fun h => h⟩) hst ?_
        repeat (first | (refine wpSeq_pure (v := ?_) rfl ?_ ?_; rotate_left 1; (focus (intro wq_ hSq_; (try dsimp only at hSq_); go_simp; (try with_reducible rfl); done)); (try simp only [Act.put, List.setIfInBounds_toArray, List.set_cons_zero, List.set_cons_succ])) | (refine wpSeq_pureG (v := ?_) rfl rfl ?_ ?_; rotate_left 1; (focus (intro wq_ hSq_; (try dsimp only at hSq_); go_simp; (try with_reducible rfl); done)); (try simp only [Act.put, List.setIfInBounds_toArray, List.set_cons_zero, List.set_cons_succ])) | (refine wpSeq_off rfl rfl ?_; (try simp only [Act.put, List.setIfInBounds_toArray, List.set_cons_zero, List.set_cons_succ])) | (refine wpSeq_offU rfl ?_; (try simp only [Act.put, List.setIfInBounds_toArray, List.set_cons_zero, List.set_cons_succ])))
        first | refine wpSeq_call rfl (fun u1 g1 s1 K hK => ?_) | refine wpSeq_callG rfl rfl (fun u1 g1 s1 K hK => ?_)
        go_simp
        refine (HIR.out u1 (HH.out.2.2.2.below s1) (HF.out.ext s1) (by omega)).mono ?_
        rintro e y1 ⟨z1, rfl, ⟨t1, rfl, ht1, he1⟩, b1⟩
        (try go_wp2_with fail)
        refine hK.out _ _ b1 ?_
        clear hK K
        (try simp only [Act.put, List.setIfInBounds_toArray, List.set_cons_zero, List.set_cons_succ])
        repeat (first | (refine wpSeq_pure (v := ?_) rfl ?_ ?_; rotate_left 1; (focus (intro wq_ hSq_; (try dsimp only at hSq_); go_simp; (try with_reducible rfl); done)); (try simp only [Act.put, List.setIfInBounds_toArray, List.set_cons_zero, List.set_cons_succ])) | (refine wpSeq_pureG (v := ?_) rfl rfl ?_ ?_; rotate_left 1; (focus (intro wq_ hSq_; (try dsimp only at hSq_); go_simp; (try with_reducible rfl); done)); (try simp only [Act.put, List.setIfInBounds_toArray, List.set_cons_zero, List.set_cons_succ])) | (refine wpSeq_off rfl rfl ?_; (try simp only [Act.put, List.setIfInBounds_toArray, List.set_cons_zero, List.set_cons_succ])) | (refine wpSeq_offU rfl ?_; (try simp only [Act.put, List.setIfInBounds_toArray, List.set_cons_zero, List.set_cons_succ])))
        intro w1 g1' s1'
        (try simp only [endJ, List.drop_succ_cons, List.drop_zero])
        have T1 := Lib.hid (ht1.below g1')
        have N1 := Lib.hid (HH.out.below s1')
        have F1 := Lib.hid (HF.out.ext s1')
        have X1 := Lib.hid s1'
        have HE := Lib.hid he1
        have hz1 : l.er.size + t1.er.size ≤ 100000000 := by rw [he1]; omega
        clear kc c0 hst s1 g1 b1 g1' s1' ht1 he1
        go_wp2_with fail
        refine (rjoin_any B Q g k' v' l r l t1 w1 N1.out N1.out.2.2.1 T1.out F1.out (by omega)).mono ?_
        rintro e w2 ⟨z2, rfl, ⟨t2, rfl, ht2, he2⟩, b2⟩
        obtain ⟨g2, l2, r2, rfl, hl2, hr2⟩ := er_node he2
        have T2 := Lib.hid ht2
        have X2 := Lib.hid (bt X1.out b2)
        have F2 := Lib.hid (F1.out.ext b2)
        have HQ := Lib.hid (show Tr.bal k' v' l2.er r2.er = (MT.node g k' v' l r).er.set_ k v by rw [HB.out, hl2, hr2, HE.out])
        have hsz2 : l2.er.size + r2.er.size ≤ 100000000 := by rw [hl2, hr2]; exact hz1
        rw [MT.ad_node]
        clear ht2 he2 b2 hl2 hr2
        go_wp2_with fail
        refine (rbalanced_any B Q g2 k' v' l2 r2 w2 T2.out F2.out hsz2).mono ?_
        rintro e w3 ⟨z3, rfl, hz3, b3⟩
        rw [HQ.out] at hz3
        have HZ := Lib.hid (And.intro hz3 (bt X2.out b3))
        obtain ⟨t3, hz3', _⟩ := hz3
        subst hz3'
        clear b3
        go_wp2
        go_returns
        exact ⟨_, rfl, HZ.out.1, HZ.out.2⟩
      · have ek : k = k' := sl_eq (by simpa using c1) (by simpa using c2)
        subst ek
        have d2 : Op.bytesLess k.toList k.toList = false := sl_irrefl k
        by_cases hv : v = v'
        · subst hv
          have d3 : (v.toList == v.toList) = true := by simp
          have HE := Lib.hid (show TrR B Q ((MT.node g k v l r).er.set_ k v) (.pointer (some ⟨g, 0, none⟩)) w from ⟨.node g k v l r, rfl, HH.out, by simp only [MT.er]; rw [set_node, if_neg c1, if_neg c1, if_pos rfl]⟩)
          clear kc hst
          go_enter Try.func50, Try.ntmps50
          go_wp2
          go_returns
          exact ⟨_, rfl, HE.out, Below.refl _ _⟩
        · have d3 : (v.toList == v'.toList) = false := str_beq_f hv
          go_enter Try.func50, Try.ntmps50
          go_upto_region 9 with fail
          refine wp_region_adv 14 [] [(0, true, some 64, none), (1, true, some 65, none), (2, true, some 66, none), (3, true, some 67, none), (4, true, some 68, none), (5, true, some 69, none), (6, true, some 70, none), (7, true, some 71, none), (8, true, some 72, none), (9, true, some 73, none), (10, true, some 74, none), (11, true, some 75, none), (12, true, some 76, none), (13, true, some 77, none)] (by kernel_rfl) (by kernel_rfl) (by kernel_rfl) (by intro it hit; (repeat (rcases List.mem_cons.1 hit with rfl | hit; (focus (intro o ho ev w; injection ho with ho; subst ho; kernel_rfl)))); cases hit) (fun _ _ _ _ _ => ⟨fun h => h, fun h => h⟩) hst ?_
          repeat (first | (refine wpSeq_pure (v := ?_) rfl ?_ ?_; rotate_left 1; (focus (intro wq_ hSq_; (try dsimp only at hSq_); go_simp; (try with_reducible rfl); done)); (try simp only [Act.put, List.setIfInBounds_toArray, List.set_cons_zero, List.set_cons_succ])) | (refine wpSeq_pureG (v := ?_) rfl rfl ?_ ?_; rotate_left 1; (focus (intro wq_ hSq_; (try dsimp only at hSq_); go_simp; (try with_reducible rfl); done)); (try simp only [Act.put, List.setIfInBounds_toArray, List.set_cons_zero, List.set_cons_succ])) | (refine wpSeq_off rfl rfl ?_; (try simp only [Act.put, List.setIfInBounds_toArray, List.set_cons_zero, List.set_cons_succ])) | (refine wpSeq_offU rfl ?_; (try simp only [Act.put, List.setIfInBounds_toArray, List.set_cons_zero, List.set_cons_succ])))
          intro wz gz sz_
          (try simp only [endJ, List.drop_succ_cons, List.drop_zero])
          have hfz := HF.out wz.heap.size (Ext.size sz_)
          have hxa : Ext wz (wz.alloc (.cells #[.string k, .string v, .pointer l.ad, .pointer r.ad, .int .i64 ((1 + max l.er.ht r.er.ht : Nat) : Int), .int .i64 0] TNO)) := Ext.allocR _ _
          have HZ := Lib.hid (show TrR B Q ((MT.node g k v' l r).er.set_ k v) (.pointer (some ⟨wz.heap.size, 0, none⟩)) (wz.alloc (.cells #[.string k, .string v, .pointer l.ad, .pointer r.ad, .int .i64 ((1 + max l.er.ht r.er.ht : Nat) : Int), .int .i64 0] TNO)) from
            ⟨.node wz.heap.size k v l r, rfl, ⟨by rw [hfz.1]; exact Blk.new_ _ _ rfl, hfz.2, (HH.out.2.2.1.below sz_).below hxa, (HH.out.2.2.2.below sz_).below hxa⟩, by simp only [MT.er]; rw [set_node, if_neg c1, if_neg c1, if_neg hv]⟩)
          have XZ := Lib.hid (bt sz_ hxa)
          clear kc c0 hst gz sz_ hfz hxa
          go_wp2
          go_returns
          exact ⟨_, rfl, HZ.out, XZ.out⟩
end Go.Proofs.Tb
/- Contracts of first, without, find. -/
namespace Go.Proofs.Tb
open Go.RowKit
attribute [local go_sem] cell_set_same binOp_string_gtr'

open Classical in
/-- How many nodes a pointer leads to. -/
noncomputable def szP (w : World) (p : Value) : Nat := if h : ∃ t : MT, (∃ B Q, TrW w B Q t) ∧ p = .pointer t.ad then (Classical.choose h).er.size else 0
theorem szP_eq {w : World} {B : Nat → Nat} {Q : Nat → Prop} {t : MT} (h : TrW w B Q t) : szP w (.pointer t.ad) = t.er.size := by
  unfold szP
  have hx : ∃ t' : MT, (∃ B Q, TrW w B Q t') ∧ Value.pointer t.ad = .pointer t'.ad := ⟨t, ⟨B, Q, h⟩, rfl⟩
  rw [dif_pos hx]
  obtain ⟨⟨B', Q', h1⟩, h2⟩ := Classical.choose_spec hx
  rw [← h.inj h1 (by injection h2)]
set_option maxHeartbeats 6400000 in
set_option maxRecDepth 100000 in
theorem rfirst_any (B : Nat → Nat) (Q : Nat → Prop) (g : Nat) (k v : Str) (l r : MT) (w : World) (h : TrW w B Q (.node g k v l r)) :
    Calls Try.prog 80 #[.pointer (some ⟨g, 0, none⟩)] w (Ret (fun z w' => ∃ g' k' v' l' r', z = .pointer (some ⟨g', 0, none⟩) ∧ TrW w' B Q (.node g' k' v' l' r') ∧ (MT.node g k v l r).er.first = (k', v')) w) := by
  have HH := Lib.hid h
  clear h
  go_enter Try.func80, Try.ntmps80
  go_wp2
  go_loopw [0] (fun p wr => ∃ g' k' v' l' r', p = .pointer (some ⟨g', 0, none⟩) ∧ TrW wr B Q (.node g' k' v' l' r') ∧ (MT.node g k v l r).er.first = (MT.node g' k' v' l' r').er.first ∧ Ext w wr) (fun p wr => szP wr p)
  case atStart => exact ⟨g, k, v, l, r, rfl, HH.out, rfl, Ext.refl _⟩
  case round =>
    obtain ⟨g', k', v', l', r', rfl, ht, hfi, hx⟩ := hrel
    have HT := Lib.hid ht
    have HFI := Lib.hid hfi
    have HX := Lib.hid hx
    have c := ht.1.cells
    simp only [cellsAre, Nat.zero_add, Nat.reduceAdd, and_true] at c
    have HM := Lib.hid (szP_eq ht)
    rw [MT.ad_node] at HM
    cases l' with
    | nil =>
      have c' := c.2.2.1
      simp only [show MT.nil.ad = none from rfl] at c c'
      have HE := Lib.hid (show (MT.node g k v l r).er.first = (k', v') by rw [hfi]; rfl)
      clear ht hfi hx
      go_wp2
      go_returns
      exact ⟨_, rfl, ⟨_, _, _, _, _, rfl, HT.out, HE.out⟩, HX.out⟩
    | node gl lk lv ll lr =>
      simp only [MT.ad_node] at c
      have HM2 := Lib.hid (szP_eq ht.2.2.1)
      rw [MT.ad_node] at HM2
      clear ht hfi hx
      go_wp2
      go_roundw
      case rel => exact ⟨gl, lk, lv, ll, lr, rfl, HT.out.2.2.1, HFI.out, HX.out⟩
      case measure =>
        rw [HM.out, HM2.out]
        simp only [MT.er, Tr.size]
        omega
/-- What find returns. -/
def FndR (B : Nat → Nat) (Q : Nat → Prop) (t : Tr) (k : Str) (z : Value) (w' : World) : Prop :=
  (z = .pointer none ∧ ∀ p ∈ t.prs, p.1 ≠ k) ∨ ∃ g x l r, z = .pointer (some ⟨g, 0, none⟩) ∧ TrW w' B Q (.node g k x l r) ∧ (k, x) ∈ t.prs
set_option maxHeartbeats 6400000 in
set_option maxRecDepth 100000 in
theorem rfind_any (B : Nat → Nat) (Q : Nat → Prop) (k : Str) (t : MT) (w : World) (h : TrW w B Q t) (hs : Srtd t.er.prs) :
    Calls Try.prog 77 #[.pointer t.ad, .string k] w (Ret (FndR B Q t.er k) w) := by
  have HH := Lib.hid h
  have HS := Lib.hid hs
  clear h hs
  go_enter Try.func77, Try.ntmps77
  go_wp2
  go_loopw [0] (fun p wr => ∃ t' : MT, p = .pointer t'.ad ∧ TrW wr B Q t' ∧ Srtd t'.er.prs ∧ (∀ x, (k, x) ∈ t.er.prs ↔ (k, x) ∈ t'.er.prs) ∧ Ext w wr) (fun p wr => szP wr p)
  case atStart => exact ⟨t, rfl, HH.out, HS.out, fun _ => Iff.rfl, Ext.refl _⟩
  case round =>
    obtain ⟨t', rfl, ht, hsr, hiff, hx⟩ := hrel
    have HX := Lib.hid hx
    have HIF := Lib.hid hiff
    cases t' with
    | nil =>
      have HE := Lib.hid (show FndR B Q t.er k (.pointer none) wr from Or.inl ⟨rfl, fun p hp e => by
        obtain ⟨p1, p2⟩ := p
        simp only at e
        subst e
        have := (hiff p2).1 hp
        cases this⟩)
      rw [show MT.nil.ad = none from rfl]
      clear ht hsr hiff hx
      go_wp2
      go_returns
      exact ⟨_, rfl, HE.out, HX.out⟩
    | node g k' v' l r =>
      have HT := Lib.hid ht
      have c := ht.1.cells
      simp only [cellsAre, Nat.zero_add, Nat.reduceAdd, and_true] at c
      have HM := Lib.hid (szP_eq ht)
      have HML := Lib.hid (szP_eq ht.2.2.1)
      have HMR := Lib.hid (szP_eq ht.2.2.2)
      have hsr' : Srtd (l.er.prs ++ (k', v') :: r.er.prs) := hsr
      rw [srtd_mid] at hsr'
      have HSR := Lib.hid hsr'
      have hpe : (MT.node g k' v' l r).er.prs = l.er.prs ++ (k', v') :: r.er.prs := rfl
      rw [hpe] at HIF
      rw [MT.ad_node] at HM ⊢
      clear ht hsr hsr' hiff hx hpe
      by_cases c1 : sl k k' = true
      · have d1 : Op.bytesLess k.toList k'.toList = true := c1
        have d2 : (k'.toList == k.toList) = false := str_beq_f (Ne.symm (sl_ne c1))
        have HI2 := Lib.hid (show ∀ x, (k, x) ∈ t.er.prs ↔ (k, x) ∈ l.er.prs from fun x => by
          rw [HIF.out x, List.mem_append, List.mem_cons]
          constructor
          · rintro (h | h | h)
            · exact h
            · injection h with h1 _; exact absurd h1 (sl_ne c1)
            · exact absurd rfl (sl_ne (sl_trans c1 (HSR.out.2.2.2 _ h)))
          · exact Or.inl)
        go_wp2
        go_roundw
        case rel => exact ⟨l, rfl, HT.out.2.2.1, HSR.out.1, HI2.out, HX.out⟩
        case measure =>
          rw [HM.out, HML.out]
          simp only [MT.er, Tr.size]
          omega
      · have d1 : Op.bytesLess k.toList k'.toList = false := by simpa [sl] using c1
        by_cases c2 : sl k' k = true
        · have d2 : (k'.toList == k.toList) = false := str_beq_f (sl_ne c2)
          have HI2 := Lib.hid (show ∀ x, (k, x) ∈ t.er.prs ↔ (k, x) ∈ r.er.prs from fun x => by
            rw [HIF.out x, List.mem_append, List.mem_cons]
            constructor
            · rintro (h | h | h)
              · exact absurd rfl (sl_ne (sl_trans (HSR.out.2.2.1 _ h) c2))
              · injection h with h1 _; exact absurd h1.symm (sl_ne c2)
              · exact h
            · exact fun h => Or.inr (Or.inr h))
          go_wp2
          go_roundw
          case rel => exact ⟨r, rfl, HT.out.2.2.2, HSR.out.2.1, HI2.out, HX.out⟩
          case measure =>
            rw [HM.out, HMR.out]
            simp only [MT.er, Tr.size]
            omega
        · have ek : k = k' := sl_eq (by simpa using c1) (by simpa using c2)
          subst ek
          have d2 : (k.toList == k.toList) = true := by simp
          have HE := Lib.hid (show FndR B Q t.er k (.pointer (some ⟨g, 0, none⟩)) wr from Or.inr ⟨g, v', l, r, rfl, HT.out, (HIF.out v').2 (List.mem_append_right _ (List.mem_cons_self ..))⟩)
          go_wp2
          go_returns
          exact ⟨_, rfl, HE.out, HX.out⟩
theorem without_node (k' v' : Str) (l r : Tr) (k : Str) : (Tr.node k' v' l r).without k = if sl k k' = true then Tr.bal k' v' (l.without k) r else if sl k' k = true then Tr.bal k' v' l (r.without k) else
    match l, r with
    | .nil, r => r
    | l, .nil => l
    | l, .node rk rv rl rr => Tr.bal (Tr.node rk rv rl rr).first.1 (Tr.node rk rv rl rr).first.2 l ((Tr.node rk rv rl rr).without (Tr.node rk rv rl rr).first.1) := Tr.without.eq_def (.node k' v' l r) k
theorem without_size : ∀ (t : Tr) (k : Str), (t.without k).size ≤ t.size
  | .nil, k => by unfold Tr.without; exact Nat.le_refl _
  | .node k' v' l r, k => by
    rw [without_node]
    have h1 := without_size l k
    have h2 := without_size r k
    split
    · rw [Tr.bal_size]; simp only [Tr.size]; omega
    · split
      · rw [Tr.bal_size]; simp only [Tr.size]; omega
      · cases l with
        | nil => simp only [Tr.size]; omega
        | node lk lv ll lr =>
          cases r with
          | nil => simp only [Tr.size]; omega
          | node rk rv rl rr =>
            have h3 := without_size (.node rk rv rl rr) (Tr.node rk rv rl rr).first.1
            simp only
            rw [Tr.bal_size]
            simp only [Tr.size] at h3 ⊢
            omega
end Go.Proofs.Tb
/- Contract of without. -/
namespace Go.Proofs.Tb
open Go.RowKit
attribute [local go_sem] cell_set_same binOp_string_gtr'

set_option maxHeartbeats 6400000 in
set_option maxRecDepth 100000 in
theorem rwithout_any (B : Nat → Nat) (Q : Nat → Prop) : ∀ (t : MT) (k : Str) (w : World), TrW w B Q t → Frs w B Q → t.er.size ≤ 10000000 →
    Calls Try.prog 49 #[.pointer t.ad, .string k] w (Ret (TrR B Q (t.er.without k)) w) := by
  intro t
  induction t with
  | nil =>
    intro k w h hf hs
    have HZ := Lib.hid (show TrR B Q (Tr.without .nil k) (.pointer none) w from ⟨.nil, rfl, trivial, by unfold Tr.without; rfl⟩)
    clear h hf
    show Calls Try.prog 49 #[.pointer none, .string k] w (Ret (TrR B Q (Tr.without .nil k)) w)
    go_enter Try.func49, Try.ntmps49
    go_wp2
    go_returns
    exact ⟨_, rfl, HZ.out, Below.refl _ _⟩
  | node g k' v' l r ihl ihr =>
    intro k w h hf hs
    have HH := Lib.hid h
    have HF := Lib.hid hf
    have hs' : l.er.size + r.er.size + 1 ≤ 10000000 := hs
    have kc := fun w' (hh : Ext w w') => (HH.out.1.below hh).cells
    simp only [cellsAre, Nat.zero_add, Nat.reduceAdd, and_true] at kc
    have c0 := kc w (Ext.refl _)
    have hst : Ext w w.drew := Ext.drew _
    have HIL := Lib.hid ihl
    have HIR := Lib.hid ihr
    rw [MT.ad_node]
    clear h hf ihl ihr
    by_cases c1 : sl k k' = true
    · have d1 : Op.bytesLess k.toList k'.toList = true := c1
      have HB := Lib.hid (show (MT.node g k' v' l r).er.without k = Tr.bal k' v' (l.er.without k) r.er by simp only [MT.er]; rw [without_node, if_pos c1])
      have hsz := without_size l.er k
      go_enter Try.func49, Try.ntmps49
      go_upto_region 4 with fail
      refine wp_region_adv 11 [] [(0, true, some 17, none), (1, true, some 18, none), (2, true, some 19, none), (3, true, some 20, none), (4, true, some 21, none), (5, true, some 22, none), (7, true, some 24, none), (8, true, some 25, none), (9, true, some 26, none), (10, true, some 27, none), (6, false, some 23, none)] (by kernel_rfl) (by kernel_rfl) (by kernel_rfl) (by intro it hit; (repeat (rcases List.mem_cons.1 hit with rfl | hit; (focus (intro o ho ev w; injection ho with ho; subst ho; kernel_rfl)))); cases hit) (fun _ _ _ _ _ => ⟨fun h => h, fun h => h⟩) hst ?_
      repeat (first | (refine wpSeq_pure (v := ?_) rfl ?_ ?_; rotate_left 1; (focus (intro wq_ hSq_; (try dsimp only at hSq_); go_simp; (try with_reducible rfl); done)); (try simp only [Act.put, List.setIfInBounds_toArray, List.set_cons_zero, List.set_cons_succ])) | (refine wpSeq_pureG (v := ?_) rfl rfl ?_ ?_; rotate_left 1; (focus (intro wq_ hSq_; (try dsimp only at hSq_); go_simp; (try with_reducible rfl); done)); (try simp only [Act.put, List.setIfInBounds_toArray, List.set_cons_zero, List.set_cons_succ])) | (refine wpSeq_off rfl rfl ?_; (try simp only [Act.put, List.setIfInBounds_toArray, List.set_cons_zero, List.set_cons_succ])) | (refine wpSeq_offU rfl ?_; (try simp only [Act.put, List.setIfInBounds_toArray, List.set_cons_zero, List.set_cons_succ])))
      first | refine wpSeq_call rfl (fun u1 g1 s1 K hK => ?_) | refine wpSeq_callG rfl rfl (fun u1 g1 s1 K hK => ?_)
      go_simp
      refine (HIL.out k u1 (HH.out.2.2.1.below s1) (HF.out.ext s1) (by omega)).mono ?_
      rintro e y1 ⟨z1, rfl, ⟨t1, rfl, ht1, he1⟩, b1⟩
      (try go_wp2_with fail)
      refine hK.out _ _ b1 ?_
      clear hK K
      (try simp only [Act.put, List.setIfInBounds_toArray, List.set_cons_zero, List.set_cons_succ])
      repeat (first | (refine wpSeq_pure (v := ?_) rfl ?_ ?_; rotate_left 1; (focus (intro wq_ hSq_; (try dsimp only at hSq_); go_simp; (try with_reducible rfl); done)); (try simp only [Act.put, List.setIfInBounds_toArray, List.set_cons_zero, List.set_cons_succ])) | (refine wpSeq_pureG (v := ?_) rfl rfl ?_ ?_; rotate_left 1; (focus (intro wq_ hSq_; (try dsimp only at hSq_); go_simp; (try with_reducible rfl); done)); (try simp only [Act.put, List.setIfInBounds_toArray, List.set_cons_zero, List.set_cons_succ])) | (refine wpSeq_off rfl rfl ?_; (try simp only [Act.put, List.setIfInBounds_toArray, List.set_cons_zero, List.set_cons_succ])) | (refine wpSeq_offU rfl ?_; (try simp only [Act.put, List.setIfInBounds_toArray, List.set_cons_zero, List.set_cons_succ])))
      intro w1 g1' s1'
      (try simp only [endJ, List.drop_succ_cons, List.drop_zero])
      have T1 := Lib.hid (ht1.below g1')
      have N1 := Lib.hid (HH.out.below s1')
      have F1 := Lib.hid (HF.out.ext s1')
      have X1 := Lib.hid s1'
      have HE := Lib.hid he1
      have hz1 : t1.er.size + r.er.size ≤ 100000000 := by rw [he1]; omega
      clear kc c0 hst s1 g1 b1 g1' s1' ht1 he1
      go_wp2_with fail
      refine (rjoin_any B Q g k' v' l r t1 r w1 N1.out T1.out N1.out.2.2.2 F1.out (by omega)).mono ?_
      rintro e w2 ⟨z2, rfl, ⟨t2, rfl, ht2, he2⟩, b2⟩
      obtain ⟨g2, l2, r2, rfl, hl2, hr2⟩ := er_node he2
      have T2 := Lib.hid ht2
      have X2 := Lib.hid (bt X1.out b2)
      have F2 := Lib.hid (F1.out.ext b2)
      have HQ := Lib.hid (show Tr.bal k' v' l2.er r2.er = (MT.node g k' v' l r).er.without k by rw [HB.out, hl2, hr2, HE.out])
      have hsz2 : l2.er.size + r2.er.size ≤ 100000000 := by rw [hl2, hr2]; exact hz1
      rw [MT.ad_node]
      clear ht2 he2 b2 hl2 hr2
      go_wp2_with fail
      refine (rbalanced_any B Q g2 k' v' l2 r2 w2 T2.out F2.out hsz2).mono ?_
      rintro e w3 ⟨z3, rfl, hz3, b3⟩
      rw [HQ.out] at hz3
      have HZ := Lib.hid (And.intro hz3 (bt X2.out b3))
      obtain ⟨t3, hz3', _⟩ := hz3
      subst hz3'
      clear b3
      go_wp2
      go_returns
      exact ⟨_, rfl, HZ.out.1, HZ.out.2⟩
    · have d1 : Op.bytesLess k.toList k'.toList = false := by simpa [sl] using c1
      by_cases c2 : sl k' k = true
      · have d2 : Op.bytesLess k'.toList k.toList = true := c2
        have HB := Lib.hid (show (MT.node g k' v' l r).er.without k = Tr.bal k' v' l.er (r.er.without k) by simp only [MT.er]; rw [without_node, if_neg c1, if_pos c2])
        have hsz := without_size r.er k
        go_enter Try.func49, Try.ntmps49
        go_upto_region 6 with fail
        refine wp_region_adv 11 [] [(0, true, some 37, none), (1, true, some 38, none), (2, true, some 39, none), (3, true, some 40, none), (4, true, some 41, none), (5, true, some 42, none), (6, true, some 43, none), (7, true, some 44, none), (8, true, some 45, none), (9, true, some 46, none), (10, false, some 47, none)] (by kernel_rfl) (by kernel_rfl) (by kernel_rfl) (by intro it hit; (repeat (rcases List.mem_cons.1 hit with rfl | hit; (focus (intro o ho ev w; injection ho with ho; subst ho; kernel_rfl)))); cases hit) (fun _ _ _ _ _ => ⟨fun h => h, fun h => h⟩) hst ?_
        repeat (first | (refine wpSeq_pure (v := ?_) rfl ?_ ?_; rotate_left 1; (focus (intro wq_ hSq_; (try dsimp only at hSq_); go_simp; (try with_reducible rfl); done)); (try simp only [Act.put, List.setIfInBounds_toArray, List.set_cons_zero, List.set_cons_succ])) | (refine wpSeq_pureG (v := ?_) rfl rfl ?_ ?_; rotate_left 1; (focus (intro wq_ hSq_; (try dsimp only at hSq_); go_simp; (try with_reducible rfl); done)); (try simp only [Act.put, List.setIfInBounds_toArray, List.set_cons_zero, List.set_cons_succ])) | (refine wpSeq_off rfl rfl ?_; (try simp only [Act.put, List.setIfInBounds_toArray, List.set_cons_zero, List.set_cons_succ])) | (refine wpSeq_offU rfl ?_; (try simp only [Act.put, List.setIfInBounds_toArray, List.set_cons_zero, List.set_cons_succ])))
        first | refine wpSeq_call rfl (fun u1 g1 s1 K hK => ?_) | refine wpSeq_callG rfl rfl (fun u1 g1 s1 K hK => ?_)
        go_simp
        refine (HIR.out k u1 (HH.out.2.2.2.below s1) (HF.out.ext s1) (by omega)).mono ?_
        rintro e y1 ⟨z1, rfl, ⟨t1, rfl, ht1, he1⟩, b1⟩
        (try go_wp2_with fail)
        refine hK.out _ _ b1 ?_
        clear hK K
        (try simp only [Act.put, List.setIfInBounds_toArray, List.set_cons_zero, List.set_cons_succ])
        repeat (first | (refine wpSeq_pure (v := ?_) rfl ?_ ?_; rotate_left 1; (focus (intro wq_ hSq_; (try dsimp only at hSq_); go_simp; (try with_reducible rfl); done)); (try simp only [Act.put, List.setIfInBounds_toArray, List.set_cons_zero, List.set_cons_succ])) | (refine wpSeq_pureG (v := ?_) rfl rfl ?_ ?_; rotate_left 1; (focus (intro wq_ hSq_; (try dsimp only at hSq_); go_simp; (try with_reducible rfl); done)); (try simp only [Act.put, List.setIfInBounds_toArray, List.set_cons_zero, List.set_cons_succ])) | (refine wpSeq_off rfl rfl ?_; (try simp only [Act.put, List.setIfInBounds_toArray, List.set_cons_zero, List.set_cons_succ])) | (refine wpSeq_offU rfl ?_; (try simp only [Act.put, List.setIfInBounds_toArray, List.set_cons_zero, List.set_cons_succ])))
        intro w1 g1' s1'
        (try simp only [endJ, List.drop_succ_cons, List.drop_zero])
        have T1 := Lib.hid (ht1.below g1')
        have N1 := Lib.hid (HH.out.below s1')
        have F1 := Lib.hid (HF.out.ext s1')
        have X1 := Lib.hid s1'
        have HE := Lib.hid he1
        have hz1 : l.er.size + t1.er.size ≤ 100000000 := by rw [he1]; omega
        clear kc c0 hst s1 g1 b1 g1' s1' ht1 he1
        go_wp2_with fail
        refine (rjoin_any B Q g k' v' l r l t1 w1 N1.out N1.out.2.2.1 T1.out F1.out (by omega)).mono ?_
        rintro e w2 ⟨z2, rfl, ⟨t2, rfl, ht2, he2⟩, b2⟩
        obtain ⟨g2, l2, r2, rfl, hl2, hr2⟩ := er_node he2
        have T2 := Lib.hid ht2
        have X2 := Lib.hid (bt X1.out b2)
        have F2 := Lib.hid (F1.out.ext b2)
        have HQ := Lib.hid (show Tr.bal k' v' l2.er r2.er = (MT.node g k' v' l r).er.without k by rw [HB.out, hl2, hr2, HE.out])
        have hsz2 : l2.er.size + r2.er.size ≤ 100000000 := by rw [hl2, hr2]; exact hz1
        rw [MT.ad_node]
        clear ht2 he2 b2 hl2 hr2
        go_wp2_with fail
        refine (rbalanced_any B Q g2 k' v' l2 r2 w2 T2.out F2.out hsz2).mono ?_
        rintro e w3 ⟨z3, rfl, hz3, b3⟩
        rw [HQ.out] at hz3
        have HZ := Lib.hid (And.intro hz3 (bt X2.out b3))
        obtain ⟨t3, hz3', _⟩ := hz3
        subst hz3'
        clear b3
        go_wp2
        go_returns
        exact ⟨_, rfl, HZ.out.1, HZ.out.2⟩
      · have ek : k = k' := sl_eq (by simpa using c1) (by simpa using c2)
        subst ek
        have d2 : Op.bytesLess k.toList k.toList = false := sl_irrefl k
        cases l with
        | nil =>
          simp only [show MT.nil.ad = none from rfl] at kc c0
          have HE := Lib.hid (show TrR B Q ((MT.node g k v' .nil r).er.without k) (.pointer r.ad) w from ⟨r, rfl, HH.out.2.2.2, by simp only [MT.er]; rw [without_node, if_neg c1, if_neg c1]⟩)
          clear kc hst
          go_enter Try.func49, Try.ntmps49
          go_wp2
          go_returns
          exact ⟨_, rfl, HE.out, Below.refl _ _⟩
        | node gl lk lv ll lr =>
          cases r with
          | nil =>
            simp only [MT.ad_node, show MT.nil.ad = none from rfl] at kc c0
            have HE := Lib.hid (show TrR B Q ((MT.node g k v' (.node gl lk lv ll lr) .nil).er.without k) (.pointer (some ⟨gl, 0, none⟩)) w from ⟨.node gl lk lv ll lr, rfl, HH.out.2.2.1, by simp only [MT.er]; rw [without_node, if_neg c1, if_neg c1]⟩)
            clear kc hst
            go_enter Try.func49, Try.ntmps49
            go_wp2
            go_returns
            exact ⟨_, rfl, HE.out, Below.refl _ _⟩
          | node gr rk rv rl rr =>
            obtain ⟨L, hL⟩ : ∃ L, MT.node gl lk lv ll lr = L := ⟨_, rfl⟩
            obtain ⟨R, hR⟩ : ∃ R, MT.node gr rk rv rl rr = R := ⟨_, rfl⟩
            have hRa : R.ad = some ⟨gr, 0, none⟩ := by rw [← hR]; rfl
            have hLa : L.ad = some ⟨gl, 0, none⟩ := by rw [← hL]; rfl
            have HB := Lib.hid (show (MT.node g k v' (.node gl lk lv ll lr) (.node gr rk rv rl rr)).er.without k = Tr.bal R.er.first.1 R.er.first.2 L.er (R.er.without R.er.first.1) by
              rw [← hL, ← hR]
              simp only [MT.er]
              rw [without_node, if_neg c1, if_neg c1])
            have HFR := Lib.hid (rfirst_any B Q gr rk rv rl rr w (by rw [hR]; exact hR ▸ HH.out.2.2.2))
            rw [hR] at HFR
            have hsz := without_size R.er R.er.first.1
            rw [hL] at HIL
            rw [hR] at HIR
            rw [hL, hR] at HH hs'
            simp only [hL, hR] at kc c0
            rw [hLa, hRa] at kc c0
            rw [hRa] at HIR
            rw [hL, hR] at HB ⊢
            have hb1 := L.er.ht_size
            clear hL
            go_enter Try.func49, Try.ntmps49
            go_wp2_with fail
            refine HFR.out.mono ?_
            rintro e w1 ⟨z1, rfl, ⟨gf, fk, fv, fl, fr, rfl, hff, hfe⟩, b1⟩
            rw [hfe] at HB hsz
            have X1 := Lib.hid b1
            have NF := Lib.hid hff
            have N1 := Lib.hid (HH.out.below X1.out)
            have k1 := fun w' (hh : Ext w1 w') => (N1.out.1.below hh).cells
            have kf := fun w' (hh : Ext w1 w') => (NF.out.1.below hh).cells
            simp only [cellsAre, Nat.zero_add, Nat.reduceAdd, and_true] at k1 kf
            rw [hLa, hRa] at k1
            have hst1 : Ext w1 w1.drew := Ext.drew _
            clear kc c0 hst hff hfe b1
            go_upto_region 12 with fail
            refine wp_region_adv 8 [] [(0, true, some 75, none), (1, true, some 76, none), (2, true, some 77, none), (3, true, some 78, none), (4, true, some 79, none), (5, true, some 80, none), (6, true, some 81, none), (7, true, some 82, none)] (by kernel_rfl) (by kernel_rfl) (by kernel_rfl) (by intro it hit; (repeat (rcases List.mem_cons.1 hit with rfl | hit; (focus (intro o ho ev w; injection ho with ho; subst ho; kernel_rfl)))); cases hit) (fun _ _ _ _ _ => ⟨fun h => h, fun h => h⟩) hst1 ?_
            repeat (first | (refine wpSeq_pure (v := ?_) rfl ?_ ?_; rotate_left 1; (focus (intro wq_ hSq_; (try dsimp only at hSq_); go_simp; (try with_reducible rfl); done)); (try simp only [Act.put, List.setIfInBounds_toArray, List.set_cons_zero, List.set_cons_succ])) | (refine wpSeq_pureG (v := ?_) rfl rfl ?_ ?_; rotate_left 1; (focus (intro wq_ hSq_; (try dsimp only at hSq_); go_simp; (try with_reducible rfl); done)); (try simp only [Act.put, List.setIfInBounds_toArray, List.set_cons_zero, List.set_cons_succ])) | (refine wpSeq_off rfl rfl ?_; (try simp only [Act.put, List.setIfInBounds_toArray, List.set_cons_zero, List.set_cons_succ])) | (refine wpSeq_offU rfl ?_; (try simp only [Act.put, List.setIfInBounds_toArray, List.set_cons_zero, List.set_cons_succ])))
            intro w2 g2 s2
            (try simp only [endJ, List.drop_succ_cons, List.drop_zero])
            go_wp2_with fail
            refine (HIR.out fk w2 (N1.out.2.2.2.below s2) (HF.out.ext (bt X1.out s2)) (by omega)).mono ?_
            rintro e w3 ⟨z3, rfl, ⟨t1, rfl, ht1, he1⟩, b3⟩
            have X3 := Lib.hid (bt s2 b3)
            have T1 := Lib.hid ht1
            have HE := Lib.hid he1
            have N3 := Lib.hid (N1.out.below X3.out)
            have k3 := fun w' (hh : Ext w3 w') => (N3.out.1.below hh).cells
            have kf3 := fun w' (hh : Ext w3 w') => ((NF.out.1.below X3.out).below hh).cells
            simp only [cellsAre, Nat.zero_add, Nat.reduceAdd, and_true] at k3 kf3
            rw [hLa, hRa] at k3
            have hst3 : Ext w3 w3.drew := Ext.drew _
            have hz1 : L.er.size + t1.er.size ≤ 100000000 := by rw [he1]; omega
            have hb2 := t1.er.ht_size
            obtain ⟨H1, hH1⟩ : ∃ H, L.er.ht = H := ⟨_, rfl⟩
            obtain ⟨H2, hH2⟩ : ∃ H, t1.er.ht = H := ⟨_, rfl⟩
            rw [hH1] at hb1
            rw [hH2] at hb2
            have HH1 := Lib.hid hH1
            have HH2 := Lib.hid hH2
            have HLH := Lib.hid (fun u (hu : Ext w3 u) => rheight_any B Q L u (N3.out.2.2.1.below hu))
            rw [hLa] at HLH
            clear hst1 k1 kf s2 g2 b3 ht1 he1 HFR
            rcases Nat.lt_or_ge H1 H2 with hle | hle
            · have hle1 : (H1 : Int) < (H2 : Int) := by omega
              have hle2 : (H1 : Int) ≤ (H2 : Int) := by omega
              have HM := Lib.hid (show ((1 + max L.er.ht t1.er.ht : Nat) : Int) = 1 + (H2 : Int) by rw [hH1, hH2]; omega)
              have hM1 : IntKind.i64.wrap (1 + (H2 : Int)) = 1 + (H2 : Int) := IntWalk.i64_in _ (by omega)
              clear hH1 hH2
              go_upto_region 13 with fail
              refine wp_region_adv 22 [] [(0, true, some 84, none), (1, true, some 85, none), (2, true, some 86, none), (3, true, some 87, none), (4, true, some 88, none), (5, true, some 89, none), (6, true, some 90, none), (7, true, some 91, none), (8, true, some 92, none), (9, true, some 93, none), (10, true, some 94, none), (11, true, some 95, none), (12, true, some 96, none), (13, true, some 97, none), (14, true, some 98, none), (15, true, some 99, none), (16, true, some 100, none), (18, true, some 102, none), (17, false, some 101, none), (19, false, some 103, none), (20, true, some 104, none), (21, true, some 105, none)] (by kernel_rfl) (by kernel_rfl) (by kernel_rfl) (by intro it hit; (repeat (rcases List.mem_cons.1 hit with rfl | hit; (focus (intro o ho ev w; injection ho with ho; subst ho; kernel_rfl)))); cases hit) (fun _ _ _ _ _ => ⟨fun h => h, fun h => h⟩) hst3 ?_
              repeat (first | (refine wpSeq_pure (v := ?_) rfl ?_ ?_; rotate_left 1; (focus (intro wq_ hSq_; (try dsimp only at hSq_); go_simp; (try with_reducible rfl); done)); (try simp only [Act.put, List.setIfInBounds_toArray, List.set_cons_zero, List.set_cons_succ])) | (refine wpSeq_pureG (v := ?_) rfl rfl ?_ ?_; rotate_left 1; (focus (intro wq_ hSq_; (try dsimp only at hSq_); go_simp; (try with_reducible rfl); done)); (try simp only [Act.put, List.setIfInBounds_toArray, List.set_cons_zero, List.set_cons_succ])) | (refine wpSeq_off rfl rfl ?_; (try simp only [Act.put, List.setIfInBounds_toArray, List.set_cons_zero, List.set_cons_succ])) | (refine wpSeq_offU rfl ?_; (try simp only [Act.put, List.setIfInBounds_toArray, List.set_cons_zero, List.set_cons_succ])))
              first | refine wpSeq_call rfl (fun u1 g1 s1 K hK => ?_) | refine wpSeq_callG rfl rfl (fun u1 g1 s1 K hK => ?_)
              go_simp
              refine (HLH.out u1 s1).mono ?_
              rintro e y1 ⟨q1, rfl, rfl, b1⟩
              rw [HH1.out]
              (try go_wp2_with fail)
              refine hK.out _ _ b1 ?_
              clear hK K
              (try simp only [Act.put, List.setIfInBounds_toArray, List.set_cons_zero, List.set_cons_succ])
              repeat (first | (refine wpSeq_pure (v := ?_) rfl ?_ ?_; rotate_left 1; (focus (intro wq_ hSq_; (try dsimp only at hSq_); go_simp; (try with_reducible rfl); done)); (try simp only [Act.put, List.setIfInBounds_toArray, List.set_cons_zero, List.set_cons_succ])) | (refine wpSeq_pureG (v := ?_) rfl rfl ?_ ?_; rotate_left 1; (focus (intro wq_ hSq_; (try dsimp only at hSq_); go_simp; (try with_reducible rfl); done)); (try simp only [Act.put, List.setIfInBounds_toArray, List.set_cons_zero, List.set_cons_succ])) | (refine wpSeq_off rfl rfl ?_; (try simp only [Act.put, List.setIfInBounds_toArray, List.set_cons_zero, List.set_cons_succ])) | (refine wpSeq_offU rfl ?_; (try simp only [Act.put, List.setIfInBounds_toArray, List.set_cons_zero, List.set_cons_succ])))
              first | refine wpSeq_call rfl (fun u2 g2 s2 K hK => ?_) | refine wpSeq_callG rfl rfl (fun u2 g2 s2 K hK => ?_)
              go_simp
              refine (rheight_any B Q t1 u2 (T1.out.below s2)).mono ?_
              rintro e y2 ⟨q2, rfl, rfl, b2⟩
              rw [HH2.out]
              (try go_wp2_with fail)
              refine hK.out _ _ b2 ?_
              clear hK K
              (try simp only [Act.put, List.setIfInBounds_toArray, List.set_cons_zero, List.set_cons_succ])
              repeat (first | (refine wpSeq_pure (v := ?_) rfl ?_ ?_; rotate_left 1; (focus (intro wq_ hSq_; (try dsimp only at hSq_); go_simp; (try with_reducible rfl); done)); (try simp only [Act.put, List.setIfInBounds_toArray, List.set_cons_zero, List.set_cons_succ])) | (refine wpSeq_pureG (v := ?_) rfl rfl ?_ ?_; rotate_left 1; (focus (intro wq_ hSq_; (try dsimp only at hSq_); go_simp; (try with_reducible rfl); done)); (try simp only [Act.put, List.setIfInBounds_toArray, List.set_cons_zero, List.set_cons_succ])) | (refine wpSeq_off rfl rfl ?_; (try simp only [Act.put, List.setIfInBounds_toArray, List.set_cons_zero, List.set_cons_succ])) | (refine wpSeq_offU rfl ?_; (try simp only [Act.put, List.setIfInBounds_toArray, List.set_cons_zero, List.set_cons_succ])))
              intro wz gz sz_
              (try simp only [endJ, List.drop_succ_cons, List.drop_zero])
              have hfz := HF.out wz.heap.size (Ext.size (bt X1.out (bt X3.out sz_)))
              have hxa : Ext wz (wz.alloc (.cells #[.string fk, .string fv, .pointer (some ⟨gl, 0, none⟩), .pointer t1.ad, .int .i64 (1 + (H2 : Int)), .int .i64 0] TNO)) := Ext.allocR _ _
              have HN := Lib.hid (show TrW (wz.alloc (.cells #[.string fk, .string fv, .pointer (some ⟨gl, 0, none⟩), .pointer t1.ad, .int .i64 (1 + (H2 : Int)), .int .i64 0] TNO)) B Q (.node wz.heap.size fk fv L t1) from
                ⟨by rw [HM.out, hfz.1, hLa]; exact Blk.new_ _ _ rfl, hfz.2, (N3.out.2.2.1.below sz_).below hxa, (T1.out.below sz_).below hxa⟩)
              have XZ := Lib.hid (bt X1.out (bt X3.out (bt sz_ hxa)))
              clear k3 kf3 hst3 s1 g1 b1 s2 g2 b2 gz sz_ hfz hxa
              go_wp2_with fail
              refine (rbalanced_any B Q _ fk fv L t1 _ HN.out (HF.out.ext XZ.out) hz1).mono ?_
              rintro e w5 ⟨z5, rfl, hz5, b5⟩
              have HZ := Lib.hid (And.intro hz5 (bt XZ.out b5))
              obtain ⟨t5, hz5', _⟩ := hz5
              subst hz5'
              clear b5
              go_wp2
              go_returns
              exact ⟨_, rfl, by rw [HB.out, ← HE.out]; exact HZ.out.1, HZ.out.2⟩
            · have hle1 : (H2 : Int) ≤ (H1 : Int) := by omega
              have hle2 : ¬ (H1 : Int) < (H2 : Int) := by omega
              have HM := Lib.hid (show ((1 + max L.er.ht t1.er.ht : Nat) : Int) = 1 + (H1 : Int) by rw [hH1, hH2]; omega)
              have hM1 : IntKind.i64.wrap (1 + (H1 : Int)) = 1 + (H1 : Int) := IntWalk.i64_in _ (by omega)
              clear hH1 hH2
              go_upto_region 13 with fail
              refine wp_region_adv 22 [] [(0, true, some 84, none), (1, true, some 85, none), (2, true, some 86, none), (3, true, some 87, none), (4, true, some 88, none), (5, true, some 89, none), (6, true, some 90, none), (7, true, some 91, none), (8, true, some 92, none), (9, true, some 93, none), (10, true, some 94, none), (11, true, some 95, none), (12, true, some 96, none), (13, true, some 97, none), (14, true, some 98, none), (15, true, some 99, none), (16, true, some 100, none), (18, true, some 102, none), (17, false, some 101, none), (19, false, some 103, none), (20, true, some 104, none), (21, true, some 105, none)] (by kernel_rfl) (by kernel_rfl) (by kernel_rfl) (by intro it hit; (repeat (rcases List.mem_cons.1 hit with rfl | hit; (focus (intro o ho ev w; injection ho with ho; subst ho; kernel_rfl)))); cases hit) (fun _ _ _ _ _ => ⟨fun h => h, fun h => h⟩) hst3 ?_
              repeat (first | (refine wpSeq_pure (v := ?_) rfl ?_ ?_; rotate_left 1; (focus (intro wq_ hSq_; (try dsimp only at hSq_); go_simp; (try with_reducible rfl); done)); (try simp only [Act.put, List.setIfInBounds_toArray, List.set_cons_zero, List.set_cons_succ])) | (refine wpSeq_pureG (v := ?_) rfl rfl ?_ ?_; rotate_left 1; (focus (intro wq_ hSq_; (try dsimp only at hSq_); go_simp; (try with_reducible rfl); done)); (try simp only [Act.put, List.setIfInBounds_toArray, List.set_cons_zero, List.set_cons_succ])) | (refine wpSeq_off rfl rfl ?_; (try simp only [Act.put, List.setIfInBounds_toArray, List.set_cons_zero, List.set_cons_succ])) | (refine wpSeq_offU rfl ?_; (try simp only [Act.put, List.setIfInBounds_toArray, List.set_cons_zero, List.set_cons_succ])))
              first | refine wpSeq_call rfl (fun u1 g1 s1 K hK => ?_) | refine wpSeq_callG rfl rfl (fun u1 g1 s1 K hK => ?_)
              go_simp
              refine (HLH.out u1 s1).mono ?_
              rintro e y1 ⟨q1, rfl, rfl, b1⟩
              rw [HH1.out]
              (try go_wp2_with fail)
              refine hK.out _ _ b1 ?_
              clear hK K
              (try simp only [Act.put, List.setIfInBounds_toArray, List.set_cons_zero, List.set_cons_succ])
              repeat (first | (refine wpSeq_pure (v := ?_) rfl ?_ ?_; rotate_left 1; (focus (intro wq_ hSq_; (try dsimp only at hSq_); go_simp; (try with_reducible rfl); done)); (try simp only [Act.put, List.setIfInBounds_toArray, List.set_cons_zero, List.set_cons_succ])) | (refine wpSeq_pureG (v := ?_) rfl rfl ?_ ?_; rotate_left 1; (focus (intro wq_ hSq_; (try dsimp only at hSq_); go_simp; (try with_reducible rfl); done)); (try simp only [Act.put, List.setIfInBounds_toArray, List.set_cons_zero, List.set_cons_succ])) | (refine wpSeq_off rfl rfl ?_; (try simp only [Act.put, List.setIfInBounds_toArray, List.set_cons_zero, List.set_cons_succ])) | (refine wpSeq_offU rfl ?_; (try simp only [Act.put, List.setIfInBounds_toArray, List.set_cons_zero, List.set_cons_succ])))
              first | refine wpSeq_call rfl (fun u2 g2 s2 K hK => ?_) | refine wpSeq_callG rfl rfl (fun u2 g2 s2 K hK => ?_)
              go_simp
              refine (rheight_any B Q t1 u2 (T1.out.below s2)).mono ?_
              rintro e y2 ⟨q2, rfl, rfl, b2⟩
              rw [HH2.out]
              (try go_wp2_with fail)
              refine hK.out _ _ b2 ?_
              clear hK K
              (try simp only [Act.put, List.setIfInBounds_toArray, List.set_cons_zero, List.set_cons_succ])
              repeat (first | (refine wpSeq_pure (v := ?_) rfl ?_ ?_; rotate_left 1; (focus (intro wq_ hSq_; (try dsimp only at hSq_); go_simp; (try with_reducible rfl); done)); (try simp only [Act.put, List.setIfInBounds_toArray, List.set_cons_zero, List.set_cons_succ])) | (refine wpSeq_pureG (v := ?_) rfl rfl ?_ ?_; rotate_left 1; (focus (intro wq_ hSq_; (try dsimp only at hSq_); go_simp; (try with_reducible rfl); done)); (try simp only [Act.put, List.setIfInBounds_toArray, List.set_cons_zero, List.set_cons_succ])) | (refine wpSeq_off rfl rfl ?_; (try simp only [Act.put, List.setIfInBounds_toArray, List.set_cons_zero, List.set_cons_succ])) | (refine wpSeq_offU rfl ?_; (try simp only [Act.put, List.setIfInBounds_toArray, List.set_cons_zero, List.set_cons_succ])))
              intro wz gz sz_
              (try simp only [endJ, List.drop_succ_cons, List.drop_zero])
              have hfz := HF.out wz.heap.size (Ext.size (bt X1.out (bt X3.out sz_)))
              have hxa : Ext wz (wz.alloc (.cells #[.string fk, .string fv, .pointer (some ⟨gl, 0, none⟩), .pointer t1.ad, .int .i64 (1 + (H1 : Int)), .int .i64 0] TNO)) := Ext.allocR _ _
              have HN := Lib.hid (show TrW (wz.alloc (.cells #[.string fk, .string fv, .pointer (some ⟨gl, 0, none⟩), .pointer t1.ad, .int .i64 (1 + (H1 : Int)), .int .i64 0] TNO)) B Q (.node wz.heap.size fk fv L t1) from
                ⟨by rw [HM.out, hfz.1, hLa]; exact Blk.new_ _ _ rfl, hfz.2, (N3.out.2.2.1.below sz_).below hxa, (T1.out.below sz_).below hxa⟩)
              have XZ := Lib.hid (bt X1.out (bt X3.out (bt sz_ hxa)))
              clear k3 kf3 hst3 s1 g1 b1 s2 g2 b2 gz sz_ hfz hxa
              go_wp2_with fail
              refine (rbalanced_any B Q _ fk fv L t1 _ HN.out (HF.out.ext XZ.out) hz1).mono ?_
              rintro e w5 ⟨z5, rfl, hz5, b5⟩
              have HZ := Lib.hid (And.intro hz5 (bt XZ.out b5))
              obtain ⟨t5, hz5', _⟩ := hz5
              subst hz5'
              clear b5
              go_wp2
              go_returns
              exact ⟨_, rfl, by rw [HB.out, ← HE.out]; exact HZ.out.1, HZ.out.2⟩
end Go.Proofs.Tb
